/- Who is refused as full has no place; the law BookFull. -/
import Derived.Test.YtfbcmifclaaacaaBook
import Derived.Test.YtfbcmifclaaacaaHeld
set_option linter.unusedVariables false
namespace Go.Proofs.Ytfbcmifclaaacaa
open Go.RowKit

/-! ### the plain law -/
theorem reqE_ne8 (l : List Queue) (r : Request) : reqE l r ≠ 8 := by
  have := checkT_nums l
  unfold reqE
  repeat' split
  all_goals omega
theorem firstE_ne8 (l : List Queue) : ∀ b : List Book, firstE l b ≠ 8
  | [] => by rw [firstE]; decide
  | x :: b => by
    rw [firstE]
    split
    · exact reqE_ne8 l x.Req
    · split
      · exact firstE_ne8 l b
      · decide
theorem booksE_ne8 (l : List Queue) (b : List Book) : booksE l b ≠ 8 := by
  have := checkT_nums l
  unfold booksE
  split
  · omega
  · split
    · decide
    · exact firstE_ne8 l b
theorem stateE_ne8 (s : State) : stateE s ≠ 8 := by
  have h1 : formE s ≠ 8 := by
    unfold formE
    split
    · exact booksE_ne8 _ _
    · repeat' split
      all_goals decide
  unfold stateE
  split
  · exact h1
  · split <;> decide
theorem mayE_ne8 (s : State) (r : Request) : mayE s r ≠ 8 := by
  unfold mayE
  split
  · exact stateE_ne8 s
  · split
    · exact reqE_ne8 _ _
    · split <;> decide
theorem submit_full {s S : State} {r : Request} {n : Int} (h : submitR s r = (S, n, 8)) : mayE s r = 0 ∧ placeL (plotT s r) r = [] := by
  by_cases h0 : mayE s r = 0
  · by_cases h1 : s.Books.length = 12 ∨ s.Next = 1048576
    · rw [submitR_many h0 h1] at h
      exact absurd (show (2 : Int) = 8 from congrArg (fun p => p.2.2) h) (by decide)
    · by_cases h2 : placeL (plotT s r) r = []
      · exact ⟨h0, h2⟩
      · rw [submitR_ok h0 h1 h2] at h
        exact absurd (show (0 : Int) = 8 from congrArg (fun p => p.2.2) h) (by decide)
  · rw [submitR_bad h0] at h
    exact absurd (show mayE s r = 8 from congrArg (fun p => p.2.2) h) (mayE_ne8 s r)
theorem meets_within {r : Request} {b : List Bite} (h : meetsR r b = true) : ReqOk r ∧ ∀ k, k < b.length → BiteIn r b k := by
  rw [meetsR_iff] at h
  obtain ⟨h1, h2, h3⟩ := h
  obtain ⟨s0, s1, s2⟩ := h1.range.1
  have hlow := step_low h2
  exact ⟨h1, fun k hk => ⟨hlow k hk, (h2 k hk).is, by have := (h2 k hk).from_; omega, by have := (h2 k hk).until_; omega⟩⟩
/-- who is refused as full: the room is told, and nothing that meets the request is held by it -/
theorem full_law {s S : State} {r : Request} {n : Int} {b : List Bite} (h : submitR s r = (S, n, 8)) (hk : r.Kind ≠ 1) (hm : meetsR r b = true) :
    roomR s.Tree s.Books r.Queue = (fold (roomT s.Tree s.Books r.Queue), 0) ∧ heldGo r (fold (roomT s.Tree s.Books r.Queue)) b = false := by
  obtain ⟨h0, h1⟩ := submit_full h
  obtain ⟨g0, g1, _⟩ := mayE_zero h0
  obtain ⟨_, g2, g3⟩ := reqE_zero g1
  obtain ⟨hf, _⟩ := stateE_zero g0
  obtain ⟨hb, _⟩ := formE_zero hf
  refine ⟨roomR_ok hb g3, ?_⟩
  cases hh : heldGo r (fold (roomT s.Tree s.Books r.Queue)) b with
  | false => rfl
  | true => exact absurd h1 (place_sure g2 hk hm hh).1

set_option maxRecDepth 100000 in
set_option maxHeartbeats 8000000 in
theorem bookFull_any (w : World) (sv : Value) (s : State) (rv : Value) (r : Request) (zv : Value) (b : List Bite) (hs : StateV w sv s) (hr : ReqV w rv r) (hz : BitesV w zv b) :
    Calls Try.prog 8 #[sv, rv, zv] w fun e w' => e = .returned (.bool true) ∧ Ext w w' := by
  obtain ⟨cs, rfl, tv, bv, rfl, ht, hb, _⟩ := hs
  obtain ⟨rs, rfl, pv, rfl, hp, hI⟩ := hr
  obtain ⟨⟨S, n, er⟩, hsr⟩ : ∃ x, submitR s r = x := ⟨_, rfl⟩
  have SU := hid (fun (W : World) (h : Ext w W) => ret3_parts (S := S) (n := n) (m := er) (by have := Submit_any W tv bv pv s r (ht.mono h) (hb.mono h) (hp.mono h) hI; rwa [hsr] at this))
  have BG := hid (fun (W : World) => bookBegun_true W)
  have ME := hid (fun (W : World) (h : Ext w W) => Meets_any W pv zv r b (hp.mono h) (hz.mono h))
  have HE := hid (fun (f : List Run) (fv : Value) (hm : meetsR r b = true) (W : World) (h : Ext w W) (hf : RunsV W fv f) => held_any W fv pv zv f r b hf (hp.mono h) (hz.mono h) (meets_within hm).1 (meets_within hm).2)
  have RO := hid (fun (n : Int) (f : List Run) (hr : roomR s.Tree s.Books r.Queue = (f, n)) (W : World) (h : Ext w W) => roomOf_is (w := W) hr (ht.mono h) (hb.mono h))
  have FL := hid (fun (h8 : er = 8) (h : r.Kind ≠ 1) (hm : meetsR r b = true) => full_law (s := s) (S := S) (n := n) (by rw [hsr, h8]) h hm)
  obtain ⟨wb, hwb, HX, HSS, HRR, hszb⟩ := two_boxes w s r tv bv pv
  have HX0 := hid HX
  have HS0 := hid HSS
  have HR0 := hid HRR
  have HWB := hid hwb
  clear HX HSS HRR hwb hszb hsr
  obtain ⟨qa, qc, rfl, _, _, _⟩ := ht.form
  obtain ⟨ba, bc, rfl, _, _, _⟩ := hb.form
  obtain ⟨pa, pc, rfl, _, _, _⟩ := hp.form
  obtain ⟨za, zc, rfl, _, _, _⟩ := hz.form
  clear ht hb hp hz
  by_cases h8 : er = 8
  · by_cases hk1 : r.Kind = 1
    · have hk1' := eqT hk1
      subst h8
      clear FL HE RO hk1
      generalize s.Tree.length = sn at *
      generalize s.Books.length = sz at *
      generalize r.Pieces.length = pn at *
      generalize b.length = zn at *
      go_enter Try.func8, Try.ntmps8
      go_wp2_with fail
      rw [HWB.out]
      refine (SU.out _ HX0.out).mono ?_
      rintro e w2 ⟨u2, v2, rfl, hu2, hv2, hx2⟩
      obtain ⟨ua, uc, rfl, _, _, _⟩ := hu2.form
      obtain ⟨va, vc, rfl, _, _, _⟩ := hv2.form
      have hal := (Ext.rf w2).al (.cells #[.int .i64 S.Clock, .int .i64 S.Next, .slice ua S.Tree.length uc, .slice va S.Books.length vc] 25)
      have HX2 := hid (hx2.tr hal)
      obtain ⟨a0, a1, a2, a3⟩ := HS0.out w2 hx2
      obtain ⟨c0, c1, c2, c3, c4⟩ := HR0.out w2 hx2
      have hlt1 : w.heap.size < w2.heap.size := World.block_lt_of_cell? _ _ a0
      have hlt2 : w.heap.size + 1 < w2.heap.size := World.block_lt_of_cell? _ _ c0
      clear hu2 hv2 hal hx2
      go_wp2_with fail
      refine (BG.out _).mono ?_
      rintro e w4 ⟨rfl, hx4⟩
      go_wp2_with fail
      go_ret
      exact ⟨rfl, HX0.out.tr (HX2.out.tr hx4)⟩
    · have hk1' := eqF hk1
      by_cases hm : meetsR r b = true
      · obtain ⟨l1, l2⟩ := FL.out h8 hk1 hm
        have RO' := hid (RO.out _ _ l1)
        have HE' := hid (HE.out (fold (roomT s.Tree s.Books r.Queue)) · hm)
        rw [l2] at HE'
        have ME' := ME
        rw [hm] at ME'
        subst h8
        clear FL HE RO ME l1 l2 hk1 hm
        generalize fold (roomT s.Tree s.Books r.Queue) = F at *
        generalize s.Tree.length = sn at *
        generalize s.Books.length = sz at *
        generalize r.Pieces.length = pn at *
        generalize b.length = zn at *
        go_enter Try.func8, Try.ntmps8
        go_wp2_with fail
        rw [HWB.out]
        refine (SU.out _ HX0.out).mono ?_
        rintro e w2 ⟨u2, v2, rfl, hu2, hv2, hx2⟩
        obtain ⟨ua, uc, rfl, _, _, _⟩ := hu2.form
        obtain ⟨va, vc, rfl, _, _, _⟩ := hv2.form
        have hal := (Ext.rf w2).al (.cells #[.int .i64 S.Clock, .int .i64 S.Next, .slice ua S.Tree.length uc, .slice va S.Books.length vc] 25)
        have HX2 := hid (hx2.tr hal)
        obtain ⟨a0, a1, a2, a3⟩ := HS0.out w2 hx2
        obtain ⟨c0, c1, c2, c3, c4⟩ := HR0.out w2 hx2
        have hlt1 : w.heap.size < w2.heap.size := World.block_lt_of_cell? _ _ a0
        have hlt2 : w.heap.size + 1 < w2.heap.size := World.block_lt_of_cell? _ _ c0
        clear hu2 hv2 hal hx2
        go_wp2_with fail
        refine (ME'.out _ (HX0.out.tr HX2.out)).mono ?_
        rintro e w3 ⟨rfl, hx3⟩
        have HX3 := hid (HX2.out.tr hx3)
        clear a0 a1 a2 a3 c0 c1 c2 c3 c4 hlt1 hlt2 hx3
        obtain ⟨a0, a1, a2, a3⟩ := HS0.out w3 HX3.out
        obtain ⟨c0, c1, c2, c3, c4⟩ := HR0.out w3 HX3.out
        go_wp2_with fail
        refine (RO'.out _ (HX0.out.tr HX3.out)).mono ?_
        rintro e w5 ⟨fv, rfl, hf, hx5⟩
        have HF := hid hf
        have HX5 := hid (HX3.out.tr hx5)
        obtain ⟨fa, fc, rfl, _, _, _⟩ := hf.form
        clear hf hx5 a0 a1 a2 a3 c0 c1 c2 c3 c4
        go_wp2_with fail
        refine (BG.out _).mono ?_
        rintro e w6 ⟨rfl, hx6⟩
        have HX6 := hid (HX5.out.tr hx6)
        obtain ⟨c0, c1, c2, c3, c4⟩ := HR0.out w6 HX6.out
        have HF6 := hid (HF.out.mono hx6)
        clear hx6
        go_wp2_with fail
        refine (HE'.out _ _ (HX0.out.tr HX6.out) HF6.out).mono ?_
        rintro e w7 ⟨rfl, hx7⟩
        go_wp2_with fail
        go_ret
        exact ⟨rfl, HX0.out.tr (HX6.out.tr hx7)⟩
      · have hm' : meetsR r b = false := by simpa using hm
        have ME' := ME
        rw [hm'] at ME'
        subst h8
        clear FL HE RO ME hk1 hm hm'
        generalize s.Tree.length = sn at *
        generalize s.Books.length = sz at *
        generalize r.Pieces.length = pn at *
        generalize b.length = zn at *
        go_enter Try.func8, Try.ntmps8
        go_wp2_with fail
        rw [HWB.out]
        refine (SU.out _ HX0.out).mono ?_
        rintro e w2 ⟨u2, v2, rfl, hu2, hv2, hx2⟩
        obtain ⟨ua, uc, rfl, _, _, _⟩ := hu2.form
        obtain ⟨va, vc, rfl, _, _, _⟩ := hv2.form
        have hal := (Ext.rf w2).al (.cells #[.int .i64 S.Clock, .int .i64 S.Next, .slice ua S.Tree.length uc, .slice va S.Books.length vc] 25)
        have HX2 := hid (hx2.tr hal)
        obtain ⟨a0, a1, a2, a3⟩ := HS0.out w2 hx2
        obtain ⟨c0, c1, c2, c3, c4⟩ := HR0.out w2 hx2
        have hlt1 : w.heap.size < w2.heap.size := World.block_lt_of_cell? _ _ a0
        have hlt2 : w.heap.size + 1 < w2.heap.size := World.block_lt_of_cell? _ _ c0
        clear hu2 hv2 hal hx2
        go_wp2_with fail
        refine (ME'.out _ (HX0.out.tr HX2.out)).mono ?_
        rintro e w3 ⟨rfl, hx3⟩
        have HX3 := hid (HX2.out.tr hx3)
        clear a0 a1 a2 a3 c0 c1 c2 c3 c4 hlt1 hlt2 hx3
        obtain ⟨a0, a1, a2, a3⟩ := HS0.out w3 HX3.out
        obtain ⟨c0, c1, c2, c3, c4⟩ := HR0.out w3 HX3.out
        go_wp2_with fail
        refine (BG.out _).mono ?_
        rintro e w4 ⟨rfl, hx4⟩
        go_wp2_with fail
        go_ret
        exact ⟨rfl, HX0.out.tr (HX3.out.tr hx4)⟩
  · have h8' := neT h8
    clear FL HE RO h8
    generalize s.Tree.length = sn at *
    generalize s.Books.length = sz at *
    generalize r.Pieces.length = pn at *
    generalize b.length = zn at *
    go_enter Try.func8, Try.ntmps8
    go_wp2_with fail
    rw [HWB.out]
    refine (SU.out _ HX0.out).mono ?_
    rintro e w2 ⟨u2, v2, rfl, hu2, hv2, hx2⟩
    obtain ⟨ua, uc, rfl, _, _, _⟩ := hu2.form
    obtain ⟨va, vc, rfl, _, _, _⟩ := hv2.form
    have hal := (Ext.rf w2).al (.cells #[.int .i64 S.Clock, .int .i64 S.Next, .slice ua S.Tree.length uc, .slice va S.Books.length vc] 25)
    have HX2 := hid (hx2.tr hal)
    obtain ⟨a0, a1, a2, a3⟩ := HS0.out w2 hx2
    obtain ⟨c0, c1, c2, c3, c4⟩ := HR0.out w2 hx2
    have hlt1 : w.heap.size < w2.heap.size := World.block_lt_of_cell? _ _ a0
    have hlt2 : w.heap.size + 1 < w2.heap.size := World.block_lt_of_cell? _ _ c0
    clear hu2 hv2 hal hx2
    go_wp2_with fail
    refine (BG.out _).mono ?_
    rintro e w4 ⟨rfl, hx4⟩
    go_wp2_with fail
    go_ret
    exact ⟨rfl, HX0.out.tr (HX2.out.tr hx4)⟩

end Go.Proofs.Ytfbcmifclaaacaa
