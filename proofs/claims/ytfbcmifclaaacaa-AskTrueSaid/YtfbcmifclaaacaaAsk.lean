/- Walks: questions, and whether a request may be submitted; of the code and of the reference. -/
import Derived.Test.YtfbcmifclaaacaaPlanL
import Derived.Test.YtfbcmifclaaacaaPlaceN
import Derived.Test.YtfbcmifclaaacaaRoomTrue
set_option linter.unusedVariables false
namespace Go.Proofs.Ytfbcmifclaaacaa
open Go.RowKit

/-- the error of a question -/
@[irreducible] noncomputable def askE (s : State) (q t : Int) : Int :=
  if stateE s ≠ 0 then stateE s else if ¬ (0 ≤ q ∧ q < s.Tree.length) then 6 else if ¬ (0 ≤ t ∧ t < 48) then 3 else 0
theorem askE_bad {s : State} {q t : Int} (h : stateE s ≠ 0) : askE s q t = stateE s := by unfold askE; rw [if_pos h]
theorem askE_none {s : State} {q t : Int} (h : stateE s = 0) (h2 : ¬ (0 ≤ q ∧ q < s.Tree.length)) : askE s q t = 6 := by unfold askE; rw [if_neg (by simp [h]), if_pos h2]
theorem askE_range {s : State} {q t : Int} (h : stateE s = 0) (h2 : 0 ≤ q ∧ q < s.Tree.length) (h3 : ¬ (0 ≤ t ∧ t < 48)) : askE s q t = 3 := by unfold askE; rw [if_neg (by simp [h]), if_neg (by simp [h2]), if_pos h3]
theorem askE_ok {s : State} {q t : Int} (h : stateE s = 0) (h2 : 0 ≤ q ∧ q < s.Tree.length) (h3 : 0 ≤ t ∧ t < 48) : askE s q t = 0 := by unfold askE; rw [if_neg (by simp [h]), if_neg (by simp [h2]), if_neg (by simp [h3])]
theorem askE_zero {s : State} {q t : Int} (h : askE s q t = 0) : stateE s = 0 ∧ (0 ≤ q ∧ q < s.Tree.length) ∧ 0 ≤ t ∧ t < 48 := by
  by_cases h0 : stateE s = 0
  · by_cases h1 : 0 ≤ q ∧ q < s.Tree.length
    · by_cases h2 : 0 ≤ t ∧ t < 48
      · exact ⟨h0, h1, h2⟩
      · rw [askE_range h0 h1 h2] at h; exact absurd h (by decide)
    · rw [askE_none h0 h1] at h; exact absurd h (by decide)
  · rw [askE_bad h0] at h; exact absurd h h0

/-- may a request be submitted? -/
@[irreducible] noncomputable def mayE (s : State) (r : Request) : Int :=
  if stateE s ≠ 0 then stateE s else if reqE s.Tree r ≠ 0 then reqE s.Tree r else if r.From < s.Clock then 9 else 0
theorem mayE_bad {s : State} {r : Request} (h : stateE s ≠ 0) : mayE s r = stateE s := by unfold mayE; rw [if_pos h]
theorem mayE_req {s : State} {r : Request} (h : stateE s = 0) (h2 : reqE s.Tree r ≠ 0) : mayE s r = reqE s.Tree r := by unfold mayE; rw [if_neg (by simp [h]), if_pos h2]
theorem mayE_late {s : State} {r : Request} (h : stateE s = 0) (h2 : reqE s.Tree r = 0) (h3 : r.From < s.Clock) : mayE s r = 9 := by unfold mayE; rw [if_neg (by simp [h]), if_neg (by simp [h2]), if_pos h3]
theorem mayE_ok {s : State} {r : Request} (h : stateE s = 0) (h2 : reqE s.Tree r = 0) (h3 : ¬ r.From < s.Clock) : mayE s r = 0 := by unfold mayE; rw [if_neg (by simp [h]), if_neg (by simp [h2]), if_neg h3]
theorem mayE_zero {s : State} {r : Request} (h : mayE s r = 0) : stateE s = 0 ∧ reqE s.Tree r = 0 ∧ ¬ r.From < s.Clock := by
  by_cases h0 : stateE s = 0
  · by_cases h1 : reqE s.Tree r = 0
    · by_cases h2 : r.From < s.Clock
      · rw [mayE_late h0 h1 h2] at h; exact absurd h (by decide)
      · exact ⟨h0, h1, h2⟩
    · rw [mayE_req h0 h1] at h; exact absurd h h1
  · rw [mayE_bad h0] at h; exact absurd h h0

/-- what is taken, what is left -/
@[irreducible] noncomputable def busyR (s : State) (q t : Int) : Int × Int := if askE s q t = 0 then (takenT s.Tree s.Books q.toNat t.toNat, 0) else (0, askE s q t)
theorem busyR_ok {s : State} {q t : Int} (h : askE s q t = 0) : busyR s q t = (takenT s.Tree s.Books q.toNat t.toNat, 0) := by unfold busyR; rw [if_pos h]
theorem busyR_bad {s : State} {q t : Int} (h : askE s q t ≠ 0) : busyR s q t = (0, askE s q t) := by unfold busyR; rw [if_neg h]
@[irreducible] noncomputable def leftR (s : State) (q t : Int) : Int × Int := if askE s q t = 0 then (roomT s.Tree s.Books q t.toNat, 0) else (0, askE s q t)
theorem leftR_ok {s : State} {q t : Int} (h : askE s q t = 0) : leftR s q t = (roomT s.Tree s.Books q t.toNat, 0) := by unfold leftR; rw [if_pos h]
theorem leftR_bad {s : State} {q t : Int} (h : askE s q t ≠ 0) : leftR s q t = (0, askE s q t) := by unfold leftR; rw [if_neg h]

/-- the soonest of the first k bites -/
def soonTo (l : List Bite) (k : Nat) : Int := (l.take k).foldl (fun a x => min a x.At) 48
theorem soonTo_succ {l : List Bite} {k : Nat} {x : Bite} (h : l[k]? = some x) : soonTo l (k + 1) = min (soonTo l k) x.At := by
  unfold soonTo
  rw [List.take_add_one, h]
  simp [List.foldl_append]
theorem soonTo_one {l : List Bite} {x : Bite} (h : l[0]? = some x) (hx : x.At ≤ 48) : soonTo l 1 = x.At := by
  rw [soonTo_succ h]
  show min 48 x.At = x.At
  omega
/-- the bites of a place that is found begin within the times -/
theorem found_at {x : Nat → Int} {r : Request} (hr : ReqOk r) {k : Nat} {b : Bite} (h : (placeL x r)[k]? = some b) : 0 ≤ b.Piece ∧ b.Piece < r.Pieces.length ∧ 0 ≤ b.At ∧ b.At ≤ 48 := by
  have hne : placeL x r ≠ [] := fun he => by rw [he] at h; cases h
  have hm := found_meets hr hne
  have hkl := (List.getElem?_eq_some_iff.1 h).1
  rw [meetsR_iff] at hm
  obtain ⟨h1, h2, _⟩ := hm
  obtain ⟨s0, s1, s2⟩ := h1.range.1
  obtain ⟨e1, e2⟩ := bite_at h
  have g1 := step_low h2 k hkl
  have g2 := (h2 k hkl).is
  have g3 := (h2 k hkl).from_
  have g4 := (h2 k hkl).until_
  rw [e1] at g1 g2
  rw [e2] at g3 g4
  exact ⟨g1, g2, by omega, by omega⟩

/-- the room that a request asks for, in a state -/
def plotT (s : State) (r : Request) : Nat → Int := sp (fold (roomT s.Tree s.Books r.Queue))
/-- when a request would begin -/
@[irreducible] noncomputable def soonR (s : State) (r : Request) : Int × Bool × Int :=
  if mayE s r ≠ 0 then (0, false, mayE s r) else if placeL (plotT s r) r = [] then (0, false, 0) else (soonTo (placeL (plotT s r) r) (placeL (plotT s r) r).length, true, 0)
theorem soonR_bad {s : State} {r : Request} (h : mayE s r ≠ 0) : soonR s r = (0, false, mayE s r) := by unfold soonR; rw [if_pos h]
theorem soonR_none {s : State} {r : Request} (h : mayE s r = 0) (h2 : placeL (plotT s r) r = []) : soonR s r = (0, false, 0) := by unfold soonR; rw [if_neg (by simp [h]), if_pos h2]
theorem soonR_is {s : State} {r : Request} (h : mayE s r = 0) (h2 : placeL (plotT s r) r ≠ []) : soonR s r = (soonTo (placeL (plotT s r) r) (placeL (plotT s r) r).length, true, 0) := by unfold soonR; rw [if_neg (by simp [h]), if_neg h2]
set_option maxRecDepth 100000 in
set_option maxHeartbeats 2000000 in
theorem asked_any (w : World) (tv bv : Value) (s : State) (q t : Int) (hl : QueuesV w tv s.Tree) (hb : BooksV w bv s.Books) :
    Calls Try.prog 44 #[.agg #[.int .i64 s.Clock, .int .i64 s.Next, tv, bv], .int .i64 q, .int .i64 t] w fun e w' => e = .returned (.int .i64 (askE s q t)) ∧ Ext w w' := by
  have F := hid (fun (W : World) (h : Ext w W) => planCheck_any W tv bv s (hl.mono h) (hb.mono h))
  have HS0 := hid (fun (W : World) (hx : Ext (w.alloc (.cells #[.int .i64 s.Clock, .int .i64 s.Next, tv, bv] 25)) W) => stateCells hx)
  have HX0 := hid ((Ext.rf w).al (.cells #[.int .i64 s.Clock, .int .i64 s.Next, tv, bv] 25))
  have HA := hid (askE_bad (s := s) (q := q) (t := t))
  have HB := hid (askE_none (s := s) (q := q) (t := t))
  have HC := hid (askE_range (s := s) (q := q) (t := t))
  have HD := hid (askE_ok (s := s) (q := q) (t := t))
  obtain ⟨qa, qc, rfl, _, _, _⟩ := hl.form
  obtain ⟨ba, bc, rfl, _, _, _⟩ := hb.form
  clear hl hb
  generalize askE s q t = ae at *
  generalize stateE s = se at *
  generalize s.Tree.length = n at *
  generalize s.Books.length = z at *
  by_cases h0 : se = 0
  · subst h0
    by_cases h1 : 0 ≤ q ∧ q < (n : Int)
    · obtain ⟨g1, g2⟩ := h1
      have g1' : ¬ q < 0 := by omega
      have g2' : ¬ (n : Int) ≤ q := by omega
      by_cases h2 : 0 ≤ t ∧ t < 48
      · have HR := hid (HD.out rfl ⟨g1, g2⟩ h2)
        have SP := hid (fun W => Span_yes t 48 W h2.1 h2.2 (by decide))
        clear HA HB HC HD h2
        go_enter Try.func44, Try.ntmps44
        go_wp2_with fail
        refine (F.out _ HX0.out).mono ?_
        rintro e w2 ⟨rfl, hx2⟩
        obtain ⟨a0, a1, a2, a3⟩ := HS0.out w2 hx2
        go_wp2_with fail
        refine (SP.out _).mono ?_
        rintro e w3 ⟨rfl, hw3⟩
        obtain rfl := hw3
        clear a0 a1 a2 a3
        go_wp2_with fail
        go_ret
        exact ⟨ret_int HR.out.symm, HX0.out.tr hx2⟩
      · have HR := hid (HC.out rfl ⟨g1, g2⟩ h2)
        have SP := hid (fun W => Span_no t 48 W (fun h => h2 ⟨h.1, h.2.1⟩))
        clear HA HB HC HD h2
        go_enter Try.func44, Try.ntmps44
        go_wp2_with fail
        refine (F.out _ HX0.out).mono ?_
        rintro e w2 ⟨rfl, hx2⟩
        obtain ⟨a0, a1, a2, a3⟩ := HS0.out w2 hx2
        go_wp2_with fail
        refine (SP.out _).mono ?_
        rintro e w3 ⟨rfl, hw3⟩
        obtain rfl := hw3
        clear a0 a1 a2 a3
        go_wp2_with fail
        go_ret
        exact ⟨ret_int HR.out.symm, HX0.out.tr hx2⟩
    · have HR := hid (HB.out rfl h1)
      by_cases g1 : q < 0
      · clear HA HB HC HD h1
        go_enter Try.func44, Try.ntmps44
        go_wp2_with fail
        refine (F.out _ HX0.out).mono ?_
        rintro e w2 ⟨rfl, hx2⟩
        obtain ⟨a0, a1, a2, a3⟩ := HS0.out w2 hx2
        go_wp2_with fail
        go_ret
        exact ⟨ret_int HR.out.symm, HX0.out.tr hx2⟩
      · have g2 : (n : Int) ≤ q := by omega
        clear HA HB HC HD h1
        go_enter Try.func44, Try.ntmps44
        go_wp2_with fail
        refine (F.out _ HX0.out).mono ?_
        rintro e w2 ⟨rfl, hx2⟩
        obtain ⟨a0, a1, a2, a3⟩ := HS0.out w2 hx2
        go_wp2_with fail
        go_ret
        exact ⟨ret_int HR.out.symm, HX0.out.tr hx2⟩
  · have HR := hid (HA.out h0)
    have hne := neT h0
    clear HA HB HC HD h0
    go_enter Try.func44, Try.ntmps44
    go_wp2_with fail
    refine (F.out _ HX0.out).mono ?_
    rintro e w2 ⟨rfl, hx2⟩
    go_wp2_with fail
    go_ret
    exact ⟨ret_int HR.out.symm, HX0.out.tr hx2⟩

/-- the boxes of a state and of a request -/
theorem two_boxes (w : World) (s : State) (r : Request) (tv bv pv : Value) : ∃ w1 : World, (w.alloc (.cells #[.int .i64 s.Clock, .int .i64 s.Next, tv, bv] 25)).alloc (.cells #[.int .i64 r.Queue, .int .i64 r.From, .int .i64 r.Until, .int .i64 r.Kind, pv] 37) = w1 ∧ Ext w w1 ∧ (∀ W, Ext w1 W → (W.cell? ⟨w.heap.size, 0, none⟩ = some (.int .i64 s.Clock) ∧ W.cell? ⟨w.heap.size, 1, none⟩ = some (.int .i64 s.Next) ∧ W.cell? ⟨w.heap.size, 2, none⟩ = some tv ∧ W.cell? ⟨w.heap.size, 3, none⟩ = some bv)) ∧
    (∀ W, Ext w1 W → (W.cell? ⟨w.heap.size + 1, 0, none⟩ = some (.int .i64 r.Queue) ∧ W.cell? ⟨w.heap.size + 1, 1, none⟩ = some (.int .i64 r.From) ∧ W.cell? ⟨w.heap.size + 1, 2, none⟩ = some (.int .i64 r.Until) ∧ W.cell? ⟨w.heap.size + 1, 3, none⟩ = some (.int .i64 r.Kind) ∧ W.cell? ⟨w.heap.size + 1, 4, none⟩ = some pv)) ∧ w1.heap.size = w.heap.size + 2 := by
  refine ⟨_, rfl, ((Ext.rf w).al _).al _, fun W h => stateCells (((Ext.rf _).al _).tr h), fun W h => ?_, by simp⟩
  have := reqCells h
  rwa [World.size_alloc] at this

set_option maxRecDepth 100000 in
set_option maxHeartbeats 2000000 in
theorem bookAsked_any (w : World) (tv bv pv : Value) (s : State) (r : Request) (hl : QueuesV w tv s.Tree) (hb : BooksV w bv s.Books) (hp : PiecesV w pv r.Pieces) :
    Calls Try.prog 47 #[.agg #[.int .i64 s.Clock, .int .i64 s.Next, tv, bv], .agg #[.int .i64 r.Queue, .int .i64 r.From, .int .i64 r.Until, .int .i64 r.Kind, pv]] w fun e w' => e = .returned (.int .i64 (mayE s r)) ∧ Ext w w' := by
  have F := hid (fun (W : World) (h : Ext w W) => planCheck_any W tv bv s (hl.mono h) (hb.mono h))
  have G := hid (fun (W : World) (h : Ext w W) => reqCheck_any W tv pv s.Tree r (hl.mono h) (hp.mono h))
  obtain ⟨wb, hwb, HX, HSS, HRR, hszb⟩ := two_boxes w s r tv bv pv
  have HX0 := hid HX
  have HS0 := hid HSS
  have HR0 := hid HRR
  have HWB := hid hwb
  clear HX HSS HRR hwb
  have HA := hid (mayE_bad (s := s) (r := r))
  have HB := hid (mayE_req (s := s) (r := r))
  have HC := hid (mayE_late (s := s) (r := r))
  have HD := hid (mayE_ok (s := s) (r := r))
  obtain ⟨qa, qc, rfl, _, _, _⟩ := hl.form
  obtain ⟨ba, bc, rfl, _, _, _⟩ := hb.form
  obtain ⟨pa, pc, rfl, _, _, _⟩ := hp.form
  clear hl hb hp
  generalize mayE s r = ae at *
  generalize stateE s = se at *
  generalize reqE s.Tree r = re at *
  generalize s.Tree.length = n at *
  generalize s.Books.length = z at *
  generalize r.Pieces.length = pn at *
  by_cases h0 : se = 0
  · subst h0
    by_cases h1 : re = 0
    · subst h1
      by_cases h2 : r.From < s.Clock
      · have HR := hid (HC.out rfl rfl h2)
        clear HA HB HC HD
        go_enter Try.func47, Try.ntmps47
        go_wp2_with fail
        rw [HWB.out]
        refine (F.out _ HX0.out).mono ?_
        rintro e w2 ⟨rfl, hx2⟩
        obtain ⟨a0, a1, a2, a3⟩ := HS0.out w2 hx2
        obtain ⟨c0, c1, c2, c3, c4⟩ := HR0.out w2 hx2
        go_wp2_with fail
        refine (G.out _ (HX0.out.tr hx2)).mono ?_
        rintro e w3 ⟨rfl, hx3⟩
        clear a0 a1 a2 a3 c0 c1 c2 c3 c4
        obtain ⟨a0, a1, a2, a3⟩ := HS0.out w3 (hx2.tr hx3)
        obtain ⟨c0, c1, c2, c3, c4⟩ := HR0.out w3 (hx2.tr hx3)
        go_wp2_with fail
        go_ret
        exact ⟨ret_int HR.out.symm, HX0.out.tr (hx2.tr hx3)⟩
      · have HR := hid (HD.out rfl rfl h2)
        clear HA HB HC HD
        go_enter Try.func47, Try.ntmps47
        go_wp2_with fail
        rw [HWB.out]
        refine (F.out _ HX0.out).mono ?_
        rintro e w2 ⟨rfl, hx2⟩
        obtain ⟨a0, a1, a2, a3⟩ := HS0.out w2 hx2
        obtain ⟨c0, c1, c2, c3, c4⟩ := HR0.out w2 hx2
        go_wp2_with fail
        refine (G.out _ (HX0.out.tr hx2)).mono ?_
        rintro e w3 ⟨rfl, hx3⟩
        clear a0 a1 a2 a3 c0 c1 c2 c3 c4
        obtain ⟨a0, a1, a2, a3⟩ := HS0.out w3 (hx2.tr hx3)
        obtain ⟨c0, c1, c2, c3, c4⟩ := HR0.out w3 (hx2.tr hx3)
        go_wp2_with fail
        go_ret
        exact ⟨ret_int HR.out.symm, HX0.out.tr (hx2.tr hx3)⟩
    · have HR := hid (HB.out rfl h1)
      have hne := neT h1
      clear HA HB HC HD h1
      go_enter Try.func47, Try.ntmps47
      go_wp2_with fail
      rw [HWB.out]
      refine (F.out _ HX0.out).mono ?_
      rintro e w2 ⟨rfl, hx2⟩
      obtain ⟨a0, a1, a2, a3⟩ := HS0.out w2 hx2
      obtain ⟨c0, c1, c2, c3, c4⟩ := HR0.out w2 hx2
      go_wp2_with fail
      refine (G.out _ (HX0.out.tr hx2)).mono ?_
      rintro e w3 ⟨rfl, hx3⟩
      clear a0 a1 a2 a3 c0 c1 c2 c3 c4
      go_wp2_with fail
      go_ret
      exact ⟨ret_int HR.out.symm, HX0.out.tr (hx2.tr hx3)⟩
  · have HR := hid (HA.out h0)
    have hne := neT h0
    clear HA HB HC HD h0
    go_enter Try.func47, Try.ntmps47
    go_wp2_with fail
    rw [HWB.out]
    refine (F.out _ HX0.out).mono ?_
    rintro e w2 ⟨rfl, hx2⟩
    go_wp2_with fail
    go_ret
    exact ⟨ret_int HR.out.symm, HX0.out.tr hx2⟩


/-- the facts of a right state -/
theorem right_of {s : State} (h : stateE s = 0) : TreeOk s.Tree ∧ s.Books.length ≤ 12 ∧ ∀ x ∈ s.Books, BookOk s.Tree x := by
  obtain ⟨ok, _, h12, hbok⟩ := booksE_zero (formE_zero (stateE_zero h).1).1
  exact ⟨ok, h12, hbok⟩
theorem room_fine {s : State} (h : stateE s = 0) {k : Nat} (hk : k < s.Tree.length) : Fine (fold (roomT s.Tree s.Books (k : Int))) := by
  obtain ⟨ok, h12, hbok⟩ := right_of h
  exact fine_fold fun t _ => room_num ok hbok h12 hk t
theorem at_fold (W : World) (u : Value) (x : Nat → Int) (t : Nat) (h : t < 48) (hu : RunsV W u (fold x)) :
    Calls Try.prog 45 #[u, .int .i64 (t : Int)] W fun e w' => e = .returned (.int .i64 (x t)) ∧ Ext W w' := by
  have := At_any W u _ hu (shape_fold _) (t : Int) (by omega) (by omega)
  rwa [Int.toNat_natCast, sp_fold h] at this

set_option maxRecDepth 100000 in
set_option maxHeartbeats 2000000 in
theorem Busy_any (w : World) (tv bv : Value) (s : State) (q t : Int) (hl : QueuesV w tv s.Tree) (hb : BooksV w bv s.Books) :
    Calls Try.prog 17 #[.agg #[.int .i64 s.Clock, .int .i64 s.Next, tv, bv], .int .i64 q, .int .i64 t] w (RetInt2 w (busyR s q t)) := by
  have A := hid (fun (W : World) (h : Ext w W) => asked_any W tv bv s q t (hl.mono h) (hb.mono h))
  have HS0 := hid (fun (W : World) (hx : Ext (w.alloc (.cells #[.int .i64 s.Clock, .int .i64 s.Next, tv, bv] 25)) W) => stateCells hx)
  have HX0 := hid ((Ext.rf w).al (.cells #[.int .i64 s.Clock, .int .i64 s.Next, tv, bv] 25))
  by_cases h0 : askE s q t = 0
  · have HR := hid (busyR_ok h0)
    rw [h0] at A
    obtain ⟨hs, ⟨g1, g2⟩, t1, t2⟩ := askE_zero h0
    clear h0
    obtain ⟨ok, h12, hbok⟩ := right_of hs
    obtain ⟨k, rfl⟩ : ∃ k : Nat, q = (k : Int) := ⟨q.toNat, by omega⟩
    obtain ⟨i, rfl⟩ : ∃ i : Nat, t = (i : Int) := ⟨t.toNat, by omega⟩
    simp only [Int.toNat_natCast] at HR
    have TA := hid (fun (W : World) (h : Ext w W) => show Calls Try.prog 46 #[tv, bv] W (fun e w' => ∃ u, e = .returned u ∧ LoadsV w' u (loadsL s.Tree s.Books) ∧ Ext W w') from Taken_any W tv bv s.Tree s.Books (hl.mono h) (hb.mono h) ok.pars ok.n5 hbok h12 ok.n1)
    have hLL : (loadsL s.Tree s.Books).length = s.Tree.length := by simp [loadsL]
    have hkl : k < s.Tree.length := by omega
    have HLK := hid (show (loadsL s.Tree s.Books)[k]? = some (fold (takenT s.Tree s.Books k)) from by simp [loadsL, hkl])
    have AT := hid (fun (W : World) (u : Value) (hu : RunsV W u (fold (takenT s.Tree s.Books k))) => at_fold W u _ i (by omega) hu)
    obtain ⟨qa, qc, rfl, _, _, hl5⟩ := hl.form
    obtain ⟨ba, bc, rfl, _, _, _⟩ := hb.form
    have hn5 := ok.n5
    clear hl hb hs ok h12 hbok t1 t2
    generalize s.Tree.length = n at *
    generalize s.Books.length = z at *
    go_enter Try.func17, Try.ntmps17
    go_wp2_with fail
    refine (A.out _ HX0.out).mono ?_
    rintro e w2 ⟨rfl, hx2⟩
    obtain ⟨a0, a1, a2, a3⟩ := HS0.out w2 hx2
    go_wp2_with fail
    refine (TA.out _ (HX0.out.tr hx2)).mono ?_
    rintro e w3 ⟨u, rfl, hu, hx3⟩
    obtain ⟨ua, uc, rfl, _, _, _, huE⟩ := loads_at hu
    rw [hLL] at huE ⊢
    obtain ⟨ub, uo, rfl, hub, hue⟩ := huE (by omega)
    obtain ⟨fv, c2, hfv⟩ := hue k _ HLK.out
    obtain ⟨fa, fc, rfl, _, _, _⟩ := hfv.form
    have A2 := hid (AT.out w3 _ hfv)
    clear hu huE hue hfv a0 a1 a2 a3
    generalize (fold (takenT s.Tree s.Books k)).length = fn at *
    go_wp2_with fail
    refine A2.out.mono ?_
    rintro e w4 ⟨rfl, hx4⟩
    go_wp2_with fail
    go_ret2
    exact retInt2_of HR.out (HX0.out.tr (hx2.tr (hx3.tr hx4)))
  · have HR := hid (busyR_bad h0)
    have hne := neT h0
    obtain ⟨qa, qc, rfl, _, _, hl5⟩ := hl.form
    obtain ⟨ba, bc, rfl, _, _, _⟩ := hb.form
    clear hl hb h0
    generalize askE s q t = ae at *
    generalize s.Tree.length = n at *
    generalize s.Books.length = z at *
    go_enter Try.func17, Try.ntmps17
    go_wp2_with fail
    refine (A.out _ HX0.out).mono ?_
    rintro e w2 ⟨rfl, hx2⟩
    go_wp2_with fail
    go_ret2
    exact retInt2_of HR.out (HX0.out.tr hx2)

set_option maxRecDepth 100000 in
set_option maxHeartbeats 2000000 in
theorem Left_any (w : World) (tv bv : Value) (s : State) (q t : Int) (hl : QueuesV w tv s.Tree) (hb : BooksV w bv s.Books) :
    Calls Try.prog 18 #[.agg #[.int .i64 s.Clock, .int .i64 s.Next, tv, bv], .int .i64 q, .int .i64 t] w (RetInt2 w (leftR s q t)) := by
  have A := hid (fun (W : World) (h : Ext w W) => asked_any W tv bv s q t (hl.mono h) (hb.mono h))
  have HS0 := hid (fun (W : World) (hx : Ext (w.alloc (.cells #[.int .i64 s.Clock, .int .i64 s.Next, tv, bv] 25)) W) => stateCells hx)
  have HX0 := hid ((Ext.rf w).al (.cells #[.int .i64 s.Clock, .int .i64 s.Next, tv, bv] 25))
  by_cases h0 : askE s q t = 0
  · have HR := hid (leftR_ok h0)
    rw [h0] at A
    obtain ⟨hs, ⟨g1, g2⟩, t1, t2⟩ := askE_zero h0
    clear h0
    obtain ⟨ok, h12, hbok⟩ := right_of hs
    obtain ⟨i, rfl⟩ : ∃ i : Nat, t = (i : Int) := ⟨t.toNat, by omega⟩
    simp only [Int.toNat_natCast] at HR
    have TA := hid (fun (W : World) (h : Ext w W) => RoomIn_any W tv bv s.Tree s.Books q (hl.mono h) (hb.mono h) ok hbok h12 g1 g2)
    have AT := hid (fun (W : World) (u : Value) (hu : RunsV W u (fold (roomT s.Tree s.Books q))) => at_fold W u _ i (by omega) hu)
    obtain ⟨qa, qc, rfl, _, _, hl5⟩ := hl.form
    obtain ⟨ba, bc, rfl, _, _, _⟩ := hb.form
    clear hl hb hs ok h12 hbok t1 t2
    generalize s.Tree.length = n at *
    generalize s.Books.length = z at *
    go_enter Try.func18, Try.ntmps18
    go_wp2_with fail
    refine (A.out _ HX0.out).mono ?_
    rintro e w2 ⟨rfl, hx2⟩
    obtain ⟨a0, a1, a2, a3⟩ := HS0.out w2 hx2
    go_wp2_with fail
    refine (TA.out _ (HX0.out.tr hx2)).mono ?_
    rintro e w3 ⟨u, rfl, hu, hx3⟩
    obtain ⟨ua, uc, rfl, _, _, _⟩ := hu.form
    have A2 := hid (AT.out w3 _ hu)
    clear hu a0 a1 a2 a3
    generalize (fold (roomT s.Tree s.Books q)).length = fn at *
    go_wp2_with fail
    refine A2.out.mono ?_
    rintro e w4 ⟨rfl, hx4⟩
    go_wp2_with fail
    go_ret2
    exact retInt2_of HR.out (HX0.out.tr (hx2.tr (hx3.tr hx4)))
  · have HR := hid (leftR_bad h0)
    have hne := neT h0
    obtain ⟨qa, qc, rfl, _, _, hl5⟩ := hl.form
    obtain ⟨ba, bc, rfl, _, _, _⟩ := hb.form
    clear hl hb h0
    generalize askE s q t = ae at *
    generalize s.Tree.length = n at *
    generalize s.Books.length = z at *
    go_enter Try.func18, Try.ntmps18
    go_wp2_with fail
    refine (A.out _ HX0.out).mono ?_
    rintro e w2 ⟨rfl, hx2⟩
    go_wp2_with fail
    go_ret2
    exact retInt2_of HR.out (HX0.out.tr hx2)

/-- the facts of a request that may be submitted -/
theorem may_of {s : State} {r : Request} (h : mayE s r = 0) : stateE s = 0 ∧ ReqOk r ∧ 0 ≤ r.Queue ∧ r.Queue < s.Tree.length ∧ Fine (fold (roomT s.Tree s.Books r.Queue)) ∧ ¬ r.From < s.Clock := by
  obtain ⟨hs, hre, hc⟩ := mayE_zero h
  obtain ⟨_, hrq, g1, g2⟩ := reqE_zero hre
  obtain ⟨k, hk⟩ : ∃ k : Nat, r.Queue = k := ⟨r.Queue.toNat, by omega⟩
  refine ⟨hs, hrq, g1, g2, ?_, hc⟩
  rw [hk]
  exact room_fine hs (by omega)

set_option maxRecDepth 100000 in
set_option maxHeartbeats 4000000 in
theorem Soonest_any (w : World) (tv bv pv : Value) (s : State) (r : Request) (hl : QueuesV w tv s.Tree) (hb : BooksV w bv s.Books) (hp : PiecesV w pv r.Pieces) :
    Calls Try.prog 20 #[.agg #[.int .i64 s.Clock, .int .i64 s.Next, tv, bv], .agg #[.int .i64 r.Queue, .int .i64 r.From, .int .i64 r.Until, .int .i64 r.Kind, pv]] w (RetFirst w (soonR s r)) := by
  have F := hid (fun (W : World) (h : Ext w W) => bookAsked_any W tv bv pv s r (hl.mono h) (hb.mono h) (hp.mono h))
  obtain ⟨wb, hwb, HX, HSS, HRR, hszb⟩ := two_boxes w s r tv bv pv
  have HX0 := hid HX
  have HS0 := hid HSS
  have HR0 := hid HRR
  have HWB := hid hwb
  clear HX HSS HRR hwb
  by_cases h0 : mayE s r = 0
  · have HN := hid (soonR_none h0)
    have HI := hid (soonR_is h0)
    rw [h0] at F
    obtain ⟨hs, hrq, g1, g2, hfine, _⟩ := may_of h0
    obtain ⟨ok, h12, hbok⟩ := right_of hs
    have RI := hid (fun (W : World) (h : Ext w W) => RoomIn_any W tv bv s.Tree s.Books r.Queue (hl.mono h) (hb.mono h) ok hbok h12 g1 g2)
    have PI := hid (fun (W : World) (u : Value) (h : Ext w W) (hu : RunsV W u (fold (roomT s.Tree s.Books r.Queue))) => show Calls Try.prog 48 #[u, .agg #[.int .i64 r.Queue, .int .i64 r.From, .int .i64 r.Until, .int .i64 r.Kind, pv]] W (RetPlace W (placeL (plotT s r) r)) from In_any W u pv _ r hu (hp.mono h) hfine hrq)
    have HAT := hid (fun (k : Nat) (b : Bite) => found_at (x := plotT s r) hrq (k := k) (b := b))
    obtain ⟨qa, qc, rfl, _, _, _⟩ := hl.form
    obtain ⟨ba, bc, rfl, _, _, _⟩ := hb.form
    obtain ⟨pa, pc, rfl, _, _, _⟩ := hp.form
    clear hl hb hp h0 hs hrq hfine ok h12 hbok
    generalize placeL (plotT s r) r = L at *
    generalize roomT s.Tree s.Books r.Queue = x at *
    generalize soonR s r = sr at *
    generalize s.Tree.length = n at *
    generalize s.Books.length = z at *
    generalize r.Pieces.length = pn at *
    go_enter Try.func20, Try.ntmps20
    go_wp2_with fail
    rw [HWB.out]
    refine (F.out _ HX0.out).mono ?_
    rintro e w2 ⟨rfl, hx2⟩
    have hx02 := hid (HX0.out.tr hx2)
    obtain ⟨a0, a1, a2, a3⟩ := HS0.out w2 hx2
    obtain ⟨c0, c1, c2, c3, c4⟩ := HR0.out w2 hx2
    clear hx2
    go_wp2_with fail
    go_region_held3 (fun w' => (w'.cell? ⟨w.heap.size, 2, none⟩ = some (.slice qa n qc) ∧ w'.cell? ⟨w.heap.size, 3, none⟩ = some (.slice ba z bc) ∧ w'.cell? ⟨w.heap.size + 1, 0, none⟩ = some (.int .i64 r.Queue) ∧ w'.cell? ⟨w.heap.size + 1, 1, none⟩ = some (.int .i64 r.From) ∧ w'.cell? ⟨w.heap.size + 1, 2, none⟩ = some (.int .i64 r.Until) ∧ w'.cell? ⟨w.heap.size + 1, 3, none⟩ = some (.int .i64 r.Kind) ∧ w'.cell? ⟨w.heap.size + 1, 4, none⟩ = some (.slice pa pn pc)))
      (first
        | go_keep
        | (go_split_ands
           exact ⟨hxk.ce' (by assumption), hxk.ce' (by assumption), hxk.ce' (by assumption), hxk.ce' (by assumption), hxk.ce' (by assumption), hxk.ce' (by assumption), hxk.ce' (by assumption)⟩))
      (first
        | (go_at_call 37; refine (RI.out _ hx02.out.dr).mono ?_; rintro e W1 ⟨u, rfl, hu, hxk⟩; obtain ⟨ua, uc, rfl, _, _, _⟩ := hu.form; have HU := hid hu; have HX1 := hid (hx02.out.dr.tr hxk); clear hu; generalize (fold x).length = fn at *)
        | (go_at_call 48; refine (PI.out _ _ HX1.out HU.out).mono ?_; rintro e W2 ⟨v, rfl, hv, hnil, hxk⟩; have HV := hid hv; have HNIL := hid hnil; have HX2 := hid (HX1.out.tr hxk); clear hv hnil))
    by_cases hL : L = []
    · obtain rfl := HNIL.out.1 hL
      have HR := hid (HN.out hL)
      clear HN HI HV HNIL HAT
      have he : ∀ W, Sem.run Try.prog (binOp .eql 38 (.slice none 0 0) (.slice none 0 0)) W = .ok (.bool true) W := fun W => rfl
      go_wp2_with fail
      go_ret3
      exact retFirst_of HR.out HX2.out
    · have HR := hid (HI.out hL)
      obtain ⟨va, vc, rfl, hvc, hvc9, hvl, hvE⟩ := bites_at HV.out
      have hz1 : 1 ≤ L.length := List.length_pos_iff.2 hL
      obtain ⟨vb, vo, rfl, hvb, hE⟩ := hvE hz1
      have HE := hid hE
      have HS1 := hid (fun (k : Nat) (b : Bite) => soonTo_succ (l := L) (k := k) (x := b))
      have HS := hid (show soonTo L 0 = 48 from rfl)
      clear HN HI HV HNIL hvE hE hL
      generalize hzz : L.length = m at *
      have Hm := hid hzz
      clear hzz
      have he : ∀ W, Sem.run Try.prog (binOp .eql 38 (.slice (some ⟨vb, vo, none⟩) m vc) (.slice none 0 0)) W = .ok (.bool false) W := fun W => rfl
      go_wp2_with fail
      go_loopw [9, 31] (fun c d wr => ∃ k : Nat, d = .int .i64 k ∧ c = .int .i64 (soonTo L k) ∧ k ≤ m ∧ Ext W2 wr) (fun _ d _ => m - (intOf d).toNat)
      case atStart => exact ⟨0, rfl, by rw [HS.out], by omega, Ext.rf _⟩
      case round =>
        obtain ⟨k, rfl, rfl, hk, hx⟩ := hrel
        by_cases hlt : k < m
        · have hlt' : (k : Int) < (m : Int) := by omega
          obtain ⟨y, hyk⟩ := getA (f := L) (k := k) (by rw [Hm.out]; exact hlt)
          obtain ⟨d1, d2, _, _⟩ := E2.mono W2 wr vb _ y hx (HE.out k y hyk)
          have HNX := hid (HS1.out k y hyk)
          have hal := hid (fun (o1 : Obj) => (Ext.rf wr).al o1)
          clear hyk
          generalize soonTo L k = tt at *
          go_wp2_with fail
          go_roundw
          case rel => exact ⟨k + 1, by go_num, by rw [HNX.out]; exact congrArg (Value.int .i64) (by split <;> omega), by omega, hx.tr (hal.out _)⟩
          case measure => simp [intOf]; omega
        · obtain rfl : k = m := by omega
          have hlt' : ¬ (k : Int) < (k : Int) := by omega
          go_wp2_with fail
          go_ret3
          exact retFirst_of HR.out (HX2.out.tr hx)
  · have HR := hid (soonR_bad h0)
    have hne := neT h0
    obtain ⟨qa, qc, rfl, _, _, _⟩ := hl.form
    obtain ⟨ba, bc, rfl, _, _, _⟩ := hb.form
    obtain ⟨pa, pc, rfl, _, _, _⟩ := hp.form
    clear hl hb hp h0
    generalize mayE s r = ae at *
    generalize s.Tree.length = n at *
    generalize s.Books.length = z at *
    generalize r.Pieces.length = pn at *
    go_enter Try.func20, Try.ntmps20
    go_wp2_with fail
    rw [HWB.out]
    refine (F.out _ HX0.out).mono ?_
    rintro e w2 ⟨rfl, hx2⟩
    go_wp2_with fail
    go_ret3
    exact retFirst_of HR.out (HX0.out.tr hx2)
end Go.Proofs.Ytfbcmifclaaacaa
