/- The laws on queues: treeBegun is true; TreeTells. -/
import Derived.Test.YtchblkemofncoaaField
set_option linter.unusedVariables false
namespace Go.Proofs.Ytchblkemofncoaa
open Go.RowKit

theorem Line_is {w : World} {v : Value} {l : List Queue} {q n : Int} {r : List Int} (h : lineR l q = (r, n)) (hv : QueuesV w v l) :
    Calls Try.prog 15 #[v, .int .i64 q] w fun e w' => ∃ u, e = .returned (.tuple #[u, .int .i64 n]) ∧ IntsV w' u r ∧ Ext w w' := by
  have := Line_any w v l q hv; rw [h] at this; exact this
theorem Under_is {w : World} {v : Value} {l : List Queue} {q n : Int} {r : List Bool} (h : underR l q = (r, n)) (hv : QueuesV w v l) :
    Calls Try.prog 16 #[v, .int .i64 q] w fun e w' => ∃ u, e = .returned (.tuple #[u, .int .i64 n]) ∧ BoolsV w' u r ∧ Ext w w' := by
  have := Under_any w v l q hv; rw [h] at this; exact this
theorem treeCheck_is {w : World} {v : Value} {l : List Queue} {n : Int} (h : checkT l = n) (hv : QueuesV w v l) :
    Calls Try.prog 21 #[v] w fun e w' => e = .returned (.int .i64 n) ∧ Ext w w' := by
  have := treeCheck_any w v l hv; rw [h] at this; exact this
theorem Name_is (s : ByteArray) (b : Bool) (h : decide (NameOk s) = b) (hs : s.size ≤ 9223372036854775807) (w : World) :
    Calls Try.prog 23 #[.string s] w fun e w' => e = .returned (.bool b) ∧ Ext w w' := by
  have := Name_any w s hs; rw [h] at this; exact this
theorem SameInts_is {w : World} {vf vg : Value} {f g : List Int} (h : f = g) (hf : IntsV w vf f) (hg : IntsV w vg g) :
    Calls Try.prog 25 #[vf, vg] w fun e w' => e = .returned (.bool true) ∧ Ext w w' := by
  have := SameInts_any w vf vg f g hf hg; rw [decide_eq_true h] at this; exact this
theorem SameBools_is {w : World} {vf vg : Value} {f g : List Bool} (h : f = g) (hf : BoolsV w vf f) (hg : BoolsV w vg g) :
    Calls Try.prog 26 #[vf, vg] w fun e w' => e = .returned (.bool true) ∧ Ext w w' := by
  have := SameBools_any w vf vg f g hf hg; rw [decide_eq_true h] at this; exact this

/-- numbers that are written out -/
theorem ints_lit {w : World} {cs : Array Value} {b n : Nat} {t : TypeId} (l : List Int) (hb : b = w.heap.size) (hcs : cs = (l.map (Value.int .i64)).toArray) (hn : n = l.length) (hl : l.length ≤ 60) (hi : ∀ x ∈ l, I64 x) :
    IntsV (w.alloc (.cells cs t)) (.slice (some ⟨b, 0, none⟩) n n) l := by
  subst hb hcs hn
  refine .inr ⟨w.heap.size, 0, l.length, rfl, Nat.le_refl _, by omega, by omega, by simp, fun k x hk => ?_⟩
  refine ⟨?_, hi x (List.mem_of_getElem? hk)⟩
  rw [cell_of_row _ _ _ _ _ _ (heap_alloc_new w _)]
  simp [hk]
theorem bools_lit {w : World} {cs : Array Value} {b n : Nat} {t : TypeId} (l : List Bool) (hb : b = w.heap.size) (hcs : cs = (l.map Value.bool).toArray) (hn : n = l.length) (hl : l.length ≤ 60) :
    BoolsV (w.alloc (.cells cs t)) (.slice (some ⟨b, 0, none⟩) n n) l := by
  subst hb hcs hn
  refine .inr ⟨w.heap.size, 0, l.length, rfl, Nat.le_refl _, by omega, by omega, by simp, fun k x hk => ?_⟩
  show World.cell? _ _ = _
  rw [cell_of_row _ _ _ _ _ _ (heap_alloc_new w _)]
  simp [hk]

set_option maxRecDepth 100000 in
set_option maxHeartbeats 8000000 in
theorem treeBegun_true (w : World) : Calls Try.prog 20 #[] w fun e w' => e = .returned (.bool true) ∧ Ext w w' := by
  have i0 := i64_small (n := 0) (by omega) (by omega)
  have i1 := i64_small (n := 1) (by omega) (by omega)
  have i6 := i64_small (n := 6) (by omega) (by omega)
  have i10 := i64_small (n := 10) (by omega) (by omega)
  have i51 := i64_small (n := 51) (by omega) (by omega)
  have I0 := hid i0
  have I1 := hid i1
  have I6 := hid i6
  have I10 := hid i10
  have I51 := hid i51
  clear i0 i1 i6 i10 i51
  go_enter Try.func20, Try.ntmps20
  go_wp2_with fail
  refine (field_any _).mono ?_
  rintro e w1 ⟨rfl, hf, hx1⟩
  have V1 := hf.v I10.out I0.out I6.out
  clear hf
  go_wp2_with fail
  refine (Line_is fieldL3 V1).mono ?_
  rintro e w2 ⟨va, rfl, ha, hx2⟩
  have Ha := hid ha
  clear ha V1
  go_wp2_with fail
  refine (field_any _).mono ?_
  rintro e w3 ⟨rfl, hf, hx3⟩
  have V1 := hf.v I10.out I0.out I6.out
  clear hf
  go_wp2_with fail
  refine (Under_is fieldU1 V1).mono ?_
  rintro e w4 ⟨vb, rfl, hb, hx4⟩
  have Hb := hid hb
  clear hb V1
  go_wp2_with fail
  refine (field_any _).mono ?_
  rintro e w5 ⟨rfl, hf, hx5⟩
  have V1 := hf.v I10.out I0.out I6.out
  clear hf
  go_wp2_with fail
  refine (Line_is fieldL4 V1).mono ?_
  rintro e w6 ⟨vc, rfl, _, hx6⟩
  clear V1
  have hx06 := hid (hx1.tr (hx2.tr (hx3.tr (hx4.tr (hx5.tr hx6)))))
  have hx26 := hid (hx3.tr (hx4.tr (hx5.tr hx6)))
  have hx46 := hid (hx5.tr hx6)
  clear hx1 hx2 hx3 hx4 hx5 hx6
  go_wp2_with fail
  refine (field_any _).mono ?_
  rintro e w7 ⟨rfl, hf, hx7⟩
  have Hf := hid hf
  have c1 := cell_of_row _ _ 4 _ _ _ hf.q
  have f1 := frozen_of_row _ _ 4 _ _ hf.q
  have h1 := (Array.getElem?_eq_some_iff.1 hf.q).1
  clear hf
  go_wp2_with fail
  have HX := Hf.out.setP 1
  have hx67 := hx7.se (b := w6.heap.size + 4) (o := 4) (by omega) (.int .i64 1)
  clear c1 f1 hx7 Hf
  obtain ⟨W7, hW7⟩ : ∃ W7, w7.setCell ⟨w6.heap.size + 4, 4, none⟩ (.int .i64 1) = W7 := ⟨_, rfl⟩
  rw [hW7] at HX hx67 ⊢
  replace HX := hid HX
  clear hW7 h1
  refine (field_any _).mono ?_
  rintro e w8 ⟨rfl, hf, hx8⟩
  have Hf := hid hf
  have hsz8 := hx8.size
  have c1 := cell_of_row _ _ 8 _ _ _ hf.q
  have c2 := cell_of_row _ _ 1 _ _ _ hf.r2
  have f1 := frozen_of_row _ _ 1 _ _ hf.r2
  have h2 := (Array.getElem?_eq_some_iff.1 hf.q).1
  have h3 := (Array.getElem?_eq_some_iff.1 hf.r2).1
  clear hf
  go_wp2_with fail
  have HY := Hf.out.setN 51
  have hx78 := hx8.se (b := W7.heap.size + 2) (o := 1) (by omega) (.int .i64 51)
  clear c1 c2 f1 hx8 Hf
  obtain ⟨W8, hW8⟩ : ∃ W8, w8.setCell ⟨W7.heap.size + 2, 1, none⟩ (.int .i64 51) = W8 := ⟨_, rfl⟩
  rw [hW8] at HY hx78 ⊢
  replace HY := hid HY
  have HX8 := hid (HX.out.ext hx78)
  have hx68 := hid (hx67.tr hx78)
  clear hW8 h2 h3 hsz8 HX
  refine (field_any _).mono ?_
  rintro e w9 ⟨rfl, hf, hx9⟩
  have V1 := hf.v I10.out I0.out I6.out
  clear hf
  go_wp2_with fail
  refine (treeCheck_is fieldC V1).mono ?_
  rintro e w10 ⟨rfl, hx10⟩
  have hx810 := hid (hx9.tr hx10)
  have V2 := (HX8.out.ext hx810.out).v I10.out I1.out I6.out
  clear V1 hx9 hx10
  go_wp2_with fail
  refine (treeCheck_is fieldX V2).mono ?_
  rintro e w11 ⟨rfl, hx11⟩
  have hx811 := hid (hx810.out.tr hx11)
  have V3 := (HY.out.ext hx811.out).v I10.out I0.out I51.out
  clear V2 hx11
  go_wp2_with fail
  refine (treeCheck_is fieldY V3).mono ?_
  rintro e w12 ⟨rfl, hx12⟩
  have hx812 := hid (hx811.out.tr hx12)
  clear V3 hx12
  go_wp2_with fail
  refine (treeCheck_is (l := []) nilC SV.nil).mono ?_
  rintro e w13 ⟨rfl, hx13⟩
  go_wp2_with fail
  refine (Name_is sBarn true (by decide +kernel) (by decide) _).mono ?_
  rintro e w14 ⟨rfl, hx14⟩
  go_wp2_with fail
  refine (Name_is ⟨#[98, 49]⟩ false (by decide +kernel) (by decide) _).mono ?_
  rintro e w15 ⟨rfl, hx15⟩
  have hx815 := hid (hx812.out.tr (hx13.tr (hx14.tr hx15)))
  clear hx13 hx14 hx15
  have hx615 := hid (hx68.out.tr hx815.out)
  go_wp2_with fail
  refine (SameInts_is (f := [3, 1, 0]) (g := [3, 1, 0]) rfl (Ha.out.mono (hx26.out.tr (hx615.out.tr ((Ext.rf _).al _)))) (ints_lit [3, 1, 0] rfl rfl rfl (by decide) (fun x hx => by simp at hx; exact i64_small (by omega) (by omega)))).mono ?_
  rintro e w16 ⟨rfl, hx16⟩
  have hx416 := hid (hx46.out.tr (hx615.out.tr (((Ext.rf _).al _).tr hx16)))
  have hx016 := hid (hx06.out.tr (hx615.out.tr (((Ext.rf _).al _).tr hx16)))
  clear hx16
  go_wp2_with fail
  refine (SameBools_is (f := [false, true, false, true]) (g := [false, true, false, true]) rfl (Hb.out.mono (hx416.out.tr ((Ext.rf _).al _))) (bools_lit [false, true, false, true] rfl rfl rfl (by decide))).mono ?_
  rintro e w17 ⟨rfl, hx17⟩
  have hx017 := hid (hx016.out.tr (((Ext.rf _).al _).tr hx17))
  clear hx17
  go_wp2_with fail
  go_ret
  exact ⟨rfl, hx017.out⟩

/-- the line, where there is no error -/
theorem lineL_pure {l : List Queue} {q : Int} : lineR l q = (if queueE l q = 0 then (lineL l q).map fun k : Nat => (k : Int) else [], queueE l q) := by
  by_cases h : queueE l q = 0
  · rw [lineR_ok h, if_pos h, h]
  · rw [lineR_bad h, if_neg h]
theorem underL_pure {l : List Queue} {q : Int} : underR l q = (if queueE l q = 0 then underL l q else [], queueE l q) := by
  by_cases h : queueE l q = 0
  · rw [underR_ok h, if_pos h, h]
  · rw [underR_bad h, if_neg h]

set_option maxRecDepth 100000 in
set_option maxHeartbeats 8000000 in
theorem treeTells_any (w : World) (v : Value) (l : List Queue) (q : Int) (s : ByteArray) (hv : QueuesV w v l) (hs : s.size ≤ 9223372036854775807) :
    Calls Try.prog 3 #[v, .int .i64 q, .string s] w fun e w' => e = .returned (.bool true) ∧ Ext w w' := by
  have L := hid (Line_is (q := q) (lineL_pure (l := l) (q := q)) hv)
  have U := hid (fun (W : World) (h : Ext w W) => Under_is (q := q) (underL_pure (l := l) (q := q)) (hv.mono h))
  have E := hid (fun (W : World) (h : Ext w W) => QueueError_any W v l q (hv.mono h))
  have T := hid (fun (W : World) (h : Ext w W) => treeCheck_any W v l (hv.mono h))
  have R := hid (fun (W : World) (h : Ext w W) => CheckTree_any W v l (hv.mono h))
  have A1 := hid (fun (W : World) => Name_any W s hs)
  have A2 := hid (fun (W : World) => IsName_any W s hs)
  have B := hid (fun (W : World) => treeBegun_true W)
  have FL := hid (fun (W : World) (h : Ext w W) (h0 : queueE l q = 0) => LineOf_own W v l q (hv.mono h) (checkT_ok (queueE_zero h0).1).pars (checkT_ok (queueE_zero h0).1).n5 (queueE_zero h0).2.1 (queueE_zero h0).2.2)
  have FU := hid (fun (W : World) (h : Ext w W) (h0 : queueE l q = 0) => UnderOf_any W v l q (hv.mono h) (checkT_ok (queueE_zero h0).1).pars (checkT_ok (queueE_zero h0).1).n5)
  clear hs
  obtain ⟨a, cap, rfl, _, _, hl⟩ := hv.form
  clear hv
  generalize hcl : checkT l = ce at *
  generalize hdn : decide (NameOk s) = dn at *
  have hee : (ce == ce) = true := by simp
  have hnn : (dn == dn) = true := by simp
  clear hcl hdn
  by_cases h0 : queueE l q = 0
  · rw [if_pos h0] at L U
    have FL1 := hid (fun (W : World) (h : Ext w W) => FL.out W h h0)
    have FU1 := hid (fun (W : World) (h : Ext w W) => FU.out W h h0)
    rw [h0] at L U E
    clear FL FU h0
    generalize l.length = n at *
    go_enter Try.func3, Try.ntmps3
    go_wp2_with fail
    refine L.out.mono ?_
    rintro e w1 ⟨v1, rfl, h1, hx1⟩
    have V1 := hid h1
    clear h1
    go_wp2_with fail
    refine (U.out _ hx1).mono ?_
    rintro e w2 ⟨v2, rfl, h2, hx12⟩
    have V2 := hid h2
    have hx2 := hx1.tr hx12
    clear h2
    go_wp2_with fail
    refine (E.out _ hx2).mono ?_
    rintro e w3 ⟨rfl, hx23⟩
    have hx3 := hx2.tr hx23
    go_wp2_with fail
    refine (FL1.out _ hx3).mono ?_
    rintro e w4 ⟨v4, rfl, h4, hx34⟩
    have V4 := hid h4
    have hx4 := hx3.tr hx34
    clear h4
    go_wp2_with fail
    refine (FU1.out _ hx4).mono ?_
    rintro e w5 ⟨v5, rfl, h5, hx45⟩
    have V5 := hid h5
    have hx5 := hx4.tr hx45
    clear h5
    go_wp2_with fail
    refine (B.out _).mono ?_
    rintro e w6 ⟨rfl, hx56⟩
    have hx6 := hx5.tr hx56
    go_wp2_with fail
    refine (T.out _ hx6).mono ?_
    rintro e w7 ⟨rfl, hx67⟩
    have hx7 := hx6.tr hx67
    go_wp2_with fail
    refine (R.out _ hx7).mono ?_
    rintro e w8 ⟨rfl, hx78⟩
    have hx8 := hx7.tr hx78
    go_wp2_with fail
    refine (A1.out _).mono ?_
    rintro e w9 ⟨rfl, hx89⟩
    go_wp2_with fail
    refine (A2.out _).mono ?_
    rintro e w10 ⟨rfl, hx910⟩
    have k510 := hid (hx56.tr (hx67.tr (hx78.tr (hx89.tr hx910))))
    have k410 := hid (hx45.tr k510.out)
    have k210 := hid (hx23.tr (hx34.tr k410.out))
    have k110 := hid (hx12.tr k210.out)
    have k010 := hid (hx1.tr k110.out)
    clear hx12 hx23 hx34 hx45 hx56 hx67 hx78 hx89 hx910 hx1 hx2 hx3 hx4 hx5 hx6 hx7 hx8
    go_wp2_with fail
    refine (SameInts_is rfl (V1.out.mono k110.out) (V4.out.mono k410.out)).mono ?_
    rintro e w11 ⟨rfl, hx11⟩
    go_wp2_with fail
    refine (SameBools_is rfl (V2.out.mono (k210.out.tr hx11)) (V5.out.mono (k510.out.tr hx11))).mono ?_
    rintro e w12 ⟨rfl, hx12⟩
    go_wp2_with fail
    go_ret
    exact ⟨rfl, k010.out.tr (hx11.tr hx12)⟩
  · rw [if_neg h0] at L U
    have h0' := eqF h0
    generalize queueE l q = ee at *
    have hzz : (ee == ee) = true := by simp
    clear FL FU h0
    generalize l.length = n at *
    go_enter Try.func3, Try.ntmps3
    go_wp2_with fail
    refine L.out.mono ?_
    rintro e w1 ⟨v1, rfl, h1, hx1⟩
    have V1 := hid h1
    clear h1
    go_wp2_with fail
    refine (U.out _ hx1).mono ?_
    rintro e w2 ⟨v2, rfl, h2, hx12⟩
    have V2 := hid h2
    have hx2 := hx1.tr hx12
    clear h2
    go_wp2_with fail
    refine (E.out _ hx2).mono ?_
    rintro e w3 ⟨rfl, hx23⟩
    have hx3 := hx2.tr hx23
    go_wp2_with fail
    refine (B.out _).mono ?_
    rintro e w6 ⟨rfl, hx36⟩
    have hx6 := hx3.tr hx36
    go_wp2_with fail
    refine (T.out _ hx6).mono ?_
    rintro e w7 ⟨rfl, hx67⟩
    have hx7 := hx6.tr hx67
    go_wp2_with fail
    refine (R.out _ hx7).mono ?_
    rintro e w8 ⟨rfl, hx78⟩
    have hx8 := hx7.tr hx78
    go_wp2_with fail
    refine (A1.out _).mono ?_
    rintro e w9 ⟨rfl, hx89⟩
    go_wp2_with fail
    refine (A2.out _).mono ?_
    rintro e w10 ⟨rfl, hx910⟩
    have k210 := hid (hx23.tr (hx36.tr (hx67.tr (hx78.tr (hx89.tr hx910)))))
    have k110 := hid (hx12.tr k210.out)
    have k010 := hid (hx1.tr k110.out)
    clear hx12 hx23 hx36 hx67 hx78 hx89 hx910 hx1 hx2 hx3 hx6 hx7 hx8
    go_wp2_with fail
    refine (SameInts_is rfl (V1.out.mono k110.out) SV.nil).mono ?_
    rintro e w11 ⟨rfl, hx11⟩
    go_wp2_with fail
    refine (SameBools_is rfl (V2.out.mono (k210.out.tr hx11)) SV.nil).mono ?_
    rintro e w12 ⟨rfl, hx12⟩
    go_wp2_with fail
    go_ret
    exact ⟨rfl, k010.out.tr (hx11.tr hx12)⟩

end Go.Proofs.Ytchblkemofncoaa
