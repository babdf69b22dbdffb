/- The laws on runs: walks of RunsTells, RunsBumps, RunsTwo. -/
import Derived.Test.YtchblkemofncoaaLawB
set_option linter.unusedVariables false
namespace Go.Proofs.Ytchblkemofncoaa
open Go.RowKit

set_option maxRecDepth 100000 in
set_option maxHeartbeats 4000000 in
theorem RunsTells_walk (w : World) (v : Value) (f : List Run) (t a b : Int) (hv : RunsV w v f) :
    Calls Try.prog 7 #[v, .int .i64 t, .int .i64 a, .int .i64 b] w fun e w' => e = .returned (.bool true) ∧ Ext w w' := by
  have V := hid (fun (W : World) (h : Ext w W) => Value_any W v f t (hv.mono h))
  have L := hid (fun (W : World) (h : Ext w W) => Least_any W v f a b (hv.mono h))
  have VO := hid (fun (W : World) (h : Ext w W) => ValueOf_any W v f t (hv.mono h))
  have LO := hid (fun (W : World) (h : Ext w W) => LeastOf_any W v f a b (hv.mono h))
  have C := hid (fun (W : World) (h : Ext w W) => Check_any W v f (hv.mono h))
  have R := hid (fun (W : World) (h : Ext w W) => RunsFine_any W v f (hv.mono h))
  obtain ⟨n, c, hn, hc, hq⟩ : ∃ (n : Int) (c : Bool), chk f = n ∧ decide (Fine f) = c ∧ (n == 0) = c := by
    by_cases hf : Fine f
    · exact ⟨0, true, chk_yes hf, deT hf, rfl⟩
    · exact ⟨1, false, chk_no hf, deF hf, rfl⟩
  rw [hn] at C
  rw [hc] at R
  clear hn hc hv
  generalize (valueR f t).1 = m1 at *
  generalize (valueR f t).2 = m2 at *
  generalize (leastR f a b).1 = m3 at *
  generalize (leastR f a b).2 = m4 at *
  go_enter Try.func7, Try.ntmps7
  go_wp2_with fail
  refine (V.out _ (Ext.rf _)).mono ?_
  rintro e w1 ⟨rfl, hx⟩
  go_wp2_with fail
  refine (L.out _ hx).mono ?_
  rintro e w2 ⟨rfl, hx2⟩
  replace hx := hx.tr hx2
  go_wp2_with fail
  refine (VO.out _ hx).mono ?_
  rintro e w3 ⟨rfl, hx3⟩
  replace hx := hx.tr hx3
  go_wp2_with fail
  refine (LO.out _ hx).mono ?_
  rintro e w4 ⟨rfl, hx4⟩
  replace hx := hx.tr hx4
  go_wp2_with fail
  refine (runsBegun_true _).mono ?_
  rintro e w5 ⟨rfl, hx5⟩
  replace hx := hx.tr hx5
  go_wp2_with fail
  refine (C.out _ hx).mono ?_
  rintro e w6 ⟨rfl, hx6⟩
  replace hx := hx.tr hx6
  go_wp2_with fail
  refine (R.out _ hx).mono ?_
  rintro e w7 ⟨rfl, hx7⟩
  replace hx := hx.tr hx7
  clear hx2 hx3 hx4 hx5 hx6 hx7
  go_wp2_with fail
  go_ret
  exact ⟨rfl, hx⟩

set_option maxRecDepth 100000 in
set_option maxHeartbeats 4000000 in
theorem RunsBumps_walk (w : World) (v : Value) (f : List Run) (a b n : Int) (hv : RunsV w v f) :
    Calls Try.prog 8 #[v, .int .i64 a, .int .i64 b, .int .i64 n] w fun e w' => e = .returned (.bool true) ∧ Ext w w' := by
  have B := hid (fun (W : World) (h : Ext w W) => Bump_any W v f a b n (hv.mono h))
  have BO := hid (fun (W : World) (h : Ext w W) => BumpOf_any W v f a b n (hv.mono h))
  clear hv
  generalize bumpR f a b n = r at *
  obtain ⟨l, k⟩ := r
  go_enter Try.func8, Try.ntmps8
  go_wp2_with fail
  refine (B.out _ (Ext.rf _)).mono ?_
  rintro e w1 ⟨va, rfl, ha, hx⟩
  have Ha := hid (fun (W : World) (h : Ext w1 W) => ha.mono h)
  clear ha
  go_wp2_with fail
  refine (BO.out _ hx).mono ?_
  rintro e w2 ⟨vb, rfl, hb, hx2⟩
  have Hb := hid (fun (W : World) (h : Ext w2 W) => hb.mono h)
  clear hb
  go_wp2_with fail
  refine (runsBegun_true _).mono ?_
  rintro e w3 ⟨rfl, hx3⟩
  go_wp2_with fail
  refine (Same_is rfl (Ha.out _ (hx2.tr hx3)) (Hb.out _ hx3)).mono ?_
  rintro e w4 ⟨rfl, hx4⟩
  go_wp2_with fail
  go_ret
  exact ⟨rfl, ((hx.tr hx2).tr hx3).tr hx4⟩

set_option maxRecDepth 100000 in
set_option maxHeartbeats 4000000 in
theorem RunsTwo_walk (w : World) (vf : Value) (f : List Run) (vg : Value) (g : List Run) (hf : RunsV w vf f) (hg : RunsV w vg g) :
    Calls Try.prog 9 #[vf, vg] w fun e w' => e = .returned (.bool true) ∧ Ext w w' := by
  have P := hid (fun (W : World) (h : Ext w W) => Plus_any W vf vg f g (hf.mono h) (hg.mono h))
  have M := hid (fun (W : World) (h : Ext w W) => Minus_any W vf vg f g (hf.mono h) (hg.mono h))
  have L := hid (fun (W : World) (h : Ext w W) => Lesser_any W vf vg f g (hf.mono h) (hg.mono h))
  have PO := hid (fun (W : World) (h : Ext w W) => PlusOf_any W vf vg f g (hf.mono h) (hg.mono h))
  have MO := hid (fun (W : World) (h : Ext w W) => MinusOf_any W vf vg f g (hf.mono h) (hg.mono h))
  have LO := hid (fun (W : World) (h : Ext w W) => LesserOf_any W vf vg f g (hf.mono h) (hg.mono h))
  clear hf hg
  generalize bothR f g (fun a b => a + b) = r1 at *
  generalize bothR f g (fun a b => a - b) = r2 at *
  generalize bothR f g (fun a b => min a b) = r3 at *
  obtain ⟨l1, k1⟩ := r1
  obtain ⟨l2, k2⟩ := r2
  obtain ⟨l3, k3⟩ := r3
  go_enter Try.func9, Try.ntmps9
  go_wp2_with fail
  refine (P.out _ (Ext.rf _)).mono ?_
  rintro e w1 ⟨v1, rfl, h1, hx1⟩
  have H1 := hid h1
  clear h1
  go_wp2_with fail
  refine (M.out _ hx1).mono ?_
  rintro e w2 ⟨v2, rfl, h2, hx2⟩
  have H2 := hid h2
  have hy2 := hx1.tr hx2
  clear h2
  go_wp2_with fail
  refine (L.out _ hy2).mono ?_
  rintro e w3 ⟨v3, rfl, h3, hx3⟩
  have H3 := hid h3
  have hy3 := hy2.tr hx3
  clear h3
  go_wp2_with fail
  refine (PO.out _ hy3).mono ?_
  rintro e w4 ⟨v4, rfl, h4, hx4⟩
  have H4 := hid h4
  have hy4 := hy3.tr hx4
  clear h4
  go_wp2_with fail
  refine (MO.out _ hy4).mono ?_
  rintro e w5 ⟨v5, rfl, h5, hx5⟩
  have H5 := hid h5
  have hy5 := hy4.tr hx5
  clear h5
  go_wp2_with fail
  refine (LO.out _ hy5).mono ?_
  rintro e w6 ⟨v6, rfl, h6, hx6⟩
  have H6 := hid h6
  have hy6 := hy5.tr hx6
  clear h6
  go_wp2_with fail
  refine (runsBegun_true _).mono ?_
  rintro e w7 ⟨rfl, hx7⟩
  have K1 := hid (H1.out.mono (hx2.tr (hx3.tr (hx4.tr (hx5.tr (hx6.tr hx7))))))
  have K2 := hid (H2.out.mono (hx3.tr (hx4.tr (hx5.tr (hx6.tr hx7)))))
  have K3 := hid (H3.out.mono (hx4.tr (hx5.tr (hx6.tr hx7))))
  have K4 := hid (H4.out.mono (hx5.tr (hx6.tr hx7)))
  have K5 := hid (H5.out.mono (hx6.tr hx7))
  have K6 := hid (H6.out.mono hx7)
  have hy7 := hy6.tr hx7
  clear hx1 hx2 hx3 hx4 hx5 hx6 hx7 hy2 hy3 hy4 hy5 hy6 H1 H2 H3 H4 H5 H6
  go_wp2_with fail
  refine (Same_is rfl K1.out K4.out).mono ?_
  rintro e w8 ⟨rfl, hx8⟩
  go_wp2_with fail
  refine (Same_is rfl (K2.out.mono hx8) (K5.out.mono hx8)).mono ?_
  rintro e w9 ⟨rfl, hx9⟩
  go_wp2_with fail
  refine (Same_is rfl (K3.out.mono (hx8.tr hx9)) (K6.out.mono (hx8.tr hx9))).mono ?_
  rintro e w10 ⟨rfl, hx10⟩
  go_wp2_with fail
  go_ret
  exact ⟨rfl, hy7.tr (hx8.tr (hx9.tr hx10))⟩

end Go.Proofs.Ytchblkemofncoaa
