/- The laws on runs: runsBegun is true. -/
import Derived.Test.YtchblkemofncoaaLawA
set_option linter.unusedVariables false
namespace Go.Proofs.Ytchblkemofncoaa
open Go.RowKit

set_option maxRecDepth 100000 in
set_option maxHeartbeats 8000000 in
theorem runsBegun_true (w : World) : Calls Try.prog 39 #[] w fun e w' => e = .returned (.bool true) ∧ Ext w w' := by
  go_enter Try.func39, Try.ntmps39
  go_wp2_with fail
  have Hf := hid (fun (W : World) (h : Ext ((w.alloc (.cells #[.int .i64 0, .int .i64 5, .int .i64 10, .int .i64 8] 79)).alloc (.cells #[.int .i64 0, .int .i64 1, .int .i64 10, .int .i64 (-2), .int .i64 20, .int .i64 0] 79)) W) =>
    runs_at (w := w) (b := w.heap.size) (n := 2) (cs := #[.int .i64 0, .int .i64 5, .int .i64 10, .int .i64 8]) fB (by rfl) rfl (by decide) (by decide +kernel) rfl (((Ext.rf _).al _).tr h))
  have Hg := hid (fun (W : World) (h : Ext ((w.alloc (.cells #[.int .i64 0, .int .i64 5, .int .i64 10, .int .i64 8] 79)).alloc (.cells #[.int .i64 0, .int .i64 1, .int .i64 10, .int .i64 (-2), .int .i64 20, .int .i64 0] 79)) W) =>
    runs_at (w := w.alloc (.cells #[.int .i64 0, .int .i64 5, .int .i64 10, .int .i64 8] 79)) (b := w.heap.size + 1) (n := 3) (cs := #[.int .i64 0, .int .i64 1, .int .i64 10, .int .i64 (-2), .int .i64 20, .int .i64 0]) gB (by rfl) rfl (by decide) (by decide +kernel) (by simp) h)
  have Hx0 := hid (((Ext.rf w).al (.cells #[.int .i64 0, .int .i64 5, .int .i64 10, .int .i64 8] 79)).al (.cells #[.int .i64 0, .int .i64 1, .int .i64 10, .int .i64 (-2), .int .i64 20, .int .i64 0] 79))
  refine (Value_is valueB (Hf.out _ (Ext.rf _))).mono ?_
  rintro e w1 ⟨rfl, hx1⟩
  go_wp2_with fail
  refine (Plus_is plusB (Hf.out _ hx1) (Hg.out _ hx1)).mono ?_
  rintro e w2 ⟨va, rfl, ha, hx2⟩
  replace hx2 := hx1.tr hx2
  have Ha := hid (fun (W : World) (h : Ext w2 W) => ha.mono h)
  clear ha
  go_wp2_with fail
  refine (Lesser_is lesserB (Hf.out _ hx2) (Hg.out _ hx2)).mono ?_
  rintro e w3 ⟨vb, rfl, hb, hx3⟩
  have hx23 := hx3
  replace hx3 := hx2.tr hx3
  have Hb := hid (fun (W : World) (h : Ext w3 W) => hb.mono h)
  clear hb
  go_wp2_with fail
  refine (Bump_is bumpB (Hf.out _ hx3)).mono ?_
  rintro e w4 ⟨vc, rfl, hc, hx4⟩
  have hx34 := hx4
  replace hx4 := hx3.tr hx4
  have Hc := hid (fun (W : World) (h : Ext w4 W) => hc.mono h)
  clear hc
  go_wp2_with fail
  refine (Least_is leastB (Hc.out _ (Ext.rf _))).mono ?_
  rintro e w5 ⟨rfl, hx45⟩
  have hx5 := hx4.tr hx45
  go_wp2_with fail
  refine (Bump_is bumpB2 (Hf.out _ hx5)).mono ?_
  rintro e w6 ⟨vd, rfl, _, hx56⟩
  have hx6 := hx5.tr hx56
  go_wp2_with fail
  refine (Check_is chkB (Hf.out _ hx6)).mono ?_
  rintro e w7 ⟨rfl, hx67⟩
  have hx7 := hx6.tr hx67
  go_wp2_with fail
  refine (Check_is chkB0 SV.nil).mono ?_
  rintro e w8 ⟨rfl, hx78⟩
  have hx8 := hx7.tr hx78
  go_wp2_with fail
  refine (Check_is chkB1 (runs_at (w := w8) badB (by rfl) rfl (by decide) (by decide +kernel) rfl (Ext.rf _))).mono ?_
  rintro e w9 ⟨rfl, hx89⟩
  have hx9 := hx8.tr (((Ext.rf _).al _).tr hx89)
  have hy24 := hid (hx23.tr (hx34.tr (hx45.tr (hx56.tr (hx67.tr (hx78.tr (((Ext.rf _).al _).tr hx89)))))))
  have hy34 := hid (hx34.tr (hx45.tr (hx56.tr (hx67.tr (hx78.tr (((Ext.rf _).al _).tr hx89))))))
  have hy44 := hid (hx45.tr (hx56.tr (hx67.tr (hx78.tr (((Ext.rf _).al _).tr hx89)))))
  clear hx23 hx34 hx45 hx56 hx67 hx78 hx89 hx1 hx2 hx3 hx4 hx5 hx6 hx7 hx8
  go_wp2_with fail
  refine (Same_is (f := pB) (g := pB) rfl (Ha.out _ (hy24.out.tr ((Ext.rf _).al _))) (runs_at (w := w9) pB (by rfl) rfl (by decide) (by decide +kernel) rfl (Ext.rf _))).mono ?_
  rintro e w10 ⟨rfl, hx10⟩
  have hz10 := ((Ext.rf w9).al _).tr hx10
  clear hx10
  go_wp2_with fail
  refine (Same_is (f := gB) (g := gB) rfl (Hb.out _ (hy34.out.tr hz10)) (Hg.out _ (hx9.tr hz10))).mono ?_
  rintro e w11 ⟨rfl, hx11⟩
  have hz11 := hz10.tr hx11
  clear hx11 hz10
  go_wp2_with fail
  refine (Same_is (f := cB) (g := cB) rfl (Hc.out _ (hy44.out.tr (hz11.tr ((Ext.rf _).al _)))) (runs_at (w := w11) cB (by rfl) rfl (by decide) (by decide +kernel) rfl (Ext.rf _))).mono ?_
  rintro e w12 ⟨rfl, hx12⟩
  have hz12 := hz11.tr (((Ext.rf _).al _).tr hx12)
  clear hx12 hz11
  go_wp2_with fail
  go_ret
  exact ⟨rfl, Hx0.out.tr (hx9.tr hz12)⟩

end Go.Proofs.Ytchblkemofncoaa
