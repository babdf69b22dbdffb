/- The laws on places: placeBegun is true; PlaceFinds. -/
import Derived.Test.YtchblkemofncoaaFind
import Derived.Test.YtchblkemofncoaaPlot
import Derived.Test.YtchblkemofncoaaLawA
set_option linter.unusedVariables false
namespace Go.Proofs.Ytchblkemofncoaa
open Go.RowKit

def pF : List Run := [⟨0, 8⟩, ⟨8, 2⟩, ⟨15, 8⟩]
def pZ : List Run := [⟨0, 0⟩]
theorem pF_fine : Fine pF := of_decide_eq_true (by decide +kernel)
theorem pZ_fine : Fine pZ := of_decide_eq_true (by decide +kernel)
theorem formPlot {k : Int} (h : ReqOk (plotR k)) : (formR (plotR k)).1 = 0 := by rw [formR_ok h]
theorem placeAll : findR pF (plotR 1) = ([⟨0, 2⟩, ⟨1, 15⟩], true, 0) := by
  rw [findR_ok pF_fine (formPlot (by decide +kernel)), placeL_all rfl]; decide +kernel
theorem placeOrder : findR pF (plotR 3) = ([⟨0, 2⟩, ⟨1, 15⟩], true, 0) := by
  rw [findR_ok pF_fine (formPlot (by decide +kernel)), placeL_order rfl]; decide +kernel
theorem placeTight : findR pF (plotR 4) = ([⟨0, 15⟩, ⟨1, 19⟩], true, 0) := by
  rw [findR_ok pF_fine (formPlot (by decide +kernel)), placeL_tight rfl]; decide +kernel
theorem placeAny : findR pF (plotR 2) = ([⟨0, 2⟩], true, 0) := by
  rw [findR_ok pF_fine (formPlot (by decide +kernel)), placeL_any rfl]; decide +kernel
theorem placeNone : findR pZ (plotR 2) = ([], false, 0) := by
  rw [findR_ok pZ_fine (formPlot (by decide +kernel)), placeL_any rfl]; decide +kernel

theorem Find_is {w : World} {v pv : Value} {f : List Run} {r : Request} {l : List Bite} {b : Bool} {n : Int} (h : findR f r = (l, b, n)) (hv : RunsV w v f) (hp : PiecesV w pv r.Pieces) :
    Calls Try.prog 51 #[v, .agg #[.int .i64 r.Queue, .int .i64 r.From, .int .i64 r.Until, .int .i64 r.Kind, pv]] w fun e w' => ∃ u, e = .returned (.tuple #[u, .bool b, .int .i64 n]) ∧ BitesV w' u l ∧ Ext w w' := by
  have := Find_any w v pv f r hv hp; rw [h] at this; exact this
theorem SameBites_is {w : World} {vf vg : Value} {f g : List Bite} (h : f = g) (hf : BitesV w vf f) (hg : BitesV w vg g) :
    Calls Try.prog 54 #[vf, vg] w fun e w' => e = .returned (.bool true) ∧ Ext w w' := by
  have := SameBites_any w vf vg f g hf hg; rw [decide_eq_true h] at this; exact this

set_option maxRecDepth 100000 in
theorem plotF {w : World} {v : Value} {pz : Nat} {k : Int} {f : List Run} {l : List Bite} {b : Bool} {n : Int} (h : findR f (plotR k) = (l, b, n)) (hv : RunsV w v f) (hp : PiecesV w (.slice (some ⟨pz, 0, none⟩) 2 2) plotL) :
    Calls Try.prog 51 #[v, .agg #[.int .i64 3, .int .i64 2, .int .i64 30, .int .i64 k, .slice (some ⟨pz, 0, none⟩) 2 2]] w fun e w' => ∃ u, e = .returned (.tuple #[u, .bool b, .int .i64 n]) ∧ BitesV w' u l ∧ Ext w w' :=
  Find_is (r := ⟨3, 2, 30, k, plotL⟩) (show findR f ⟨3, 2, 30, k, plotL⟩ = (l, b, n) from h) hv hp

set_option maxRecDepth 100000 in
set_option maxHeartbeats 8000000 in
theorem placeBegun_true (w : World) : Calls Try.prog 53 #[] w fun e w' => e = .returned (.bool true) ∧ Ext w w' := by
  have R0 := hid (runs_lit (w := w) (cs := #[.int .i64 0, .int .i64 8, .int .i64 8, .int .i64 2, .int .i64 15, .int .i64 8]) (b := w.heap.size) (n := 3) pF rfl rfl rfl (by decide) (lit_nums (by decide +kernel)))
  have RZ := hid (fun (W : World) => runs_lit (w := W) (cs := #[.int .i64 0, .int .i64 0]) (b := W.heap.size) (n := 1) pZ rfl rfl rfl (by decide) (lit_nums (by decide +kernel)))
  have hx0 := hid ((Ext.rf w).al (.cells #[.int .i64 0, .int .i64 8, .int .i64 8, .int .i64 2, .int .i64 15, .int .i64 8] 79))
  go_enter Try.func53, Try.ntmps53
  go_wp2_with fail
  refine (plot_any _ 1).mono ?_
  rintro e a1 ⟨pz, rfl, P, hx1⟩
  have X1 := hid hx1
  clear hx1
  go_wp2_with fail
  refine (plotF placeAll (R0.out.mono X1.out) P).mono ?_
  rintro e b1 ⟨u1, rfl, hu, hx1⟩
  have U1 := hid hu
  have Y1 := hid (X1.out.tr hx1)
  clear P hu hx1 X1
  go_wp2_with fail
  refine (plot_any _ 3).mono ?_
  rintro e a2 ⟨pz, rfl, P, hx1⟩
  have X1 := hid hx1
  clear hx1
  go_wp2_with fail
  refine (plotF placeOrder (R0.out.mono (Y1.out.tr X1.out)) P).mono ?_
  rintro e b2 ⟨u2, rfl, hu, hx1⟩
  have U2 := hid hu
  have Z2 := hid (X1.out.tr hx1)
  have Y2 := hid (Y1.out.tr Z2.out)
  clear P hu hx1 X1
  go_wp2_with fail
  refine (plot_any _ 4).mono ?_
  rintro e a3 ⟨pz, rfl, P, hx1⟩
  have X1 := hid hx1
  clear hx1
  go_wp2_with fail
  refine (plotF placeTight (R0.out.mono (Y2.out.tr X1.out)) P).mono ?_
  rintro e b3 ⟨u3, rfl, hu, hx1⟩
  have U3 := hid hu
  have Z3 := hid (X1.out.tr hx1)
  have Y3 := hid (Y2.out.tr Z3.out)
  clear P hu hx1 X1
  go_wp2_with fail
  refine (plot_any _ 2).mono ?_
  rintro e a4 ⟨pz, rfl, P, hx1⟩
  have X1 := hid hx1
  clear hx1
  go_wp2_with fail
  refine (plotF placeAny (R0.out.mono (Y3.out.tr X1.out)) P).mono ?_
  rintro e b4 ⟨u4, rfl, hu, hx1⟩
  have U4 := hid hu
  have Z4 := hid (X1.out.tr hx1)
  have Y4 := hid (Y3.out.tr Z4.out)
  clear P hu hx1 X1
  go_wp2_with fail
  refine (plot_any _ 2).mono ?_
  rintro e a5 ⟨pz, rfl, P, hx1⟩
  have X1 := hid hx1
  clear hx1
  go_wp2_with fail
  refine (plotF placeNone ((RZ.out b4).mono X1.out) P).mono ?_
  rintro e b5 ⟨u5, rfl, hu, hx1⟩
  have Z5 := hid ((((Ext.rf b4).al _).tr X1.out).tr hx1)
  clear P hu hx1 X1
  go_wp2_with fail
  have V4 := hid (U4.out.mono Z5.out)
  have V3 := hid (U3.out.mono (Z4.out.tr Z5.out))
  have V2 := hid (U2.out.mono (Z3.out.tr (Z4.out.tr Z5.out)))
  have V1 := hid (U1.out.mono (Z2.out.tr (Z3.out.tr (Z4.out.tr Z5.out))))
  have Y5 := hid (hx0.out.tr (Y4.out.tr Z5.out))
  clear U1 U2 U3 U4 Z2 Z3 Z4 Z5 Y1 Y2 Y3 Y4
  refine (SameBites_is (f := [⟨0, 2⟩, ⟨1, 15⟩]) (g := [⟨0, 2⟩, ⟨1, 15⟩]) rfl (V1.out.mono ((Ext.rf b5).al _)) (bites_lit [⟨0, 2⟩, ⟨1, 15⟩] rfl rfl rfl (by decide) (by decide))).mono ?_
  rintro e c1 ⟨rfl, hx1⟩
  have T1 := hid ((Ext.rf b5).tr (((Ext.rf _).al _).tr hx1))
  clear hx1
  go_wp2_with fail
  refine (SameBites_is (f := [⟨0, 2⟩, ⟨1, 15⟩]) (g := [⟨0, 2⟩, ⟨1, 15⟩]) rfl (V2.out.mono (T1.out.al _)) (bites_lit [⟨0, 2⟩, ⟨1, 15⟩] rfl rfl rfl (by decide) (by decide))).mono ?_
  rintro e c2 ⟨rfl, hx1⟩
  have T2 := hid (T1.out.tr (((Ext.rf _).al _).tr hx1))
  clear hx1
  go_wp2_with fail
  refine (SameBites_is (f := [⟨0, 15⟩, ⟨1, 19⟩]) (g := [⟨0, 15⟩, ⟨1, 19⟩]) rfl (V3.out.mono (T2.out.al _)) (bites_lit [⟨0, 15⟩, ⟨1, 19⟩] rfl rfl rfl (by decide) (by decide))).mono ?_
  rintro e c3 ⟨rfl, hx1⟩
  have T3 := hid (T2.out.tr (((Ext.rf _).al _).tr hx1))
  clear hx1
  go_wp2_with fail
  refine (SameBites_is (f := [⟨0, 2⟩]) (g := [⟨0, 2⟩]) rfl (V4.out.mono (T3.out.al _)) (bites_lit [⟨0, 2⟩] rfl rfl rfl (by decide) (by decide))).mono ?_
  rintro e c4 ⟨rfl, hx1⟩
  have T4 := hid (T3.out.tr (((Ext.rf _).al _).tr hx1))
  clear hx1
  go_wp2_with fail
  go_ret
  exact ⟨rfl, Y5.out.tr T4.out⟩

set_option maxRecDepth 100000 in
set_option maxHeartbeats 4000000 in
theorem placeFinds_any (w : World) (v : Value) (f : List Run) (rv : Value) (r : Request) (hv : RunsV w v f) (hr : ReqV w rv r) :
    Calls Try.prog 11 #[v, rv] w fun e w' => e = .returned (.bool true) ∧ Ext w w' := by
  obtain ⟨cs, rfl, pv, rfl, hp, i1, i2, i3, i4⟩ := hr
  have hal := hid (fun (o : Obj) => (Ext.rf w).al o)
  have F := hid (fun (W : World) (h : Ext w W) => Find_any W v pv f r (hv.mono h) (hp.mono h))
  have G := hid (fun (W : World) (h : Ext w W) => FindPlace_any W v pv f r (hv.mono h) (hp.mono h))
  have B := hid (fun (W : World) => placeBegun_true W)
  obtain ⟨pa, pc, rfl, _, _, _⟩ := hp.form
  obtain ⟨fa, fc, rfl, _, _, _⟩ := hv.form
  clear hp hv i1 i2 i3 i4
  generalize findR f r = ov at *
  obtain ⟨l, b, n⟩ := ov
  have hbb : (b == b) = true := by simp
  have hnn : (n == n) = true := by simp
  generalize r.Pieces.length = pn at *
  generalize f.length = fn at *
  go_enter Try.func11, Try.ntmps11
  go_wp2_with fail
  refine (F.out _ (hal.out _)).mono ?_
  rintro e1 w1 ⟨u1, rfl, h1, hx1⟩
  have U1 := hid h1
  have hx01 := (hal.out _).tr hx1
  obtain ⟨_, _, _, _, _⟩ := reqCells hx1
  clear h1
  go_wp2_with fail
  refine (G.out _ hx01).mono ?_
  rintro e2 w2 ⟨u2, rfl, h2, hx2⟩
  have U2 := hid h2
  have V1 := hid (U1.out.mono hx2)
  have hx02 := hid (hx01.tr hx2)
  clear h2 hx1 hx2 hx01 U1
  go_wp2_with fail
  refine (B.out _).mono ?_
  rintro e3 w3 ⟨rfl, hx3⟩
  go_wp2_with fail
  refine (SameBites_is (f := l) (g := l) rfl (V1.out.mono hx3) (U2.out.mono hx3)).mono ?_
  rintro e4 w4 ⟨rfl, hx4⟩
  go_wp2_with fail
  go_ret
  exact ⟨rfl, hx02.out.tr (hx3.tr hx4)⟩

end Go.Proofs.Ytchblkemofncoaa
