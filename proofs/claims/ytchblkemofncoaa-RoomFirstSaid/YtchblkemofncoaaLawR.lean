/- The laws on requests: plot; reqBegun is true. -/
import Derived.Test.YtchblkemofncoaaReqG
import Derived.Test.YtchblkemofncoaaReqF
import Derived.Test.YtchblkemofncoaaLawT
import Derived.Test.YtchblkemofncoaaLit
import Derived.Test.YtchblkemofncoaaPlot
import Derived.WalkSpells
import Derived.StillTactics
import Derived.Tactics2
import Derived.Deep.RegionHeld3
import Derived.Test.YtchblkemofncoaaPair
set_option linter.unusedVariables false
namespace Go.Proofs.Ytchblkemofncoaa
open Go.RowKit

instance (r : Request) (b : List Bite) (k : Nat) : Decidable (BiteIn r b k) :=
  decidable_of_iff ((0 ≤ bP b k ∧ bP b k < r.Pieces.length) ∧ 0 ≤ bA b k ∧ bA b k ≤ 48) ⟨fun h => ⟨h.1.1, h.1.2, h.2.1, h.2.2⟩, fun h => ⟨⟨h.low, h.is⟩, h.at0, h.at48⟩⟩
instance (r : Request) (b : List Bite) (k : Nat) : Decidable (StepOk r b k) :=
  decidable_of_iff ((lastP b k < bP b k ∧ bP b k < r.Pieces.length) ∧ (r.From ≤ bA b k ∧ bA b k ≤ r.Until) ∧ pL r (bP b k).toNat ≤ r.Until - bA b k ∧ (0 < k → r.Kind = 3 → endA r b k ≤ bA b k) ∧ (0 < k → r.Kind = 4 → bA b k = endA r b k))
    ⟨fun h => ⟨h.1.1, h.1.2, h.2.1.1, h.2.1.2, h.2.2.1, h.2.2.2.1, h.2.2.2.2⟩, fun h => ⟨⟨h.up, h.is⟩, ⟨h.from_, h.until_⟩, h.fits, h.order, h.tight⟩⟩
theorem meetsR_dec (r : Request) (b : List Bite) : meetsR r b = decide (ReqOk r ∧ (∀ k, k < b.length → StepOk r b k) ∧ CountOk r b) := by
  by_cases h : ReqOk r ∧ (∀ k, k < b.length → StepOk r b k) ∧ CountOk r b
  · rw [decide_eq_true h]; exact meetsR_iff.2 h
  · rw [decide_eq_false h]; exact meetsR_no h

theorem Over_is {w : World} {pv bv : Value} {r : Request} {b : List Bite} {n e : Int} (h : overR r b = (n, e)) (hv : PiecesV w pv r.Pieces) (hb : BitesV w bv b) :
    Calls Try.prog 28 #[.agg #[.int .i64 r.Queue, .int .i64 r.From, .int .i64 r.Until, .int .i64 r.Kind, pv], bv] w fun x w' => x = .returned (.tuple #[.int .i64 n, .int .i64 e]) ∧ Ext w w' := by
  have := Over_any w pv bv r b hv hb; rw [h] at this; exact this
theorem Meets_is {w : World} {pv bv : Value} {r : Request} {b : List Bite} {c : Bool} (h : meetsR r b = c) (hv : PiecesV w pv r.Pieces) (hb : BitesV w bv b) :
    Calls Try.prog 33 #[.agg #[.int .i64 r.Queue, .int .i64 r.From, .int .i64 r.Until, .int .i64 r.Kind, pv], bv] w fun x w' => x = .returned (.bool c) ∧ Ext w w' := by
  have := Meets_any w pv bv r b hv hb; rw [h] at this; exact this
theorem reqCheck_is {w : World} {v pv : Value} {l : List Queue} {r : Request} {n : Int} (h : reqE l r = n) (hl : QueuesV w v l) (hv : PiecesV w pv r.Pieces) :
    Calls Try.prog 31 #[v, .agg #[.int .i64 r.Queue, .int .i64 r.From, .int .i64 r.Until, .int .i64 r.Kind, pv]] w fun x w' => x = .returned (.int .i64 n) ∧ Ext w w' := by
  have := reqCheck_any w v pv l r hl hv; rw [h] at this; exact this

theorem plotO : overR (plotR 1) [⟨0, 20⟩, ⟨1, 10⟩] = (24, 0) := by
  rw [overR_yes (by decide +kernel) (by decide) (by decide +kernel)]; decide +kernel
theorem plotO0 : overR (plotR 1) [] = (0, 1) := overR_no (fun h => by have := h.2.1; simp at this)
theorem plotC : reqE (fieldL 10 0 6) (plotR 1) = 0 := reqE_ok fieldC (by decide +kernel) (by decide)
theorem plotC4 : reqE (fieldL 10 0 6) ⟨4, 2, 30, 1, plotL⟩ = 6 := by
  rw [reqE_form fieldC, formR_ok (by decide +kernel), if_pos (by decide)]
theorem plotC5 : reqE (fieldL 10 0 6) (plotR 5) = 7 := by
  rw [reqE_form fieldC, formR_kind (by decide), if_neg (by decide)]
theorem plotM1 : meetsR (plotR 1) [⟨0, 20⟩, ⟨1, 10⟩] = true := by rw [meetsR_dec]; decide +kernel
theorem plotM2 : meetsR (plotR 3) [⟨0, 20⟩, ⟨1, 10⟩] = false := by rw [meetsR_dec]; decide +kernel
theorem plotM3 : meetsR (plotR 4) [⟨0, 2⟩, ⟨1, 6⟩] = true := by rw [meetsR_dec]; decide +kernel
theorem plotM4 : meetsR (plotR 4) [⟨0, 2⟩, ⟨1, 7⟩] = false := by rw [meetsR_dec]; decide +kernel
theorem plotM5 : meetsR (plotR 2) [⟨1, 25⟩] = true := by rw [meetsR_dec]; decide +kernel
theorem plotM6 : meetsR (plotR 2) [⟨1, 26⟩] = false := by rw [meetsR_dec]; decide +kernel

/-- a struct of five cells in a block, later on -/
theorem rowCells5 {w W : World} {B : Nat} {a b c d e : Value} {t : TypeId} (h : w.heap[B]? = some (.cells #[a, b, c, d, e] t (0, 0))) (hx : Ext w W) :
    W.cell? ⟨B, 0, none⟩ = some a ∧ W.cell? ⟨B, 1, none⟩ = some b ∧ W.cell? ⟨B, 2, none⟩ = some c ∧ W.cell? ⟨B, 3, none⟩ = some d ∧ W.cell? ⟨B, 4, none⟩ = some e := by
  have k : ∀ j v, (#[a, b, c, d, e] : Array Value)[j]? = some v → W.cell? ⟨B, j, none⟩ = some v := fun j v hv => hx.ce' (by rw [cell_of_row _ _ _ _ _ _ h]; exact hv)
  exact ⟨k 0 _ rfl, k 1 _ rfl, k 2 _ rfl, k 3 _ rfl, k 4 _ rfl⟩

theorem field_ex (w : World) : Calls Try.prog 65 #[] w fun e w' => ∃ B : Nat, e = .returned (.slice (some ⟨B + 4, 0, none⟩) 4 4) ∧ FieldAt w' B 10 0 6 ∧ Ext w w' :=
  (field_any w).mono fun _ _ ⟨h1, h2, h3⟩ => ⟨_, h1, h2, h3⟩

set_option maxRecDepth 100000 in
theorem chk1 {W : World} {v : Value} {pz : Nat} (hV : QueuesV W v (fieldL 10 0 6)) (hP : PiecesV W (.slice (some ⟨pz, 0, none⟩) 2 2) plotL) :
    Calls Try.prog 31 #[v, .agg #[.int .i64 3, .int .i64 2, .int .i64 30, .int .i64 1, .slice (some ⟨pz, 0, none⟩) 2 2]] W fun x w' => x = .returned (.int .i64 0) ∧ Ext W w' := reqCheck_is (r := ⟨3, 2, 30, 1, plotL⟩) plotC hV hP
set_option maxRecDepth 100000 in
theorem chk2 {W : World} {v : Value} {pz : Nat} (hV : QueuesV W v (fieldL 10 0 6)) (hP : PiecesV W (.slice (some ⟨pz, 0, none⟩) 2 2) plotL) :
    Calls Try.prog 31 #[v, .agg #[.int .i64 4, .int .i64 2, .int .i64 30, .int .i64 1, .slice (some ⟨pz, 0, none⟩) 2 2]] W fun x w' => x = .returned (.int .i64 6) ∧ Ext W w' := reqCheck_is (r := ⟨4, 2, 30, 1, plotL⟩) plotC4 hV hP
set_option maxRecDepth 100000 in
theorem chk3 {W : World} {v : Value} {pz : Nat} (hV : QueuesV W v (fieldL 10 0 6)) (hP : PiecesV W (.slice (some ⟨pz, 0, none⟩) 2 2) plotL) :
    Calls Try.prog 31 #[v, .agg #[.int .i64 3, .int .i64 2, .int .i64 30, .int .i64 5, .slice (some ⟨pz, 0, none⟩) 2 2]] W fun x w' => x = .returned (.int .i64 7) ∧ Ext W w' := reqCheck_is (r := ⟨3, 2, 30, 5, plotL⟩) plotC5 hV hP
set_option maxRecDepth 100000 in
theorem mt1 {W : World} {pz bz : Nat} (hP : PiecesV W (.slice (some ⟨pz, 0, none⟩) 2 2) plotL) (hB : BitesV W (.slice (some ⟨bz, 0, none⟩) 2 2) [⟨0, 20⟩, ⟨1, 10⟩]) :
    Calls Try.prog 33 #[.agg #[.int .i64 3, .int .i64 2, .int .i64 30, .int .i64 1, .slice (some ⟨pz, 0, none⟩) 2 2], .slice (some ⟨bz, 0, none⟩) 2 2] W fun x w' => x = .returned (.bool true) ∧ Ext W w' := Meets_is (r := ⟨3, 2, 30, 1, plotL⟩) plotM1 hP hB
set_option maxRecDepth 100000 in
theorem mt2 {W : World} {pz bz : Nat} (hP : PiecesV W (.slice (some ⟨pz, 0, none⟩) 2 2) plotL) (hB : BitesV W (.slice (some ⟨bz, 0, none⟩) 2 2) [⟨0, 20⟩, ⟨1, 10⟩]) :
    Calls Try.prog 33 #[.agg #[.int .i64 3, .int .i64 2, .int .i64 30, .int .i64 3, .slice (some ⟨pz, 0, none⟩) 2 2], .slice (some ⟨bz, 0, none⟩) 2 2] W fun x w' => x = .returned (.bool false) ∧ Ext W w' := Meets_is (r := ⟨3, 2, 30, 3, plotL⟩) plotM2 hP hB
set_option maxRecDepth 100000 in
theorem mt3 {W : World} {pz bz : Nat} (hP : PiecesV W (.slice (some ⟨pz, 0, none⟩) 2 2) plotL) (hB : BitesV W (.slice (some ⟨bz, 0, none⟩) 2 2) [⟨0, 2⟩, ⟨1, 6⟩]) :
    Calls Try.prog 33 #[.agg #[.int .i64 3, .int .i64 2, .int .i64 30, .int .i64 4, .slice (some ⟨pz, 0, none⟩) 2 2], .slice (some ⟨bz, 0, none⟩) 2 2] W fun x w' => x = .returned (.bool true) ∧ Ext W w' := Meets_is (r := ⟨3, 2, 30, 4, plotL⟩) plotM3 hP hB
set_option maxRecDepth 100000 in
theorem mt4 {W : World} {pz bz : Nat} (hP : PiecesV W (.slice (some ⟨pz, 0, none⟩) 2 2) plotL) (hB : BitesV W (.slice (some ⟨bz, 0, none⟩) 2 2) [⟨0, 2⟩, ⟨1, 7⟩]) :
    Calls Try.prog 33 #[.agg #[.int .i64 3, .int .i64 2, .int .i64 30, .int .i64 4, .slice (some ⟨pz, 0, none⟩) 2 2], .slice (some ⟨bz, 0, none⟩) 2 2] W fun x w' => x = .returned (.bool false) ∧ Ext W w' := Meets_is (r := ⟨3, 2, 30, 4, plotL⟩) plotM4 hP hB
set_option maxRecDepth 100000 in
theorem mt5 {W : World} {pz bz : Nat} (hP : PiecesV W (.slice (some ⟨pz, 0, none⟩) 2 2) plotL) (hB : BitesV W (.slice (some ⟨bz, 0, none⟩) 1 1) [⟨1, 25⟩]) :
    Calls Try.prog 33 #[.agg #[.int .i64 3, .int .i64 2, .int .i64 30, .int .i64 2, .slice (some ⟨pz, 0, none⟩) 2 2], .slice (some ⟨bz, 0, none⟩) 1 1] W fun x w' => x = .returned (.bool true) ∧ Ext W w' := Meets_is (r := ⟨3, 2, 30, 2, plotL⟩) plotM5 hP hB
set_option maxRecDepth 100000 in
theorem mt6 {W : World} {pz bz : Nat} (hP : PiecesV W (.slice (some ⟨pz, 0, none⟩) 2 2) plotL) (hB : BitesV W (.slice (some ⟨bz, 0, none⟩) 1 1) [⟨1, 26⟩]) :
    Calls Try.prog 33 #[.agg #[.int .i64 3, .int .i64 2, .int .i64 30, .int .i64 2, .slice (some ⟨pz, 0, none⟩) 2 2], .slice (some ⟨bz, 0, none⟩) 1 1] W fun x w' => x = .returned (.bool false) ∧ Ext W w' := Meets_is (r := ⟨3, 2, 30, 2, plotL⟩) plotM6 hP hB

set_option maxRecDepth 100000 in
set_option maxHeartbeats 40000000 in
theorem reqBegun_true (w : World) : Calls Try.prog 30 #[] w fun e w' => e = .returned (.bool true) ∧ Ext w w' := by
  have I0 := hid (i64_small (n := 0) (by omega) (by omega))
  have I6 := hid (i64_small (n := 6) (by omega) (by omega))
  have I10 := hid (i64_small (n := 10) (by omega) (by omega))
  go_enter Try.func30, Try.ntmps30
  go_wp2_with fail
  refine (plot_any _ 1).mono ?_
  rintro e w1 ⟨pv, rfl, hp, hx1⟩
  have P := hp.mono ((Ext.rf w1).al (.cells #[.int .i64 0, .int .i64 20, .int .i64 1, .int .i64 10] 54))
  clear hp
  go_wp2_with fail
  refine (Over_is plotO P (bites_lit [⟨0, 20⟩, ⟨1, 10⟩] rfl rfl rfl (by decide) (by decide))).mono ?_
  rintro e w2 ⟨rfl, hx2⟩
  have h02 := hid (hx1.tr (((Ext.rf w1).al _).tr hx2))
  clear P hx1 hx2
  go_wp2_with fail
  refine (plot_any _ 1).mono ?_
  rintro e w3 ⟨pv, rfl, P, hx3⟩
  go_wp2_with fail
  refine (Over_is plotO0 P SV.nil).mono ?_
  rintro e w4 ⟨rfl, hx4⟩
  have h04 := hid (h02.out.tr (hx3.tr hx4))
  clear P hx3 hx4 h02
  go_wp2_with fail
  refine (plot_any _ 1).mono ?_
  rintro e w5 ⟨px, rfl, Px, hx5⟩
  have h05 := hid (h04.out.tr hx5)
  have HPx := hid Px
  clear Px hx5 h04
  go_wp2_with fail
  have hrow := heap_alloc_new w5 (.cells #[.int .i64 4, .int .i64 2, .int .i64 30, .int .i64 1, .slice (some ⟨px, 0, none⟩) 2 2] 46)
  have h56 := (Ext.rf w5).al (.cells #[.int .i64 4, .int .i64 2, .int .i64 30, .int .i64 1, .slice (some ⟨px, 0, none⟩) 2 2] 46)
  obtain ⟨w6, hw6⟩ : ∃ w6, w5.alloc (.cells #[.int .i64 4, .int .i64 2, .int .i64 30, .int .i64 1, .slice (some ⟨px, 0, none⟩) 2 2] 46) = w6 := ⟨_, rfl⟩
  rw [hw6] at hrow h56 ⊢
  obtain ⟨B5, hB5⟩ : ∃ B5, w5.heap.size = B5 := ⟨_, rfl⟩
  rw [hB5] at hrow ⊢
  have HRx := hid hrow
  have h06 := hid (h05.out.tr h56)
  have HPx6 := hid (HPx.out.mono h56)
  clear hw6 hB5 hrow h56 h05 HPx
  refine (plot_any _ 5).mono ?_
  rintro e w7 ⟨py, rfl, Py, hx7⟩
  have HPy := hid Py
  clear Py
  go_wp2_with fail
  have hrow := heap_alloc_new w7 (.cells #[.int .i64 3, .int .i64 2, .int .i64 30, .int .i64 5, .slice (some ⟨py, 0, none⟩) 2 2] 46)
  have h78 := (Ext.rf w7).al (.cells #[.int .i64 3, .int .i64 2, .int .i64 30, .int .i64 5, .slice (some ⟨py, 0, none⟩) 2 2] 46)
  obtain ⟨w8, hw8⟩ : ∃ w8, w7.alloc (.cells #[.int .i64 3, .int .i64 2, .int .i64 30, .int .i64 5, .slice (some ⟨py, 0, none⟩) 2 2] 46) = w8 := ⟨_, rfl⟩
  rw [hw8] at hrow h78 ⊢
  obtain ⟨B7, hB7⟩ : ∃ B7, w7.heap.size = B7 := ⟨_, rfl⟩
  rw [hB7] at hrow ⊢
  have HRy := hid hrow
  have HPy8 := hid (HPy.out.mono h78)
  have h68 := hid (hx7.tr h78)
  clear hw8 hB7 hrow h78 hx7 HPy
  have H8 := hid ((Ext.rf w8).dr)
  obtain ⟨a0, a1, a2, a3, a4⟩ := rowCells5 HRx.out h68.out
  obtain ⟨b0, b1, b2, b3, b4⟩ := rowCells5 HRy.out (Ext.rf w8)
  go_wp2_with fail
  -- THE REGION
  simp only [List.append_eq, List.cons_append, List.nil_append]
  refine wp_region_noPanic ?_
  refine wp_region_held (S := fun w' => Ext w8 w') (by kernel_rfl) ?_
  have HS := H8
  clear H8
  refine wpAnyH_ready (rs := [0]) (by kernel_rfl) (by simp) ?_
  refine AllReadyH.cons rfl (fun K hK => ?_) AllReadyH.nil
  go_simp
  refine (field_ex _).mono ?_
  rintro e W1 ⟨Bf, rfl, hf, hxk⟩
  refine hK.out _ _ (HS.out.tr hxk) (fun _ => ?_)
  clear hK K
  have HT := hid (HS.out.tr hxk)
  clear HS
  have HS := HT
  clear HT
  have HF := hid (fun (W : World) (h : Ext W1 W) => (hf.ext h).v I10.out I0.out I6.out)
  clear hf
  try simp only [Act.put, List.setIfInBounds_toArray, List.set_cons_zero, List.set_cons_succ, List.getElem_toArray, List.getElem_cons_succ, List.getElem_cons_zero]
  refine wpAnyH_ready (rs := [1]) (by kernel_rfl) (by simp) ?_
  refine AllReadyH.cons rfl (fun K hK => ?_) AllReadyH.nil
  go_simp
  refine (plot_any _ _).mono ?_
  rintro e W1 ⟨pz, rfl, P, hxk⟩
  refine hK.out _ _ (HS.out.tr hxk) (fun _ => ?_)
  clear hK K
  have HT := hid (HS.out.tr hxk)
  clear HS
  have HS := HT
  clear HT
  have HP := hid (fun (W : World) (h : Ext W1 W) => P.mono h)
  clear P
  try simp only [Act.put, List.setIfInBounds_toArray, List.set_cons_zero, List.set_cons_succ, List.getElem_toArray, List.getElem_cons_succ, List.getElem_cons_zero]
  refine wpAnyH_ready (rs := [2]) (by kernel_rfl) (by simp) ?_
  refine AllReadyH.cons rfl (fun K hK => ?_) AllReadyH.nil
  go_simp
  refine (chk1 (HF.out _ hxk) (HP.out _ (Ext.rf _))).mono ?_
  rintro e W1 ⟨rfl, hxk⟩
  refine hK.out _ _ (HS.out.tr hxk) (fun _ => ?_)
  clear hK K
  have HT := hid (HS.out.tr hxk)
  clear HS
  have HS := HT
  clear HT
  clear HF HP
  try clear hxk
  try simp only [Act.put, List.setIfInBounds_toArray, List.set_cons_zero, List.set_cons_succ, List.getElem_toArray, List.getElem_cons_succ, List.getElem_cons_zero]
  refine wpAnyH_take (i := 3) (oi := _) (v := ?_) rfl (by kernel_rfl) (by kernel_rfl) (by kernel_rfl) (fun _ _ _ h => h) (Or.inl ⟨by kernel_rfl, ?_⟩) HS.out ?_
  rotate_left
  · intro w hSw; go_simp; with_reducible rfl
  try simp only [Act.put, List.setIfInBounds_toArray, List.set_cons_zero, List.set_cons_succ, List.getElem_toArray, List.getElem_cons_succ, List.getElem_cons_zero]
  refine wpAnyH_take (i := 4) (oi := _) (v := ?_) rfl (by kernel_rfl) (by kernel_rfl) (by kernel_rfl) (fun _ _ _ h => h) (Or.inl ⟨by kernel_rfl, ?_⟩) HS.out ?_
  rotate_left
  · intro w hSw; go_simp; with_reducible rfl
  try simp only [Act.put, List.setIfInBounds_toArray, List.set_cons_zero, List.set_cons_succ, List.getElem_toArray, List.getElem_cons_succ, List.getElem_cons_zero]
  refine wpAnyH_take (i := 6) (oi := _) (v := ?_) rfl (by kernel_rfl) (by kernel_rfl) (by kernel_rfl) (fun _ _ _ h => h) (Or.inl ⟨by kernel_rfl, ?_⟩) HS.out ?_
  rotate_left
  · intro w hSw; have l0 := hSw.ce' a0; have l1 := hSw.ce' a1; have l2 := hSw.ce' a2; have l3 := hSw.ce' a3; have l4 := hSw.ce' a4; go_simp; with_reducible rfl
  try simp only [Act.put, List.setIfInBounds_toArray, List.set_cons_zero, List.set_cons_succ, List.getElem_toArray, List.getElem_cons_succ, List.getElem_cons_zero]
  refine wpAnyH_ready (rs := [5]) (by kernel_rfl) (by simp) ?_
  refine AllReadyH.cons rfl (fun K hK => ?_) AllReadyH.nil
  go_simp
  refine (field_ex _).mono ?_
  rintro e W1 ⟨Bf, rfl, hf, hxk⟩
  refine hK.out _ _ (HS.out.tr hxk) (fun _ => ?_)
  clear hK K
  have HT := hid (HS.out.tr hxk)
  clear HS
  have HS := HT
  clear HT
  have HF := hid (fun (W : World) (h : Ext W1 W) => (hf.ext h).v I10.out I0.out I6.out)
  clear hf
  try clear hxk
  try simp only [Act.put, List.setIfInBounds_toArray, List.set_cons_zero, List.set_cons_succ, List.getElem_toArray, List.getElem_cons_succ, List.getElem_cons_zero]
  refine wpAnyH_ready (rs := [7]) (by kernel_rfl) (by simp) ?_
  refine AllReadyH.cons rfl (fun K hK => ?_) AllReadyH.nil
  go_simp
  refine (chk2 (HF.out _ (Ext.rf _)) (HPx6.out.mono (h68.out.tr HS.out))).mono ?_
  rintro e W1 ⟨rfl, hxk⟩
  refine hK.out _ _ (HS.out.tr hxk) (fun _ => ?_)
  clear hK K
  have HT := hid (HS.out.tr hxk)
  clear HS
  have HS := HT
  clear HT
  clear HF
  try clear hxk
  try simp only [Act.put, List.setIfInBounds_toArray, List.set_cons_zero, List.set_cons_succ, List.getElem_toArray, List.getElem_cons_succ, List.getElem_cons_zero]
  refine wpAnyH_take (i := 8) (oi := _) (v := ?_) rfl (by kernel_rfl) (by kernel_rfl) (by kernel_rfl) (fun _ _ _ h => h) (Or.inl ⟨by kernel_rfl, ?_⟩) HS.out ?_
  rotate_left
  · intro w hSw; go_simp; with_reducible rfl
  try simp only [Act.put, List.setIfInBounds_toArray, List.set_cons_zero, List.set_cons_succ, List.getElem_toArray, List.getElem_cons_succ, List.getElem_cons_zero]
  refine wpAnyH_take (i := 9) (oi := _) (v := ?_) rfl (by kernel_rfl) (by kernel_rfl) (by kernel_rfl) (fun _ _ _ h => h) (Or.inl ⟨by kernel_rfl, ?_⟩) HS.out ?_
  rotate_left
  · intro w hSw; go_simp; with_reducible rfl
  try simp only [Act.put, List.setIfInBounds_toArray, List.set_cons_zero, List.set_cons_succ, List.getElem_toArray, List.getElem_cons_succ, List.getElem_cons_zero]
  refine wpAnyH_take (i := 10) (oi := _) (v := ?_) rfl (by kernel_rfl) (by kernel_rfl) (by kernel_rfl) (fun _ _ _ h => h) (Or.inl ⟨by kernel_rfl, ?_⟩) HS.out ?_
  rotate_left
  · intro w hSw; go_simp; with_reducible rfl
  try simp only [Act.put, List.setIfInBounds_toArray, List.set_cons_zero, List.set_cons_succ, List.getElem_toArray, List.getElem_cons_succ, List.getElem_cons_zero]
  refine wpAnyH_take (i := 12) (oi := _) (v := ?_) rfl (by kernel_rfl) (by kernel_rfl) (by kernel_rfl) (fun _ _ _ h => h) (Or.inl ⟨by kernel_rfl, ?_⟩) HS.out ?_
  rotate_left
  · intro w hSw; have l0 := hSw.ce' b0; have l1 := hSw.ce' b1; have l2 := hSw.ce' b2; have l3 := hSw.ce' b3; have l4 := hSw.ce' b4; go_simp; with_reducible rfl
  try simp only [Act.put, List.setIfInBounds_toArray, List.set_cons_zero, List.set_cons_succ, List.getElem_toArray, List.getElem_cons_succ, List.getElem_cons_zero]
  refine wpAnyH_ready (rs := [11]) (by kernel_rfl) (by simp) ?_
  refine AllReadyH.cons rfl (fun K hK => ?_) AllReadyH.nil
  go_simp
  refine (field_ex _).mono ?_
  rintro e W1 ⟨Bf, rfl, hf, hxk⟩
  refine hK.out _ _ (HS.out.tr hxk) (fun _ => ?_)
  clear hK K
  have HT := hid (HS.out.tr hxk)
  clear HS
  have HS := HT
  clear HT
  have HF := hid (fun (W : World) (h : Ext W1 W) => (hf.ext h).v I10.out I0.out I6.out)
  clear hf
  try clear hxk
  try simp only [Act.put, List.setIfInBounds_toArray, List.set_cons_zero, List.set_cons_succ, List.getElem_toArray, List.getElem_cons_succ, List.getElem_cons_zero]
  refine wpAnyH_ready (rs := [13]) (by kernel_rfl) (by simp) ?_
  refine AllReadyH.cons rfl (fun K hK => ?_) AllReadyH.nil
  go_simp
  refine (chk3 (HF.out _ (Ext.rf _)) (HPy8.out.mono HS.out)).mono ?_
  rintro e W1 ⟨rfl, hxk⟩
  refine hK.out _ _ (HS.out.tr hxk) (fun _ => ?_)
  clear hK K
  have HT := hid (HS.out.tr hxk)
  clear HS
  have HS := HT
  clear HT
  clear HF
  try clear hxk
  try simp only [Act.put, List.setIfInBounds_toArray, List.set_cons_zero, List.set_cons_succ, List.getElem_toArray, List.getElem_cons_succ, List.getElem_cons_zero]
  refine wpAnyH_take (i := 14) (oi := _) (v := ?_) rfl (by kernel_rfl) (by kernel_rfl) (by kernel_rfl) (fun _ _ _ h => h) (Or.inl ⟨by kernel_rfl, ?_⟩) HS.out ?_
  rotate_left
  · intro w hSw; go_simp; with_reducible rfl
  try simp only [Act.put, List.setIfInBounds_toArray, List.set_cons_zero, List.set_cons_succ, List.getElem_toArray, List.getElem_cons_succ, List.getElem_cons_zero]
  refine wpAnyH_take (i := 15) (oi := _) (v := ?_) rfl (by kernel_rfl) (by kernel_rfl) (by kernel_rfl) (fun _ _ _ h => h) (Or.inl ⟨by kernel_rfl, ?_⟩) HS.out ?_
  rotate_left
  · intro w hSw; go_simp; with_reducible rfl
  try simp only [Act.put, List.setIfInBounds_toArray, List.set_cons_zero, List.set_cons_succ, List.getElem_toArray, List.getElem_cons_succ, List.getElem_cons_zero]
  refine wpAnyH_take (i := 16) (oi := _) (v := ?_) rfl (by kernel_rfl) (by kernel_rfl) (by kernel_rfl) (fun _ _ _ h => h) (Or.inl ⟨by kernel_rfl, ?_⟩) HS.out ?_
  rotate_left
  · intro w hSw; go_simp; with_reducible rfl
  try simp only [Act.put, List.setIfInBounds_toArray, List.set_cons_zero, List.set_cons_succ, List.getElem_toArray, List.getElem_cons_succ, List.getElem_cons_zero]
  refine wpAnyH_take (i := 18) (oi := _) (v := ?_) rfl (by kernel_rfl) (by kernel_rfl) (by kernel_rfl) (fun _ _ _ h => h) (Or.inl ⟨by kernel_rfl, ?_⟩) HS.out ?_
  rotate_left
  · intro w hSw; go_simp; with_reducible rfl
  try simp only [Act.put, List.setIfInBounds_toArray, List.set_cons_zero, List.set_cons_succ, List.getElem_toArray, List.getElem_cons_succ, List.getElem_cons_zero]
  refine wpAnyH_take (i := 19) (oi := _) (v := ?_) rfl (by kernel_rfl) (by kernel_rfl) (by kernel_rfl) (fun _ _ _ h => h) (Or.inl ⟨by kernel_rfl, ?_⟩) HS.out ?_
  rotate_left
  · intro w hSw; go_simp; with_reducible rfl
  try simp only [Act.put, List.setIfInBounds_toArray, List.set_cons_zero, List.set_cons_succ, List.getElem_toArray, List.getElem_cons_succ, List.getElem_cons_zero]
  refine wpAnyH_pair (i := 17) (j := 20) (fun v W => ∃ pz : Nat, v = .agg #[.int .i64 3, .int .i64 2, .int .i64 30, .int .i64 1, .slice (some ⟨pz, 0, none⟩) 2 2] ∧ PiecesV W (.slice (some ⟨pz, 0, none⟩) 2 2) plotL) (fun v W => ∃ bz : Nat, v = .slice (some ⟨bz, 0, none⟩) 2 2 ∧ BitesV W (.slice (some ⟨bz, 0, none⟩) 2 2) [⟨0, 20⟩, ⟨1, 10⟩])
    rfl rfl (by kernel_rfl) (by kernel_rfl) (by kernel_rfl) (by rfl) (fun _ _ => by kernel_rfl) (by kernel_rfl) (by kernel_rfl) (fun _ => by kernel_rfl) (fun _ => by kernel_rfl) ?_ ?_ ?_ ?_ ?_
  · intro K hK
    simp only [Act.put, List.setIfInBounds_toArray, List.set_cons_zero, List.set_cons_succ, List.getElem_toArray, List.getElem_cons_succ, List.getElem_cons_zero] at hK ⊢
    go_simp
    refine (plot_any _ _).mono ?_
    rintro e W1 ⟨pz, rfl, P, hxk⟩
    exact hK.out _ _ ⟨pz, rfl, P⟩ (HS.out.tr hxk)
  · intro K hK
    simp only [Act.put, List.setIfInBounds_toArray, List.set_cons_zero, List.set_cons_succ, List.getElem_toArray, List.getElem_cons_succ, List.getElem_cons_zero] at hK ⊢
    go_simp
    exact hK.out _ _ ⟨_, rfl, bites_lit [⟨0, 20⟩, ⟨1, 10⟩] rfl rfl rfl (by decide) (by decide)⟩ (HS.out.al _)
  · rintro v W1 ⟨pz, rfl, P⟩ hS K hK
    simp only [Act.put, List.setIfInBounds_toArray, List.set_cons_zero, List.set_cons_succ, List.getElem_toArray, List.getElem_cons_succ, List.getElem_cons_zero] at hK ⊢
    go_simp
    exact hK.out _ _ ⟨_, rfl, bites_lit [⟨0, 20⟩, ⟨1, 10⟩] rfl rfl rfl (by decide) (by decide)⟩ ⟨pz, rfl, P.mono ((Ext.rf _).al _)⟩ (Ext.al hS _)
  · rintro v W1 ⟨bz, rfl, B⟩ hS K hK
    simp only [Act.put, List.setIfInBounds_toArray, List.set_cons_zero, List.set_cons_succ, List.getElem_toArray, List.getElem_cons_succ, List.getElem_cons_zero] at hK ⊢
    go_simp
    refine (plot_any _ _).mono ?_
    rintro e W2 ⟨pz, rfl, P, hxk⟩
    exact hK.out _ _ ⟨pz, rfl, P⟩ ⟨bz, rfl, B.mono hxk⟩ (Ext.tr hS hxk)
  rintro v u W1 ⟨pz, rfl, HP⟩ ⟨bz, rfl, HB⟩ hS
  clear HS
  have HS := hid hS
  clear hS
  have HP := hid HP
  have HB := hid HB
  try simp only [Act.put, List.setIfInBounds_toArray, List.set_cons_zero, List.set_cons_succ, List.getElem_toArray, List.getElem_cons_succ, List.getElem_cons_zero]
  refine wpAnyH_ready (rs := [21]) (by kernel_rfl) (by simp) ?_
  refine AllReadyH.cons rfl (fun K hK => ?_) AllReadyH.nil
  go_simp
  refine (mt1 HP.out HB.out).mono ?_
  rintro e W1 ⟨rfl, hxk⟩
  refine hK.out _ _ (HS.out.tr hxk) (fun _ => ?_)
  clear hK K
  have HT := hid (HS.out.tr hxk)
  clear HS
  have HS := HT
  clear HT
  clear HP HB
  try clear hxk
  try simp only [Act.put, List.setIfInBounds_toArray, List.set_cons_zero, List.set_cons_succ, List.getElem_toArray, List.getElem_cons_succ, List.getElem_cons_zero]
  refine wpAnyH_take (i := 22) (oi := _) (v := ?_) rfl (by kernel_rfl) (by kernel_rfl) (by kernel_rfl) (fun _ _ _ h => h) (Or.inl ⟨by kernel_rfl, ?_⟩) HS.out ?_
  rotate_left
  · intro w hSw; go_simp; with_reducible rfl
  try simp only [Act.put, List.setIfInBounds_toArray, List.set_cons_zero, List.set_cons_succ, List.getElem_toArray, List.getElem_cons_succ, List.getElem_cons_zero]
  refine wpAnyH_take (i := 23) (oi := _) (v := ?_) rfl (by kernel_rfl) (by kernel_rfl) (by kernel_rfl) (fun _ _ _ h => h) (Or.inl ⟨by kernel_rfl, ?_⟩) HS.out ?_
  rotate_left
  · intro w hSw; go_simp; with_reducible rfl
  try simp only [Act.put, List.setIfInBounds_toArray, List.set_cons_zero, List.set_cons_succ, List.getElem_toArray, List.getElem_cons_succ, List.getElem_cons_zero]
  refine wpAnyH_take (i := 25) (oi := _) (v := ?_) rfl (by kernel_rfl) (by kernel_rfl) (by kernel_rfl) (fun _ _ _ h => h) (Or.inl ⟨by kernel_rfl, ?_⟩) HS.out ?_
  rotate_left
  · intro w hSw; go_simp; with_reducible rfl
  try simp only [Act.put, List.setIfInBounds_toArray, List.set_cons_zero, List.set_cons_succ, List.getElem_toArray, List.getElem_cons_succ, List.getElem_cons_zero]
  refine wpAnyH_take (i := 26) (oi := _) (v := ?_) rfl (by kernel_rfl) (by kernel_rfl) (by kernel_rfl) (fun _ _ _ h => h) (Or.inl ⟨by kernel_rfl, ?_⟩) HS.out ?_
  rotate_left
  · intro w hSw; go_simp; with_reducible rfl
  try simp only [Act.put, List.setIfInBounds_toArray, List.set_cons_zero, List.set_cons_succ, List.getElem_toArray, List.getElem_cons_succ, List.getElem_cons_zero]
  refine wpAnyH_pair (i := 24) (j := 27) (fun v W => ∃ pz : Nat, v = .agg #[.int .i64 3, .int .i64 2, .int .i64 30, .int .i64 3, .slice (some ⟨pz, 0, none⟩) 2 2] ∧ PiecesV W (.slice (some ⟨pz, 0, none⟩) 2 2) plotL) (fun v W => ∃ bz : Nat, v = .slice (some ⟨bz, 0, none⟩) 2 2 ∧ BitesV W (.slice (some ⟨bz, 0, none⟩) 2 2) [⟨0, 20⟩, ⟨1, 10⟩])
    rfl rfl (by kernel_rfl) (by kernel_rfl) (by kernel_rfl) (by rfl) (fun _ _ => by kernel_rfl) (by kernel_rfl) (by kernel_rfl) (fun _ => by kernel_rfl) (fun _ => by kernel_rfl) ?_ ?_ ?_ ?_ ?_
  · intro K hK
    simp only [Act.put, List.setIfInBounds_toArray, List.set_cons_zero, List.set_cons_succ, List.getElem_toArray, List.getElem_cons_succ, List.getElem_cons_zero] at hK ⊢
    go_simp
    refine (plot_any _ _).mono ?_
    rintro e W1 ⟨pz, rfl, P, hxk⟩
    exact hK.out _ _ ⟨pz, rfl, P⟩ (HS.out.tr hxk)
  · intro K hK
    simp only [Act.put, List.setIfInBounds_toArray, List.set_cons_zero, List.set_cons_succ, List.getElem_toArray, List.getElem_cons_succ, List.getElem_cons_zero] at hK ⊢
    go_simp
    exact hK.out _ _ ⟨_, rfl, bites_lit [⟨0, 20⟩, ⟨1, 10⟩] rfl rfl rfl (by decide) (by decide)⟩ (HS.out.al _)
  · rintro v W1 ⟨pz, rfl, P⟩ hS K hK
    simp only [Act.put, List.setIfInBounds_toArray, List.set_cons_zero, List.set_cons_succ, List.getElem_toArray, List.getElem_cons_succ, List.getElem_cons_zero] at hK ⊢
    go_simp
    exact hK.out _ _ ⟨_, rfl, bites_lit [⟨0, 20⟩, ⟨1, 10⟩] rfl rfl rfl (by decide) (by decide)⟩ ⟨pz, rfl, P.mono ((Ext.rf _).al _)⟩ (Ext.al hS _)
  · rintro v W1 ⟨bz, rfl, B⟩ hS K hK
    simp only [Act.put, List.setIfInBounds_toArray, List.set_cons_zero, List.set_cons_succ, List.getElem_toArray, List.getElem_cons_succ, List.getElem_cons_zero] at hK ⊢
    go_simp
    refine (plot_any _ _).mono ?_
    rintro e W2 ⟨pz, rfl, P, hxk⟩
    exact hK.out _ _ ⟨pz, rfl, P⟩ ⟨bz, rfl, B.mono hxk⟩ (Ext.tr hS hxk)
  rintro v u W1 ⟨pz, rfl, HP⟩ ⟨bz, rfl, HB⟩ hS
  clear HS
  have HS := hid hS
  clear hS
  have HP := hid HP
  have HB := hid HB
  try simp only [Act.put, List.setIfInBounds_toArray, List.set_cons_zero, List.set_cons_succ, List.getElem_toArray, List.getElem_cons_succ, List.getElem_cons_zero]
  refine wpAnyH_ready (rs := [28]) (by kernel_rfl) (by simp) ?_
  refine AllReadyH.cons rfl (fun K hK => ?_) AllReadyH.nil
  go_simp
  refine (mt2 HP.out HB.out).mono ?_
  rintro e W1 ⟨rfl, hxk⟩
  refine hK.out _ _ (HS.out.tr hxk) (fun _ => ?_)
  clear hK K
  have HT := hid (HS.out.tr hxk)
  clear HS
  have HS := HT
  clear HT
  clear HP HB
  try clear hxk
  try simp only [Act.put, List.setIfInBounds_toArray, List.set_cons_zero, List.set_cons_succ, List.getElem_toArray, List.getElem_cons_succ, List.getElem_cons_zero]
  refine wpAnyH_take (i := 29) (oi := _) (v := ?_) rfl (by kernel_rfl) (by kernel_rfl) (by kernel_rfl) (fun _ _ _ h => h) (Or.inl ⟨by kernel_rfl, ?_⟩) HS.out ?_
  rotate_left
  · intro w hSw; go_simp; with_reducible rfl
  try simp only [Act.put, List.setIfInBounds_toArray, List.set_cons_zero, List.set_cons_succ, List.getElem_toArray, List.getElem_cons_succ, List.getElem_cons_zero]
  refine wpAnyH_take (i := 30) (oi := _) (v := ?_) rfl (by kernel_rfl) (by kernel_rfl) (by kernel_rfl) (fun _ _ _ h => h) (Or.inl ⟨by kernel_rfl, ?_⟩) HS.out ?_
  rotate_left
  · intro w hSw; go_simp; with_reducible rfl
  try simp only [Act.put, List.setIfInBounds_toArray, List.set_cons_zero, List.set_cons_succ, List.getElem_toArray, List.getElem_cons_succ, List.getElem_cons_zero]
  refine wpAnyH_take (i := 31) (oi := _) (v := ?_) rfl (by kernel_rfl) (by kernel_rfl) (by kernel_rfl) (fun _ _ _ h => h) (Or.inl ⟨by kernel_rfl, ?_⟩) HS.out ?_
  rotate_left
  · intro w hSw; go_simp; with_reducible rfl
  try simp only [Act.put, List.setIfInBounds_toArray, List.set_cons_zero, List.set_cons_succ, List.getElem_toArray, List.getElem_cons_succ, List.getElem_cons_zero]
  refine wpAnyH_take (i := 33) (oi := _) (v := ?_) rfl (by kernel_rfl) (by kernel_rfl) (by kernel_rfl) (fun _ _ _ h => h) (Or.inl ⟨by kernel_rfl, ?_⟩) HS.out ?_
  rotate_left
  · intro w hSw; go_simp; with_reducible rfl
  try simp only [Act.put, List.setIfInBounds_toArray, List.set_cons_zero, List.set_cons_succ, List.getElem_toArray, List.getElem_cons_succ, List.getElem_cons_zero]
  refine wpAnyH_take (i := 34) (oi := _) (v := ?_) rfl (by kernel_rfl) (by kernel_rfl) (by kernel_rfl) (fun _ _ _ h => h) (Or.inl ⟨by kernel_rfl, ?_⟩) HS.out ?_
  rotate_left
  · intro w hSw; go_simp; with_reducible rfl
  try simp only [Act.put, List.setIfInBounds_toArray, List.set_cons_zero, List.set_cons_succ, List.getElem_toArray, List.getElem_cons_succ, List.getElem_cons_zero]
  refine wpAnyH_pair (i := 32) (j := 35) (fun v W => ∃ pz : Nat, v = .agg #[.int .i64 3, .int .i64 2, .int .i64 30, .int .i64 4, .slice (some ⟨pz, 0, none⟩) 2 2] ∧ PiecesV W (.slice (some ⟨pz, 0, none⟩) 2 2) plotL) (fun v W => ∃ bz : Nat, v = .slice (some ⟨bz, 0, none⟩) 2 2 ∧ BitesV W (.slice (some ⟨bz, 0, none⟩) 2 2) [⟨0, 2⟩, ⟨1, 6⟩])
    rfl rfl (by kernel_rfl) (by kernel_rfl) (by kernel_rfl) (by rfl) (fun _ _ => by kernel_rfl) (by kernel_rfl) (by kernel_rfl) (fun _ => by kernel_rfl) (fun _ => by kernel_rfl) ?_ ?_ ?_ ?_ ?_
  · intro K hK
    simp only [Act.put, List.setIfInBounds_toArray, List.set_cons_zero, List.set_cons_succ, List.getElem_toArray, List.getElem_cons_succ, List.getElem_cons_zero] at hK ⊢
    go_simp
    refine (plot_any _ _).mono ?_
    rintro e W1 ⟨pz, rfl, P, hxk⟩
    exact hK.out _ _ ⟨pz, rfl, P⟩ (HS.out.tr hxk)
  · intro K hK
    simp only [Act.put, List.setIfInBounds_toArray, List.set_cons_zero, List.set_cons_succ, List.getElem_toArray, List.getElem_cons_succ, List.getElem_cons_zero] at hK ⊢
    go_simp
    exact hK.out _ _ ⟨_, rfl, bites_lit [⟨0, 2⟩, ⟨1, 6⟩] rfl rfl rfl (by decide) (by decide)⟩ (HS.out.al _)
  · rintro v W1 ⟨pz, rfl, P⟩ hS K hK
    simp only [Act.put, List.setIfInBounds_toArray, List.set_cons_zero, List.set_cons_succ, List.getElem_toArray, List.getElem_cons_succ, List.getElem_cons_zero] at hK ⊢
    go_simp
    exact hK.out _ _ ⟨_, rfl, bites_lit [⟨0, 2⟩, ⟨1, 6⟩] rfl rfl rfl (by decide) (by decide)⟩ ⟨pz, rfl, P.mono ((Ext.rf _).al _)⟩ (Ext.al hS _)
  · rintro v W1 ⟨bz, rfl, B⟩ hS K hK
    simp only [Act.put, List.setIfInBounds_toArray, List.set_cons_zero, List.set_cons_succ, List.getElem_toArray, List.getElem_cons_succ, List.getElem_cons_zero] at hK ⊢
    go_simp
    refine (plot_any _ _).mono ?_
    rintro e W2 ⟨pz, rfl, P, hxk⟩
    exact hK.out _ _ ⟨pz, rfl, P⟩ ⟨bz, rfl, B.mono hxk⟩ (Ext.tr hS hxk)
  rintro v u W1 ⟨pz, rfl, HP⟩ ⟨bz, rfl, HB⟩ hS
  clear HS
  have HS := hid hS
  clear hS
  have HP := hid HP
  have HB := hid HB
  try simp only [Act.put, List.setIfInBounds_toArray, List.set_cons_zero, List.set_cons_succ, List.getElem_toArray, List.getElem_cons_succ, List.getElem_cons_zero]
  refine wpAnyH_ready (rs := [36]) (by kernel_rfl) (by simp) ?_
  refine AllReadyH.cons rfl (fun K hK => ?_) AllReadyH.nil
  go_simp
  refine (mt3 HP.out HB.out).mono ?_
  rintro e W1 ⟨rfl, hxk⟩
  refine hK.out _ _ (HS.out.tr hxk) (fun _ => ?_)
  clear hK K
  have HT := hid (HS.out.tr hxk)
  clear HS
  have HS := HT
  clear HT
  clear HP HB
  try clear hxk
  try simp only [Act.put, List.setIfInBounds_toArray, List.set_cons_zero, List.set_cons_succ, List.getElem_toArray, List.getElem_cons_succ, List.getElem_cons_zero]
  refine wpAnyH_take (i := 37) (oi := _) (v := ?_) rfl (by kernel_rfl) (by kernel_rfl) (by kernel_rfl) (fun _ _ _ h => h) (Or.inl ⟨by kernel_rfl, ?_⟩) HS.out ?_
  rotate_left
  · intro w hSw; go_simp; with_reducible rfl
  try simp only [Act.put, List.setIfInBounds_toArray, List.set_cons_zero, List.set_cons_succ, List.getElem_toArray, List.getElem_cons_succ, List.getElem_cons_zero]
  refine wpAnyH_take (i := 38) (oi := _) (v := ?_) rfl (by kernel_rfl) (by kernel_rfl) (by kernel_rfl) (fun _ _ _ h => h) (Or.inl ⟨by kernel_rfl, ?_⟩) HS.out ?_
  rotate_left
  · intro w hSw; go_simp; with_reducible rfl
  try simp only [Act.put, List.setIfInBounds_toArray, List.set_cons_zero, List.set_cons_succ, List.getElem_toArray, List.getElem_cons_succ, List.getElem_cons_zero]
  refine wpAnyH_take (i := 40) (oi := _) (v := ?_) rfl (by kernel_rfl) (by kernel_rfl) (by kernel_rfl) (fun _ _ _ h => h) (Or.inl ⟨by kernel_rfl, ?_⟩) HS.out ?_
  rotate_left
  · intro w hSw; go_simp; with_reducible rfl
  try simp only [Act.put, List.setIfInBounds_toArray, List.set_cons_zero, List.set_cons_succ, List.getElem_toArray, List.getElem_cons_succ, List.getElem_cons_zero]
  refine wpAnyH_take (i := 41) (oi := _) (v := ?_) rfl (by kernel_rfl) (by kernel_rfl) (by kernel_rfl) (fun _ _ _ h => h) (Or.inl ⟨by kernel_rfl, ?_⟩) HS.out ?_
  rotate_left
  · intro w hSw; go_simp; with_reducible rfl
  try simp only [Act.put, List.setIfInBounds_toArray, List.set_cons_zero, List.set_cons_succ, List.getElem_toArray, List.getElem_cons_succ, List.getElem_cons_zero]
  refine wpAnyH_pair (i := 39) (j := 42) (fun v W => ∃ pz : Nat, v = .agg #[.int .i64 3, .int .i64 2, .int .i64 30, .int .i64 4, .slice (some ⟨pz, 0, none⟩) 2 2] ∧ PiecesV W (.slice (some ⟨pz, 0, none⟩) 2 2) plotL) (fun v W => ∃ bz : Nat, v = .slice (some ⟨bz, 0, none⟩) 2 2 ∧ BitesV W (.slice (some ⟨bz, 0, none⟩) 2 2) [⟨0, 2⟩, ⟨1, 7⟩])
    rfl rfl (by kernel_rfl) (by kernel_rfl) (by kernel_rfl) (by rfl) (fun _ _ => by kernel_rfl) (by kernel_rfl) (by kernel_rfl) (fun _ => by kernel_rfl) (fun _ => by kernel_rfl) ?_ ?_ ?_ ?_ ?_
  · intro K hK
    simp only [Act.put, List.setIfInBounds_toArray, List.set_cons_zero, List.set_cons_succ, List.getElem_toArray, List.getElem_cons_succ, List.getElem_cons_zero] at hK ⊢
    go_simp
    refine (plot_any _ _).mono ?_
    rintro e W1 ⟨pz, rfl, P, hxk⟩
    exact hK.out _ _ ⟨pz, rfl, P⟩ (HS.out.tr hxk)
  · intro K hK
    simp only [Act.put, List.setIfInBounds_toArray, List.set_cons_zero, List.set_cons_succ, List.getElem_toArray, List.getElem_cons_succ, List.getElem_cons_zero] at hK ⊢
    go_simp
    exact hK.out _ _ ⟨_, rfl, bites_lit [⟨0, 2⟩, ⟨1, 7⟩] rfl rfl rfl (by decide) (by decide)⟩ (HS.out.al _)
  · rintro v W1 ⟨pz, rfl, P⟩ hS K hK
    simp only [Act.put, List.setIfInBounds_toArray, List.set_cons_zero, List.set_cons_succ, List.getElem_toArray, List.getElem_cons_succ, List.getElem_cons_zero] at hK ⊢
    go_simp
    exact hK.out _ _ ⟨_, rfl, bites_lit [⟨0, 2⟩, ⟨1, 7⟩] rfl rfl rfl (by decide) (by decide)⟩ ⟨pz, rfl, P.mono ((Ext.rf _).al _)⟩ (Ext.al hS _)
  · rintro v W1 ⟨bz, rfl, B⟩ hS K hK
    simp only [Act.put, List.setIfInBounds_toArray, List.set_cons_zero, List.set_cons_succ, List.getElem_toArray, List.getElem_cons_succ, List.getElem_cons_zero] at hK ⊢
    go_simp
    refine (plot_any _ _).mono ?_
    rintro e W2 ⟨pz, rfl, P, hxk⟩
    exact hK.out _ _ ⟨pz, rfl, P⟩ ⟨bz, rfl, B.mono hxk⟩ (Ext.tr hS hxk)
  rintro v u W1 ⟨pz, rfl, HP⟩ ⟨bz, rfl, HB⟩ hS
  clear HS
  have HS := hid hS
  clear hS
  have HP := hid HP
  have HB := hid HB
  try simp only [Act.put, List.setIfInBounds_toArray, List.set_cons_zero, List.set_cons_succ, List.getElem_toArray, List.getElem_cons_succ, List.getElem_cons_zero]
  refine wpAnyH_ready (rs := [43]) (by kernel_rfl) (by simp) ?_
  refine AllReadyH.cons rfl (fun K hK => ?_) AllReadyH.nil
  go_simp
  refine (mt4 HP.out HB.out).mono ?_
  rintro e W1 ⟨rfl, hxk⟩
  refine hK.out _ _ (HS.out.tr hxk) (fun _ => ?_)
  clear hK K
  have HT := hid (HS.out.tr hxk)
  clear HS
  have HS := HT
  clear HT
  clear HP HB
  try clear hxk
  try simp only [Act.put, List.setIfInBounds_toArray, List.set_cons_zero, List.set_cons_succ, List.getElem_toArray, List.getElem_cons_succ, List.getElem_cons_zero]
  refine wpAnyH_take (i := 44) (oi := _) (v := ?_) rfl (by kernel_rfl) (by kernel_rfl) (by kernel_rfl) (fun _ _ _ h => h) (Or.inl ⟨by kernel_rfl, ?_⟩) HS.out ?_
  rotate_left
  · intro w hSw; go_simp; with_reducible rfl
  try simp only [Act.put, List.setIfInBounds_toArray, List.set_cons_zero, List.set_cons_succ, List.getElem_toArray, List.getElem_cons_succ, List.getElem_cons_zero]
  refine wpAnyH_take (i := 45) (oi := _) (v := ?_) rfl (by kernel_rfl) (by kernel_rfl) (by kernel_rfl) (fun _ _ _ h => h) (Or.inl ⟨by kernel_rfl, ?_⟩) HS.out ?_
  rotate_left
  · intro w hSw; go_simp; with_reducible rfl
  try simp only [Act.put, List.setIfInBounds_toArray, List.set_cons_zero, List.set_cons_succ, List.getElem_toArray, List.getElem_cons_succ, List.getElem_cons_zero]
  refine wpAnyH_take (i := 46) (oi := _) (v := ?_) rfl (by kernel_rfl) (by kernel_rfl) (by kernel_rfl) (fun _ _ _ h => h) (Or.inl ⟨by kernel_rfl, ?_⟩) HS.out ?_
  rotate_left
  · intro w hSw; go_simp; with_reducible rfl
  try simp only [Act.put, List.setIfInBounds_toArray, List.set_cons_zero, List.set_cons_succ, List.getElem_toArray, List.getElem_cons_succ, List.getElem_cons_zero]
  refine wpAnyH_take (i := 48) (oi := _) (v := ?_) rfl (by kernel_rfl) (by kernel_rfl) (by kernel_rfl) (fun _ _ _ h => h) (Or.inl ⟨by kernel_rfl, ?_⟩) HS.out ?_
  rotate_left
  · intro w hSw; go_simp; with_reducible rfl
  try simp only [Act.put, List.setIfInBounds_toArray, List.set_cons_zero, List.set_cons_succ, List.getElem_toArray, List.getElem_cons_succ, List.getElem_cons_zero]
  refine wpAnyH_pair (i := 47) (j := 49) (fun v W => ∃ pz : Nat, v = .agg #[.int .i64 3, .int .i64 2, .int .i64 30, .int .i64 2, .slice (some ⟨pz, 0, none⟩) 2 2] ∧ PiecesV W (.slice (some ⟨pz, 0, none⟩) 2 2) plotL) (fun v W => ∃ bz : Nat, v = .slice (some ⟨bz, 0, none⟩) 1 1 ∧ BitesV W (.slice (some ⟨bz, 0, none⟩) 1 1) [⟨1, 25⟩])
    rfl rfl (by kernel_rfl) (by kernel_rfl) (by kernel_rfl) (by rfl) (fun _ _ => by kernel_rfl) (by kernel_rfl) (by kernel_rfl) (fun _ => by kernel_rfl) (fun _ => by kernel_rfl) ?_ ?_ ?_ ?_ ?_
  · intro K hK
    simp only [Act.put, List.setIfInBounds_toArray, List.set_cons_zero, List.set_cons_succ, List.getElem_toArray, List.getElem_cons_succ, List.getElem_cons_zero] at hK ⊢
    go_simp
    refine (plot_any _ _).mono ?_
    rintro e W1 ⟨pz, rfl, P, hxk⟩
    exact hK.out _ _ ⟨pz, rfl, P⟩ (HS.out.tr hxk)
  · intro K hK
    simp only [Act.put, List.setIfInBounds_toArray, List.set_cons_zero, List.set_cons_succ, List.getElem_toArray, List.getElem_cons_succ, List.getElem_cons_zero] at hK ⊢
    go_simp
    exact hK.out _ _ ⟨_, rfl, bites_lit [⟨1, 25⟩] rfl rfl rfl (by decide) (by decide)⟩ (HS.out.al _)
  · rintro v W1 ⟨pz, rfl, P⟩ hS K hK
    simp only [Act.put, List.setIfInBounds_toArray, List.set_cons_zero, List.set_cons_succ, List.getElem_toArray, List.getElem_cons_succ, List.getElem_cons_zero] at hK ⊢
    go_simp
    exact hK.out _ _ ⟨_, rfl, bites_lit [⟨1, 25⟩] rfl rfl rfl (by decide) (by decide)⟩ ⟨pz, rfl, P.mono ((Ext.rf _).al _)⟩ (Ext.al hS _)
  · rintro v W1 ⟨bz, rfl, B⟩ hS K hK
    simp only [Act.put, List.setIfInBounds_toArray, List.set_cons_zero, List.set_cons_succ, List.getElem_toArray, List.getElem_cons_succ, List.getElem_cons_zero] at hK ⊢
    go_simp
    refine (plot_any _ _).mono ?_
    rintro e W2 ⟨pz, rfl, P, hxk⟩
    exact hK.out _ _ ⟨pz, rfl, P⟩ ⟨bz, rfl, B.mono hxk⟩ (Ext.tr hS hxk)
  rintro v u W1 ⟨pz, rfl, HP⟩ ⟨bz, rfl, HB⟩ hS
  clear HS
  have HS := hid hS
  clear hS
  have HP := hid HP
  have HB := hid HB
  try simp only [Act.put, List.setIfInBounds_toArray, List.set_cons_zero, List.set_cons_succ, List.getElem_toArray, List.getElem_cons_succ, List.getElem_cons_zero]
  refine wpAnyH_ready (rs := [50]) (by kernel_rfl) (by simp) ?_
  refine AllReadyH.cons rfl (fun K hK => ?_) AllReadyH.nil
  go_simp
  refine (mt5 HP.out HB.out).mono ?_
  rintro e W1 ⟨rfl, hxk⟩
  refine hK.out _ _ (HS.out.tr hxk) (fun _ => ?_)
  clear hK K
  have HT := hid (HS.out.tr hxk)
  clear HS
  have HS := HT
  clear HT
  clear HP HB
  try clear hxk
  try simp only [Act.put, List.setIfInBounds_toArray, List.set_cons_zero, List.set_cons_succ, List.getElem_toArray, List.getElem_cons_succ, List.getElem_cons_zero]
  refine wpAnyH_take (i := 51) (oi := _) (v := ?_) rfl (by kernel_rfl) (by kernel_rfl) (by kernel_rfl) (fun _ _ _ h => h) (Or.inl ⟨by kernel_rfl, ?_⟩) HS.out ?_
  rotate_left
  · intro w hSw; go_simp; with_reducible rfl
  try simp only [Act.put, List.setIfInBounds_toArray, List.set_cons_zero, List.set_cons_succ, List.getElem_toArray, List.getElem_cons_succ, List.getElem_cons_zero]
  refine wpAnyH_take (i := 52) (oi := _) (v := ?_) rfl (by kernel_rfl) (by kernel_rfl) (by kernel_rfl) (fun _ _ _ h => h) (Or.inl ⟨by kernel_rfl, ?_⟩) HS.out ?_
  rotate_left
  · intro w hSw; go_simp; with_reducible rfl
  try simp only [Act.put, List.setIfInBounds_toArray, List.set_cons_zero, List.set_cons_succ, List.getElem_toArray, List.getElem_cons_succ, List.getElem_cons_zero]
  refine wpAnyH_take (i := 54) (oi := _) (v := ?_) rfl (by kernel_rfl) (by kernel_rfl) (by kernel_rfl) (fun _ _ _ h => h) (Or.inl ⟨by kernel_rfl, ?_⟩) HS.out ?_
  rotate_left
  · intro w hSw; go_simp; with_reducible rfl
  try simp only [Act.put, List.setIfInBounds_toArray, List.set_cons_zero, List.set_cons_succ, List.getElem_toArray, List.getElem_cons_succ, List.getElem_cons_zero]
  refine wpAnyH_pair (i := 53) (j := 55) (fun v W => ∃ pz : Nat, v = .agg #[.int .i64 3, .int .i64 2, .int .i64 30, .int .i64 2, .slice (some ⟨pz, 0, none⟩) 2 2] ∧ PiecesV W (.slice (some ⟨pz, 0, none⟩) 2 2) plotL) (fun v W => ∃ bz : Nat, v = .slice (some ⟨bz, 0, none⟩) 1 1 ∧ BitesV W (.slice (some ⟨bz, 0, none⟩) 1 1) [⟨1, 26⟩])
    rfl rfl (by kernel_rfl) (by kernel_rfl) (by kernel_rfl) (by rfl) (fun _ _ => by kernel_rfl) (by kernel_rfl) (by kernel_rfl) (fun _ => by kernel_rfl) (fun _ => by kernel_rfl) ?_ ?_ ?_ ?_ ?_
  · intro K hK
    simp only [Act.put, List.setIfInBounds_toArray, List.set_cons_zero, List.set_cons_succ, List.getElem_toArray, List.getElem_cons_succ, List.getElem_cons_zero] at hK ⊢
    go_simp
    refine (plot_any _ _).mono ?_
    rintro e W1 ⟨pz, rfl, P, hxk⟩
    exact hK.out _ _ ⟨pz, rfl, P⟩ (HS.out.tr hxk)
  · intro K hK
    simp only [Act.put, List.setIfInBounds_toArray, List.set_cons_zero, List.set_cons_succ, List.getElem_toArray, List.getElem_cons_succ, List.getElem_cons_zero] at hK ⊢
    go_simp
    exact hK.out _ _ ⟨_, rfl, bites_lit [⟨1, 26⟩] rfl rfl rfl (by decide) (by decide)⟩ (HS.out.al _)
  · rintro v W1 ⟨pz, rfl, P⟩ hS K hK
    simp only [Act.put, List.setIfInBounds_toArray, List.set_cons_zero, List.set_cons_succ, List.getElem_toArray, List.getElem_cons_succ, List.getElem_cons_zero] at hK ⊢
    go_simp
    exact hK.out _ _ ⟨_, rfl, bites_lit [⟨1, 26⟩] rfl rfl rfl (by decide) (by decide)⟩ ⟨pz, rfl, P.mono ((Ext.rf _).al _)⟩ (Ext.al hS _)
  · rintro v W1 ⟨bz, rfl, B⟩ hS K hK
    simp only [Act.put, List.setIfInBounds_toArray, List.set_cons_zero, List.set_cons_succ, List.getElem_toArray, List.getElem_cons_succ, List.getElem_cons_zero] at hK ⊢
    go_simp
    refine (plot_any _ _).mono ?_
    rintro e W2 ⟨pz, rfl, P, hxk⟩
    exact hK.out _ _ ⟨pz, rfl, P⟩ ⟨bz, rfl, B.mono hxk⟩ (Ext.tr hS hxk)
  rintro v u W1 ⟨pz, rfl, HP⟩ ⟨bz, rfl, HB⟩ hS
  clear HS
  have HS := hid hS
  clear hS
  have HP := hid HP
  have HB := hid HB
  try simp only [Act.put, List.setIfInBounds_toArray, List.set_cons_zero, List.set_cons_succ, List.getElem_toArray, List.getElem_cons_succ, List.getElem_cons_zero]
  refine wpAnyH_ready (rs := [56]) (by kernel_rfl) (by simp) ?_
  refine AllReadyH.cons rfl (fun K hK => ?_) AllReadyH.nil
  go_simp
  refine (mt6 HP.out HB.out).mono ?_
  rintro e W1 ⟨rfl, hxk⟩
  refine hK.out _ _ (HS.out.tr hxk) (fun _ => ?_)
  clear hK K
  have HT := hid (HS.out.tr hxk)
  clear HS
  have HS := HT
  clear HT
  clear HP HB
  try clear hxk
  try simp only [Act.put, List.setIfInBounds_toArray, List.set_cons_zero, List.set_cons_succ, List.getElem_toArray, List.getElem_cons_succ, List.getElem_cons_zero]
  refine wpAnyH_take (i := 57) (oi := _) (v := ?_) rfl (by kernel_rfl) (by kernel_rfl) (by kernel_rfl) (fun _ _ _ h => h) (Or.inl ⟨by kernel_rfl, ?_⟩) HS.out ?_
  rotate_left
  · intro w hSw; go_simp; with_reducible rfl
  try simp only [Act.put, List.setIfInBounds_toArray, List.set_cons_zero, List.set_cons_succ, List.getElem_toArray, List.getElem_cons_succ, List.getElem_cons_zero]
  refine wpAnyH_take (i := 58) (oi := _) (v := ?_) rfl (by kernel_rfl) (by kernel_rfl) (by kernel_rfl) (fun _ _ _ h => h) (Or.inl ⟨by kernel_rfl, ?_⟩) HS.out ?_
  rotate_left
  · intro w hSw; go_simp; with_reducible rfl
  try simp only [Act.put, List.setIfInBounds_toArray, List.set_cons_zero, List.set_cons_succ, List.getElem_toArray, List.getElem_cons_succ, List.getElem_cons_zero]
  refine wpAnyH_take (i := 59) (oi := _) (v := ?_) rfl (by kernel_rfl) (by kernel_rfl) (by kernel_rfl) (fun _ _ _ h => h) (Or.inl ⟨by kernel_rfl, ?_⟩) HS.out ?_
  rotate_left
  · intro w hSw; go_simp; with_reducible rfl
  try simp only [Act.put, List.setIfInBounds_toArray, List.set_cons_zero, List.set_cons_succ, List.getElem_toArray, List.getElem_cons_succ, List.getElem_cons_zero]
  refine wpAnyH_take (i := 60) (oi := _) (v := ?_) rfl (by kernel_rfl) (by kernel_rfl) (by kernel_rfl) (fun _ _ _ h => h) (Or.inl ⟨by kernel_rfl, ?_⟩) HS.out ?_
  rotate_left
  · intro w hSw; go_simp; with_reducible rfl
  try simp only [Act.put, List.setIfInBounds_toArray, List.set_cons_zero, List.set_cons_succ, List.getElem_toArray, List.getElem_cons_succ, List.getElem_cons_zero]
  refine wpAnyH_take (i := 61) (oi := _) (v := ?_) rfl (by kernel_rfl) (by kernel_rfl) (by kernel_rfl) (fun _ _ _ h => h) (Or.inl ⟨by kernel_rfl, ?_⟩) HS.out ?_
  rotate_left
  · intro w hSw; go_simp; with_reducible rfl
  try simp only [Act.put, List.setIfInBounds_toArray, List.set_cons_zero, List.set_cons_succ, List.getElem_toArray, List.getElem_cons_succ, List.getElem_cons_zero]
  refine wpAnyH_take (i := 62) (oi := _) (v := ?_) rfl (by kernel_rfl) (by kernel_rfl) (by kernel_rfl) (fun _ _ _ h => h) (Or.inl ⟨by kernel_rfl, ?_⟩) HS.out ?_
  rotate_left
  · intro w hSw; go_simp; with_reducible rfl
  try simp only [Act.put, List.setIfInBounds_toArray, List.set_cons_zero, List.set_cons_succ, List.getElem_toArray, List.getElem_cons_succ, List.getElem_cons_zero]
  refine wpAnyH_take (i := 63) (oi := _) (v := ?_) rfl (by kernel_rfl) (by kernel_rfl) (by kernel_rfl) (fun _ _ _ h => h) (Or.inl ⟨by kernel_rfl, ?_⟩) HS.out ?_
  rotate_left
  · intro w hSw; go_simp; with_reducible rfl
  try simp only [Act.put, List.setIfInBounds_toArray, List.set_cons_zero, List.set_cons_succ, List.getElem_toArray, List.getElem_cons_succ, List.getElem_cons_zero]
  refine wpAnyH_take (i := 64) (oi := _) (v := ?_) rfl (by kernel_rfl) (by kernel_rfl) (by kernel_rfl) (fun _ _ _ h => h) (Or.inl ⟨by kernel_rfl, ?_⟩) HS.out ?_
  rotate_left
  · intro w hSw; go_simp; with_reducible rfl
  try simp only [Act.put, List.setIfInBounds_toArray, List.set_cons_zero, List.set_cons_succ, List.getElem_toArray, List.getElem_cons_succ, List.getElem_cons_zero]
  refine wpAnyH_take (i := 65) (oi := _) (v := ?_) rfl (by kernel_rfl) (by kernel_rfl) (by kernel_rfl) (fun _ _ _ h => h) (Or.inl ⟨by kernel_rfl, ?_⟩) HS.out ?_
  rotate_left
  · intro w hSw; go_simp; with_reducible rfl
  try simp only [Act.put, List.setIfInBounds_toArray, List.set_cons_zero, List.set_cons_succ, List.getElem_toArray, List.getElem_cons_succ, List.getElem_cons_zero]
  refine wpAnyH_take (i := 66) (oi := _) (v := ?_) rfl (by kernel_rfl) (by kernel_rfl) (by kernel_rfl) (fun _ _ _ h => h) (Or.inl ⟨by kernel_rfl, ?_⟩) HS.out ?_
  rotate_left
  · intro w hSw; go_simp; with_reducible rfl
  try simp only [Act.put, List.setIfInBounds_toArray, List.set_cons_zero, List.set_cons_succ, List.getElem_toArray, List.getElem_cons_succ, List.getElem_cons_zero]
  refine wpAnyH_take (i := 67) (oi := _) (v := ?_) rfl (by kernel_rfl) (by kernel_rfl) (by kernel_rfl) (fun _ _ _ h => h) (Or.inl ⟨by kernel_rfl, ?_⟩) HS.out ?_
  rotate_left
  · intro w hSw; go_simp; with_reducible rfl
  try simp only [Act.put, List.setIfInBounds_toArray, List.set_cons_zero, List.set_cons_succ, List.getElem_toArray, List.getElem_cons_succ, List.getElem_cons_zero]
  refine wpAnyH_take (i := 68) (oi := _) (v := ?_) rfl (by kernel_rfl) (by kernel_rfl) (by kernel_rfl) (fun _ _ _ h => h) (Or.inl ⟨by kernel_rfl, ?_⟩) HS.out ?_
  rotate_left
  · intro w hSw; go_simp; with_reducible rfl
  try simp only [Act.put, List.setIfInBounds_toArray, List.set_cons_zero, List.set_cons_succ, List.getElem_toArray, List.getElem_cons_succ, List.getElem_cons_zero]
  refine wpAnyH_take (i := 69) (oi := _) (v := ?_) rfl (by kernel_rfl) (by kernel_rfl) (by kernel_rfl) (fun _ _ _ h => h) (Or.inl ⟨by kernel_rfl, ?_⟩) HS.out ?_
  rotate_left
  · intro w hSw; go_simp; with_reducible rfl
  try simp only [Act.put, List.setIfInBounds_toArray, List.set_cons_zero, List.set_cons_succ, List.getElem_toArray, List.getElem_cons_succ, List.getElem_cons_zero]
  refine wpAnyH_take (i := 70) (oi := _) (v := ?_) rfl (by kernel_rfl) (by kernel_rfl) (by kernel_rfl) (fun _ _ _ h => h) (Or.inl ⟨by kernel_rfl, ?_⟩) HS.out ?_
  rotate_left
  · intro w hSw; go_simp; with_reducible rfl
  try simp only [Act.put, List.setIfInBounds_toArray, List.set_cons_zero, List.set_cons_succ, List.getElem_toArray, List.getElem_cons_succ, List.getElem_cons_zero]
  refine wpAnyH_take (i := 71) (oi := _) (v := ?_) rfl (by kernel_rfl) (by kernel_rfl) (by kernel_rfl) (fun _ _ _ h => h) (Or.inl ⟨by kernel_rfl, ?_⟩) HS.out ?_
  rotate_left
  · intro w hSw; go_simp; with_reducible rfl
  try simp only [Act.put, List.setIfInBounds_toArray, List.set_cons_zero, List.getElem_toArray, List.getElem_cons_succ, List.getElem_cons_zero]
  refine wpAnyH_done (by kernel_rfl) ?_ _
  have H88 := HS.out
  have hfin := hid (h06.out.tr (h68.out.tr H88))
  clear H88
  refine NoPanic.normal ?_
  go_wp2_with fail
  go_ret
  exact ⟨rfl, hfin.out⟩

end Go.Proofs.Ytchblkemofncoaa
