/- The laws on requests: plot; reqBegun is true. -/
import Derived.Test.YtfbcmifclaaacaaReqG
import Derived.Test.YtfbcmifclaaacaaReqE
import Derived.Test.YtfbcmifclaaacaaField
import Derived.Test.YtfbcmifclaaacaaLit
import Derived.Test.YtfbcmifclaaacaaPlot
import Derived.WalkSpells
import Derived.StillTactics
import Derived.Tactics2
import Derived.Deep.RegionHeld3
set_option linter.unusedVariables false
namespace Go.Proofs.Ytfbcmifclaaacaa
open Go.RowKit

instance (r : Request) (b : List Bite) (k : Nat) : Decidable (BiteIn r b k) :=
  decidable_of_iff ((0 ≤ bP b k ∧ bP b k < r.Pieces.length) ∧ 0 ≤ bA b k ∧ bA b k ≤ 48) ⟨fun h => ⟨h.1.1, h.1.2, h.2.1, h.2.2⟩, fun h => ⟨⟨h.low, h.is⟩, h.at0, h.at48⟩⟩
instance (r : Request) (b : List Bite) (k : Nat) : Decidable (StepOk r b k) :=
  decidable_of_iff ((lastP b k < bP b k ∧ bP b k < r.Pieces.length) ∧ (r.From ≤ bA b k ∧ bA b k ≤ r.Until) ∧ pL r (bP b k).toNat ≤ r.Until - bA b k ∧ (0 < k → r.Kind = 3 → endA r b k ≤ bA b k) ∧ (0 < k → r.Kind = 4 → bA b k = endA r b k))
    ⟨fun h => ⟨h.1.1, h.1.2, h.2.1.1, h.2.1.2, h.2.2.1, h.2.2.2.1, h.2.2.2.2⟩, fun h => ⟨⟨h.up, h.is⟩, ⟨h.from_, h.until_⟩, h.fits, h.order, h.tight⟩⟩
theorem meetsR_dec (r : Request) (b : List Bite) : meetsR r b = decide (ReqOk r ∧ (∀ k, k < b.length → StepOk r b k) ∧ CountOk r b) := by
  by_cases h : ReqOk r ∧ (∀ k, k < b.length → StepOk r b k) ∧ CountOk r b
  · rw [decide_eq_true h]; exact meetsR_iff.2 h
  · rw [decide_eq_false h]; exact meetsR_no h

theorem Over_is {w : World} {pv bv : Value} {r : Request} {b : List Bite} {n e : Int} (h : overR r b = (n, e)) (hv : PiecesV w pv r.Pieces) (hb : BitesV w bv b) :
    Calls Try.prog 14 #[.agg #[.int .i64 r.Queue, .int .i64 r.From, .int .i64 r.Until, .int .i64 r.Kind, pv], bv] w fun x w' => x = .returned (.tuple #[.int .i64 n, .int .i64 e]) ∧ Ext w w' := by
  have := Over_any w pv bv r b hv hb; rw [h] at this; exact this
theorem Meets_is {w : World} {pv bv : Value} {r : Request} {b : List Bite} {c : Bool} (h : meetsR r b = c) (hv : PiecesV w pv r.Pieces) (hb : BitesV w bv b) :
    Calls Try.prog 16 #[.agg #[.int .i64 r.Queue, .int .i64 r.From, .int .i64 r.Until, .int .i64 r.Kind, pv], bv] w fun x w' => x = .returned (.bool c) ∧ Ext w w' := by
  have := Meets_any w pv bv r b hv hb; rw [h] at this; exact this
theorem reqCheck_is {w : World} {v pv : Value} {l : List Queue} {r : Request} {n : Int} (h : reqE l r = n) (hl : QueuesV w v l) (hv : PiecesV w pv r.Pieces) :
    Calls Try.prog 65 #[v, .agg #[.int .i64 r.Queue, .int .i64 r.From, .int .i64 r.Until, .int .i64 r.Kind, pv]] w fun x w' => x = .returned (.int .i64 n) ∧ Ext w w' := by
  have := reqCheck_any w v pv l r hl hv; rw [h] at this; exact this

theorem plotO : overR (plotR 1) [⟨0, 20⟩, ⟨1, 10⟩] = (24, 0) := by
  rw [overR_yes (by decide +kernel) (by decide) (by decide +kernel)]; decide +kernel
theorem plotO0 : overR (plotR 1) [] = (0, 1) := overR_no (fun h => by have := h.2.1; simp at this)
theorem plotC : reqE (fieldL 10 0 6) (plotR 1) = 0 := reqE_ok fieldC (by decide +kernel) (by decide)
theorem plotC4 : reqE (fieldL 10 0 6) ⟨4, 2, 30, 1, plotL⟩ = 6 := by
  rw [reqE_form fieldC, formR_ok (by decide +kernel), if_pos (by decide)]
theorem plotC5 : reqE (fieldL 10 0 6) (plotR 5) = 7 := by
  rw [reqE_form fieldC, formR_kind (by decide), if_neg (by decide)]
theorem plotM1 : meetsR (plotR 1) [⟨0, 20⟩, ⟨1, 10⟩] = true := by rw [meetsR_dec]; decide +kernel
theorem plotM2 : meetsR (plotR 3) [⟨0, 20⟩, ⟨1, 10⟩] = false := by rw [meetsR_dec]; decide +kernel
theorem plotM3 : meetsR (plotR 4) [⟨0, 2⟩, ⟨1, 6⟩] = true := by rw [meetsR_dec]; decide +kernel
theorem plotM4 : meetsR (plotR 4) [⟨0, 2⟩, ⟨1, 7⟩] = false := by rw [meetsR_dec]; decide +kernel
theorem plotM5 : meetsR (plotR 2) [⟨1, 25⟩] = true := by rw [meetsR_dec]; decide +kernel
theorem plotM6 : meetsR (plotR 2) [⟨1, 26⟩] = false := by rw [meetsR_dec]; decide +kernel

/-- a struct of five cells in a block, later on -/
theorem rowCells5 {w W : World} {B : Nat} {a b c d e : Value} {t : TypeId} (h : w.heap[B]? = some (.cells #[a, b, c, d, e] t (0, 0))) (hx : Ext w W) :
    W.cell? ⟨B, 0, none⟩ = some a ∧ W.cell? ⟨B, 1, none⟩ = some b ∧ W.cell? ⟨B, 2, none⟩ = some c ∧ W.cell? ⟨B, 3, none⟩ = some d ∧ W.cell? ⟨B, 4, none⟩ = some e := by
  have k : ∀ j v, (#[a, b, c, d, e] : Array Value)[j]? = some v → W.cell? ⟨B, j, none⟩ = some v := fun j v hv => hx.ce' (by rw [cell_of_row _ _ _ _ _ _ h]; exact hv)
  exact ⟨k 0 _ rfl, k 1 _ rfl, k 2 _ rfl, k 3 _ rfl, k 4 _ rfl⟩

theorem field_ex (w : World) : Calls Try.prog 34 #[] w fun e w' => ∃ B : Nat, e = .returned (.slice (some ⟨B + 4, 0, none⟩) 4 4) ∧ FieldAt w' B 10 0 6 ∧ Ext w w' :=
  (field_any w).mono fun _ _ ⟨h1, h2, h3⟩ => ⟨_, h1, h2, h3⟩

set_option maxRecDepth 100000 in
theorem chk1 {W : World} {v : Value} {pz : Nat} (hV : QueuesV W v (fieldL 10 0 6)) (hP : PiecesV W (.slice (some ⟨pz, 0, none⟩) 2 2) plotL) :
    Calls Try.prog 65 #[v, .agg #[.int .i64 3, .int .i64 2, .int .i64 30, .int .i64 1, .slice (some ⟨pz, 0, none⟩) 2 2]] W fun x w' => x = .returned (.int .i64 0) ∧ Ext W w' := reqCheck_is (r := ⟨3, 2, 30, 1, plotL⟩) plotC hV hP
set_option maxRecDepth 100000 in
theorem chk2 {W : World} {v : Value} {pz : Nat} (hV : QueuesV W v (fieldL 10 0 6)) (hP : PiecesV W (.slice (some ⟨pz, 0, none⟩) 2 2) plotL) :
    Calls Try.prog 65 #[v, .agg #[.int .i64 4, .int .i64 2, .int .i64 30, .int .i64 1, .slice (some ⟨pz, 0, none⟩) 2 2]] W fun x w' => x = .returned (.int .i64 6) ∧ Ext W w' := reqCheck_is (r := ⟨4, 2, 30, 1, plotL⟩) plotC4 hV hP
set_option maxRecDepth 100000 in
theorem chk3 {W : World} {v : Value} {pz : Nat} (hV : QueuesV W v (fieldL 10 0 6)) (hP : PiecesV W (.slice (some ⟨pz, 0, none⟩) 2 2) plotL) :
    Calls Try.prog 65 #[v, .agg #[.int .i64 3, .int .i64 2, .int .i64 30, .int .i64 5, .slice (some ⟨pz, 0, none⟩) 2 2]] W fun x w' => x = .returned (.int .i64 7) ∧ Ext W w' := reqCheck_is (r := ⟨3, 2, 30, 5, plotL⟩) plotC5 hV hP
set_option maxRecDepth 100000 in
theorem mt1 {W : World} {pz bz : Nat} (hP : PiecesV W (.slice (some ⟨pz, 0, none⟩) 2 2) plotL) (hB : BitesV W (.slice (some ⟨bz, 0, none⟩) 2 2) [⟨0, 20⟩, ⟨1, 10⟩]) :
    Calls Try.prog 16 #[.agg #[.int .i64 3, .int .i64 2, .int .i64 30, .int .i64 1, .slice (some ⟨pz, 0, none⟩) 2 2], .slice (some ⟨bz, 0, none⟩) 2 2] W fun x w' => x = .returned (.bool true) ∧ Ext W w' := Meets_is (r := ⟨3, 2, 30, 1, plotL⟩) plotM1 hP hB
set_option maxRecDepth 100000 in
theorem mt2 {W : World} {pz bz : Nat} (hP : PiecesV W (.slice (some ⟨pz, 0, none⟩) 2 2) plotL) (hB : BitesV W (.slice (some ⟨bz, 0, none⟩) 2 2) [⟨0, 20⟩, ⟨1, 10⟩]) :
    Calls Try.prog 16 #[.agg #[.int .i64 3, .int .i64 2, .int .i64 30, .int .i64 3, .slice (some ⟨pz, 0, none⟩) 2 2], .slice (some ⟨bz, 0, none⟩) 2 2] W fun x w' => x = .returned (.bool false) ∧ Ext W w' := Meets_is (r := ⟨3, 2, 30, 3, plotL⟩) plotM2 hP hB
set_option maxRecDepth 100000 in
theorem mt3 {W : World} {pz bz : Nat} (hP : PiecesV W (.slice (some ⟨pz, 0, none⟩) 2 2) plotL) (hB : BitesV W (.slice (some ⟨bz, 0, none⟩) 2 2) [⟨0, 2⟩, ⟨1, 6⟩]) :
    Calls Try.prog 16 #[.agg #[.int .i64 3, .int .i64 2, .int .i64 30, .int .i64 4, .slice (some ⟨pz, 0, none⟩) 2 2], .slice (some ⟨bz, 0, none⟩) 2 2] W fun x w' => x = .returned (.bool true) ∧ Ext W w' := Meets_is (r := ⟨3, 2, 30, 4, plotL⟩) plotM3 hP hB
set_option maxRecDepth 100000 in
theorem mt4 {W : World} {pz bz : Nat} (hP : PiecesV W (.slice (some ⟨pz, 0, none⟩) 2 2) plotL) (hB : BitesV W (.slice (some ⟨bz, 0, none⟩) 2 2) [⟨0, 2⟩, ⟨1, 7⟩]) :
    Calls Try.prog 16 #[.agg #[.int .i64 3, .int .i64 2, .int .i64 30, .int .i64 4, .slice (some ⟨pz, 0, none⟩) 2 2], .slice (some ⟨bz, 0, none⟩) 2 2] W fun x w' => x = .returned (.bool false) ∧ Ext W w' := Meets_is (r := ⟨3, 2, 30, 4, plotL⟩) plotM4 hP hB
set_option maxRecDepth 100000 in
theorem mt5 {W : World} {pz bz : Nat} (hP : PiecesV W (.slice (some ⟨pz, 0, none⟩) 2 2) plotL) (hB : BitesV W (.slice (some ⟨bz, 0, none⟩) 1 1) [⟨1, 25⟩]) :
    Calls Try.prog 16 #[.agg #[.int .i64 3, .int .i64 2, .int .i64 30, .int .i64 2, .slice (some ⟨pz, 0, none⟩) 2 2], .slice (some ⟨bz, 0, none⟩) 1 1] W fun x w' => x = .returned (.bool true) ∧ Ext W w' := Meets_is (r := ⟨3, 2, 30, 2, plotL⟩) plotM5 hP hB
set_option maxRecDepth 100000 in
theorem mt6 {W : World} {pz bz : Nat} (hP : PiecesV W (.slice (some ⟨pz, 0, none⟩) 2 2) plotL) (hB : BitesV W (.slice (some ⟨bz, 0, none⟩) 1 1) [⟨1, 26⟩]) :
    Calls Try.prog 16 #[.agg #[.int .i64 3, .int .i64 2, .int .i64 30, .int .i64 2, .slice (some ⟨pz, 0, none⟩) 2 2], .slice (some ⟨bz, 0, none⟩) 1 1] W fun x w' => x = .returned (.bool false) ∧ Ext W w' := Meets_is (r := ⟨3, 2, 30, 2, plotL⟩) plotM6 hP hB

end Go.Proofs.Ytfbcmifclaaacaa
