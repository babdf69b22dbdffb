/- Walks of the reference's find; room.First. -/
import Derived.Test.YtfbcmifclaaacaaRefD
import Derived.Test.YtfbcmifclaaacaaSeek
import Derived.Test.YtfbcmifclaaacaaReqA
import Derived.Test.YtfbcmifclaaacaaPlace
import Derived.Laws.Rows
import Derived.BigQuiet
import Derived.Test.YtfbcmifclaaacaaLit
import Derived.Deep.RegionHeld3

/- Walks of the references: has, first, FirstOf; room.First. -/
set_option linter.unusedVariables false
namespace Go.Proofs.Ytfbcmifclaaacaa
open Go.RowKit

/-- the first place in a table -/
@[irreducible] def firstR (x : Nat → Int) (a u s : Nat) (n : Int) : Int × Bool := match firstT x a u s n with | some t => ((t : Int), true) | none => (0, false)
theorem firstR_some {x : Nat → Int} {a u s t : Nat} {n : Int} (h : firstT x a u s n = some t) : firstR x a u s n = ((t : Int), true) := by unfold firstR; rw [h]
theorem firstR_none {x : Nat → Int} {a u s : Nat} {n : Int} (h : firstT x a u s n = none) : firstR x a u s n = (0, false) := by unfold firstR; rw [h]

/-- First's answer -/
@[irreducible] def firstOfR (f : List Run) (a u s n : Int) : Int × Bool × Int := if Fine f then (if SpanOk a u ∧ (1 ≤ s ∧ s ≤ 24) then ((seekR f a u s n).1, (seekR f a u s n).2, 0) else (0, false, 3)) else (0, false, 1)
theorem firstOfR_form {f : List Run} {a u s n : Int} (h : ¬ Fine f) : firstOfR f a u s n = (0, false, 1) := by unfold firstOfR; rw [if_neg h]
theorem firstOfR_range {f : List Run} {a u s n : Int} (h : Fine f) (h2 : ¬ (SpanOk a u ∧ (1 ≤ s ∧ s ≤ 24))) : firstOfR f a u s n = (0, false, 3) := by unfold firstOfR; rw [if_pos h, if_neg h2]
theorem firstOfR_ok {f : List Run} {a u s n : Int} (h : Fine f) (h2 : SpanOk a u) (h3 : 1 ≤ s ∧ s ≤ 24) {t : Int} {b : Bool} (h4 : seekR f a u s n = (t, b)) : firstOfR f a u s n = (t, b, 0) := by unfold firstOfR; rw [if_pos h, if_pos ⟨h2, h3⟩, h4]
theorem firstR_seek {f : List Run} {a u s : Nat} {n : Int} : firstR (sp f) a u s n = seekR f (a : Int) (u : Int) (s : Int) n := by
  cases h : firstT (sp f) a u s n with
  | some t => rw [firstR_some h, seekR_some h]
  | none => rw [firstR_none h, seekR_none h]

def RetFirst (w : World) (r : Int × Bool × Int) (e : Ending) (w' : World) : Prop := e = .returned (.tuple #[.int .i64 r.1, .bool r.2.1, .int .i64 r.2.2]) ∧ Ext w w'
theorem retFirst_of {w w' : World} {r : Int × Bool × Int} {n m : Int} {b : Bool} (h : r = (n, b, m)) (hx : Ext w w') : RetFirst w r (.returned (.tuple #[.int .i64 n, .bool b, .int .i64 m])) w' := by
  subst h; exact ⟨rfl, hx⟩

end Go.Proofs.Ytfbcmifclaaacaa

/- Walks of the references: tightAt. -/
set_option linter.unusedVariables false
namespace Go.Proofs.Ytfbcmifclaaacaa
open Go.RowKit

/-- the load of a whole row, in a region that draws its order -/
theorem wpQuiet_load_row {P : Program} {ops : Array Oper} {C : World → Prop} {Q : Act → Prop} {o : Oper} {rest : List Oper} {a : Act} (hw : Region.wanted o (yielded ops a.tmps) = true) (ty : TypeId) (x : Operand) (ho : o.op = .load ty x)
    (g : Nat) (hx : a.eval x = .pointer (some ⟨g, 0, none⟩)) (t : TypeId) (cs : Array Value) (fr : Nat × Nat) (d : TypeDesc) (hg : ∀ w, C w → w.heap[g]? = some (.cells cs t fr))
    (hu : P.underlying ty = some d) (hd : (match d with | .struct _ | .array _ _ => true | _ => false) = true) (hi : (P.info? ty).map (·.size) = some cs.size)
    (h : wpQuiet P ops C Q rest (a.put o.dst (.agg cs))) : wpQuiet P ops C Q (o :: rest) a :=
  BigFrame.wpQuiet_want hw (fun K hK => ⟨.agg cs, fun w hw => by
    unfold Oper.quietAt execOp
    simp only [ho, hx, Instr.loadAt, Instr.sureAddr, Sem.run_bind, Sem.run_pure, Result.andThen_ok, run_loadVar_row w g t ty cs fr d (hg w hw) hu hd hi]
    exact ⟨rfl, rfl⟩, hK _ h⟩)

/-- a struct of five cells in a block, later on -/
theorem cells5_at {w W : World} {B : Nat} {a b c d e : Value} {t : TypeId} (h : w.heap[B]? = some (.cells #[a, b, c, d, e] t (0, 0))) (hx : Ext w W) :
    W.cell? ⟨B, 0, none⟩ = some a ∧ W.cell? ⟨B, 1, none⟩ = some b ∧ W.cell? ⟨B, 2, none⟩ = some c ∧ W.cell? ⟨B, 3, none⟩ = some d ∧ W.cell? ⟨B, 4, none⟩ = some e := by
  have k : ∀ j v, (#[a, b, c, d, e] : Array Value)[j]? = some v → W.cell? ⟨B, j, none⟩ = some v := fun j v hv => hx.ce' (by rw [cell_of_row _ _ _ _ _ _ h]; exact hv)
  exact ⟨k 0 _ rfl, k 1 _ rfl, k 2 _ rfl, k 3 _ rfl, k 4 _ rfl⟩

/-- tightAt's answer -/
def RetTight (w : World) (x : Nat → Int) (r : Request) (t : Nat) (e : Ending) (w' : World) : Prop :=
  ∃ u b, e = .returned (.tuple #[u, .bool b]) ∧ Ext w w' ∧ (b = true → TightAt x r t ∧ BitesV w' u (rowB r t r.Pieces.length)) ∧ (b = false → ¬ TightAt x r t)

end Go.Proofs.Ytfbcmifclaaacaa

/- Walks of the references: find. -/
set_option linter.unusedVariables false
namespace Go.Proofs.Ytfbcmifclaaacaa
open Go.RowKit

/-- find's answer -/
def RetPick (w : World) (l : List Bite) (e : Ending) (w' : World) : Prop := ∃ u b, e = .returned (.tuple #[u, .bool b]) ∧ Ext w w' ∧ (b = true → l ≠ [] ∧ BitesV w' u l) ∧ (b = false → l = [])

end Go.Proofs.Ytfbcmifclaaacaa

/- Walks of the references: find for all, any, order; FindPlace. -/
set_option linter.unusedVariables false
namespace Go.Proofs.Ytfbcmifclaaacaa
open Go.RowKit

/-- a table whose numbers are small -/
def TabOk (k : Nat) (x : Nat → Int) : Prop := ∀ t, t < 48 → -1000000000 - 50 * (k : Int) ≤ x t ∧ x t ≤ 1000000000
theorem TabOk.next {k : Nat} {x : Nat → Int} (h : TabOk k x) : TabOk (k + 1) x := fun t ht => by have := h t ht; omega
theorem TabOk.take {k t z : Nat} {x : Nat → Int} {n : Int} (h : TabOk k x) (hn : 1 ≤ n ∧ n ≤ 50) : TabOk (k + 1) (fun s => x s + hillT t (t + z) (-n) s) := fun s hs => by
  have h1 := h s hs
  have h2 : hillT t (t + z) (-n) s = -n ∨ hillT t (t + z) (-n) s = 0 := by unfold hillT; split <;> simp
  show -1000000000 - 50 * ((k + 1 : Nat) : Int) ≤ x s + hillT t (t + z) (-n) s ∧ x s + hillT t (t + z) (-n) s ≤ 1000000000
  omega
theorem keepR5 {w : World} {b xb o : Nat} {cs : Array Value} {t : TypeId} {fr : Nat × Nat} (h : w.heap[b]? = some (.cells cs t fr)) (hne : b ≠ xb) (v : Value) : (w.setCell ⟨xb, o, none⟩ v).heap[b]? = some (.cells cs t fr) := by
  rw [heap_setCell_other w ⟨xb, o, none⟩ b v hne]; exact h

end Go.Proofs.Ytfbcmifclaaacaa

/- Walk of the reference's FindPlace. -/
set_option linter.unusedVariables false
namespace Go.Proofs.Ytfbcmifclaaacaa
open Go.RowKit

theorem tabOk_fine {f : List Run} (h : Fine f) : TabOk 0 (sp f) := fun t ht => by
  have := fine_sp h ht
  have h1 := this.1
  have h2 := this.2
  omega

end Go.Proofs.Ytfbcmifclaaacaa
