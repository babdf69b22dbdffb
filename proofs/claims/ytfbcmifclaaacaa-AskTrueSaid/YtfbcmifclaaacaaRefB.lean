/- Walks of the references over tables: spread, folded, told. -/
import Derived.Test.YtfbcmifclaaacaaRefA
import Derived.Test.YtfbcmifclaaacaaTab
import Derived.Test.YtfbcmifclaaacaaRunsC
set_option linter.unusedVariables false
namespace Go.Proofs.Ytfbcmifclaaacaa
open Go.RowKit

/-- a table is told, in new memory -/
def RetTab (w : World) (x : Nat → Int) (e : Ending) (w' : World) : Prop := e = .returned (.agg (tab x)) ∧ Ext w w'

/-- where spread's loop stands -/
def SpreadAt (f : List Run) (k t : Nat) : Prop := k < f.length ∧ curAt f k ≤ (t : Int) ∧ (t : Int) ≤ nextAt f k

/-- what has been spread so far -/
def upto (x : Nat → Int) (t : Nat) : Nat → Int := fun s => if s < t then x s else 0
theorem upto_zero (x : Nat → Int) : upto x 0 = fun _ => 0 := by funext s; simp [upto]
theorem upto_step (x : Nat → Int) (t : Nat) : upd (upto x t) t (x t) = upto x (t + 1) := by
  funext s
  unfold upd upto
  by_cases h : s = t
  · subst h; simp
  · rw [if_neg h]
    by_cases h2 : s < t
    · rw [if_pos h2, if_pos (by omega)]
    · rw [if_neg h2, if_neg (by omega)]
theorem upto_all (x : Nat → Int) : ∀ t, t < 48 → upto x 48 t = x t := fun t h => by simp [upto, h]

theorem fold_nums {x : Nat → Int} (h : ∀ t, t < 48 → I64 (x t)) : ∀ r ∈ fold x, I64 r.At ∧ I64 r.N := fun r hr => by
  rw [fold_eq] at hr
  have h1 := foldTo_at _ _ hr
  obtain ⟨t, ht, h2⟩ := foldTo_num _ _ hr
  exact ⟨I64.of (by omega) (by omega), by rw [h2]; exact h t ht⟩

theorem fold_len (x : Nat → Int) : (fold x).length ≤ 48 := by rw [fold_eq]; exact foldTo_le 48

theorem foldTo_put {x : Nat → Int} {t : Nat} (h : t = 0 ∨ x (t - 1) ≠ x t) : foldTo x (t + 1) = foldTo x t ++ [⟨(t : Int), x t⟩] := by simp only [foldTo]; rw [if_pos h]
theorem foldTo_skip {x : Nat → Int} {t : Nat} (h0 : t ≠ 0) (h : x (t - 1) = x t) : foldTo x (t + 1) = foldTo x t := by
  simp only [foldTo]; rw [if_neg (by rintro (h1 | h1); exact h0 h1; exact h1 h), List.append_nil]

end Go.Proofs.Ytfbcmifclaaacaa
