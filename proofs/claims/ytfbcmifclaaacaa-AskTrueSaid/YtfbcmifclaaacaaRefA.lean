/- Walks of the references: within, isTime, span, RunsFine, SameRuns. -/
import Derived.Test.YtfbcmifclaaacaaRunsB
import Derived.Test.YtfbcmifclaaacaaRunsA
set_option linter.unusedVariables false
namespace Go.Proofs.Ytfbcmifclaaacaa
open Go.RowKit

/-- the reference's test at j -/
def okR (f : List Run) (j : Nat) : Prop := (0 ≤ curAt f j ∧ curAt f j ≤ 47) ∧ NumOk (curN f j) ∧ (j = 0 → curAt f j = 0) ∧ (0 < j → curAt f (j - 1) < curAt f j ∧ curN f j ≠ curN f (j - 1))

theorem fine_iffR {f : List Run} : Fine f ↔ 0 < f.length ∧ ∀ j, j < f.length → okR f j := by
  rw [fine_iff]
  constructor
  · rintro ⟨h1, h2, h3⟩
    have pos : ∀ j, j < f.length → 0 ≤ curAt f j := by
      intro j
      induction j with
      | zero => intro _; omega
      | succ j ih => intro hj; have := ih (by omega); have := (h3 (j + 1) hj).2.2 (by omega); simp only [Nat.add_sub_cancel] at this; omega
    refine ⟨h1, fun j hj => ?_⟩
    obtain ⟨k1, k2, k3⟩ := h3 j hj
    exact ⟨⟨pos j hj, by omega⟩, k2, fun e => by subst e; exact h2, k3⟩
  · rintro ⟨h1, h2⟩
    exact ⟨h1, (h2 0 h1).2.2.1 rfl, fun j hj => by
      obtain ⟨k1, k2, k3, k4⟩ := h2 j hj
      exact ⟨by omega, k2, k4⟩⟩

theorem okR_snoc {f : List Run} {k : Nat} (h : ∀ j, j < k → okR f j) (hk : okR f k) : ∀ j, j < k + 1 → okR f j := fun j hj => by
  by_cases e : j = k
  · subst e; exact hk
  · exact h j (by omega)

end Go.Proofs.Ytfbcmifclaaacaa
