/- Walks of the references: told, both, PlusOf, MinusOf, LesserOf, BumpOf, LeastOf, ValueOf. -/
import Derived.Test.YtfbcmifclaaacaaRefB
import Derived.Test.YtfbcmifclaaacaaRunsD
set_option linter.unusedVariables false
namespace Go.Proofs.Ytfbcmifclaaacaa
open Go.RowKit

/-- a table as runs, or ErrMany -/
@[irreducible] noncomputable def toldT (x : Nat → Int) : List Run × Int := open Classical in if ∀ t, t < 48 → NumOk (x t) then (fold x, 0) else ([], 2)
theorem toldT_yes {x : Nat → Int} (h : ∀ t, t < 48 → NumOk (x t)) : toldT x = (fold x, 0) := by unfold toldT; rw [if_pos h]
theorem toldT_no {x : Nat → Int} {t : Nat} (ht : t < 48) (h : ¬ NumOk (x t)) : toldT x = ([], 2) := by unfold toldT; rw [if_neg (fun h' => h (h' t ht))]
theorem toldT_congr {x y : Nat → Int} (h : ∀ t, t < 48 → x t = y t) : toldT x = toldT y := by
  by_cases hx : ∀ t, t < 48 → NumOk (x t)
  · rw [toldT_yes hx, toldT_yes (fun t ht => by rw [← h t ht]; exact hx t ht), fold_congr h]
  · unfold toldT; rw [if_neg hx, if_neg (fun hy => hx (fun t ht => by rw [h t ht]; exact hy t ht))]

/-- runs and an error are told -/
def RetRuns2 (w : World) (r : List Run × Int) (e : Ending) (w' : World) : Prop := ∃ v, e = .returned (.tuple #[v, .int .i64 r.2]) ∧ RunsV w' v r.1 ∧ Ext w w'

theorem retRuns2_of {w w' : World} {r : List Run × Int} {l : List Run} {n : Int} {v : Value} (h : r = (l, n)) (hv : RunsV w' v l) (hx : Ext w w') : RetRuns2 w r (.returned (.tuple #[v, .int .i64 n])) w' := by
  subst h; exact ⟨v, rfl, hv, hx⟩

/-- the first t times told anew -/
def mixT (z x : Nat → Int) (t : Nat) : Nat → Int := fun s => if s < t then z s else x s
theorem mixT_zero (z x : Nat → Int) : mixT z x 0 = x := by funext s; simp [mixT]
theorem mixT_at (z x : Nat → Int) (t : Nat) : mixT z x t t = x t := by simp [mixT]
theorem mixT_step (z x : Nat → Int) (t : Nat) : upd (mixT z x t) t (z t) = mixT z x (t + 1) := by
  funext s
  unfold upd mixT
  by_cases h : s = t
  · subst h; simp
  · rw [if_neg h]
    by_cases h2 : s < t
    · rw [if_pos h2, if_pos (by omega)]
    · rw [if_neg h2, if_neg (by omega)]
theorem mixT_all (z x : Nat → Int) : ∀ t, t < 48 → mixT z x 48 t = z t := fun t h => by simp [mixT, h]

/-- two runs laid together: ErrForm ahead -/
@[irreducible] noncomputable def bothR (f g : List Run) (of : Int → Int → Int) : List Run × Int := if Fine f ∧ Fine g then toldT (fun t => of (sp f t) (sp g t)) else ([], 1)

end Go.Proofs.Ytfbcmifclaaacaa
