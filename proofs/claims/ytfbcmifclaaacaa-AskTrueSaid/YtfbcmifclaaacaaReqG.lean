/- Walk of the reference's MeetsOf. -/
import Derived.Test.YtfbcmifclaaacaaReqC
set_option linter.unusedVariables false
namespace Go.Proofs.Ytfbcmifclaaacaa
open Go.RowKit

theorem meetsR_refno {r : Request} {b : List Bite} (hr : ReqOk r) {k : Nat} (hk : k < b.length) (h : ¬ RefOk r b k) : meetsR r b = false := by
  rw [Bool.eq_false_iff]; exact fun h' => h (((meetsR_ref hr).1 h').1 k hk)
theorem meetsR_any {r : Request} {b : List Bite} (hr : ReqOk r) (h : ∀ k, k < b.length → RefOk r b k) (h2 : r.Kind = 2) : meetsR r b = decide (b.length = 1) := by
  by_cases hz : b.length = 1
  · rw [decide_eq_true hz]; exact (meetsR_ref hr).2 ⟨h, by rw [if_pos h2]; exact hz⟩
  · rw [decide_eq_false hz, Bool.eq_false_iff]; exact fun h' => hz (by have := ((meetsR_ref hr).1 h').2; rw [if_pos h2] at this; exact this)
theorem meetsR_many {r : Request} {b : List Bite} (hr : ReqOk r) (h2 : ¬ r.Kind = 2) (hz : b.length ≠ r.Pieces.length) : meetsR r b = false := by
  rw [Bool.eq_false_iff]; exact fun h' => hz (by have := ((meetsR_ref hr).1 h').2; rw [if_neg h2] at this; exact this.1)
theorem meetsR_link {r : Request} {b : List Bite} (hr : ReqOk r) (h2 : ¬ r.Kind = 2) {k : Nat} (hk0 : 0 < k) (hk : k < b.length) (h : ¬ LinkOk r b k) : meetsR r b = false := by
  rw [Bool.eq_false_iff]; exact fun h' => h (by have := ((meetsR_ref hr).1 h').2; rw [if_neg h2] at this; exact this.2 k hk0 hk)
theorem meetsR_all {r : Request} {b : List Bite} (hr : ReqOk r) (h : ∀ k, k < b.length → RefOk r b k) (h2 : ¬ r.Kind = 2) (hz : b.length = r.Pieces.length) (hl : ∀ k, 0 < k → k < b.length → LinkOk r b k) : meetsR r b = true :=
  (meetsR_ref hr).2 ⟨h, by rw [if_neg h2]; exact ⟨hz, hl⟩⟩

end Go.Proofs.Ytfbcmifclaaacaa
