/- choose. -/
import Derived.Test.YtoclbapkgfmphaaRunsB
set_option linter.unusedVariables false
namespace Go.Proofs.Ytoclbapkgfmphaa
open Go.RowKit

/-- what choose comes to -/
@[irreducible] def chooseR (c n : Int) : Int := (if c < 0 then -(c + 1) else c) % n
theorem chooseR_in {c n : Int} (hn : 0 < n) : 0 ≤ chooseR c n ∧ chooseR c n < n := by
  unfold chooseR
  exact ⟨Int.emod_nonneg _ (by omega), Int.emod_lt_of_pos _ hn⟩

theorem choose_any (c n : Int) (w : World) (hc : I64 c) (h0 : 0 < n) (hn : I64 n) : Calls Try.prog 18 #[.int .i64 c, .int .i64 n] w fun e w' => e = .returned (.int .i64 (chooseR c n)) ∧ w' = w := by
  have h1 := hc.1
  have h2 := hc.2
  have h3 := hn.2
  have hin := chooseR_in (c := c) h0
  by_cases hneg : c < 0
  · have hr : chooseR c n = (-(c + 1)) % n := by unfold chooseR; rw [if_pos hneg]
    rw [hr] at hin ⊢
    have i1 := hin.1
    have i2 := hin.2
    have hz := eqF (a := n) (b := 0) (by omega)
    have hz' : n ≠ 0 := by omega
    have hm : n ≠ -1 := by omega
    clear hr hc hn hin
    go_enter Try.func18, Try.ntmps18
    go_wp2
    go_ret
    exact ⟨ret_int (by rw [← Int.neg_tmod, Int.tmod_eq_emod_of_nonneg (by omega)]), rfl⟩
  · have hr : chooseR c n = c % n := by unfold chooseR; rw [if_neg hneg]
    rw [hr] at hin ⊢
    have i1 := hin.1
    have i2 := hin.2
    have hz := eqF (a := n) (b := 0) (by omega)
    have hz' : n ≠ 0 := by omega
    have hm : n ≠ -1 := by omega
    clear hr hc hn hin
    go_enter Try.func18, Try.ntmps18
    go_wp2
    go_ret
    exact ⟨rfl, rfl⟩

end Go.Proofs.Ytoclbapkgfmphaa
