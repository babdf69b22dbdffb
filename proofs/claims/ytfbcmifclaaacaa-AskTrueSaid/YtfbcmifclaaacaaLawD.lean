/- Choice, and the law RunsTrue. -/
import Derived.Test.YtfbcmifclaaacaaRunsB
import Derived.Test.YtfbcmifclaaacaaLawA

/- choose. -/
set_option linter.unusedVariables false
namespace Go.Proofs.Ytfbcmifclaaacaa
open Go.RowKit

/-- what choose comes to -/
@[irreducible] def chooseR (c n : Int) : Int := (if c < 0 then -(c + 1) else c) % n
theorem chooseR_in {c n : Int} (hn : 0 < n) : 0 ≤ chooseR c n ∧ chooseR c n < n := by
  unfold chooseR
  exact ⟨Int.emod_nonneg _ (by omega), Int.emod_lt_of_pos _ hn⟩

theorem choose_any (c n : Int) (w : World) (hc : I64 c) (h0 : 0 < n) (hn : I64 n) : Calls Try.prog 12 #[.int .i64 c, .int .i64 n] w fun e w' => e = .returned (.int .i64 (chooseR c n)) ∧ w' = w := by
  have h1 := hc.1
  have h2 := hc.2
  have h3 := hn.2
  have hin := chooseR_in (c := c) h0
  by_cases hneg : c < 0
  · have hr : chooseR c n = (-(c + 1)) % n := by unfold chooseR; rw [if_pos hneg]
    rw [hr] at hin ⊢
    have i1 := hin.1
    have i2 := hin.2
    have hz := eqF (a := n) (b := 0) (by omega)
    have hz' : n ≠ 0 := by omega
    have hm : n ≠ -1 := by omega
    clear hr hc hn hin
    go_enter Try.func12, Try.ntmps12
    go_wp2
    go_ret
    exact ⟨ret_int (by rw [← Int.neg_tmod, Int.tmod_eq_emod_of_nonneg (by omega)]), rfl⟩
  · have hr : chooseR c n = c % n := by unfold chooseR; rw [if_neg hneg]
    rw [hr] at hin ⊢
    have i1 := hin.1
    have i2 := hin.2
    have hz := eqF (a := n) (b := 0) (by omega)
    have hz' : n ≠ 0 := by omega
    have hm : n ≠ -1 := by omega
    clear hr hc hn hin
    go_enter Try.func12, Try.ntmps12
    go_wp2
    go_ret
    exact ⟨rfl, rfl⟩

end Go.Proofs.Ytfbcmifclaaacaa

/- The laws on runs: RunsTrue. -/
set_option linter.unusedVariables false
namespace Go.Proofs.Ytfbcmifclaaacaa
open Go.RowKit

/-! the plain law -/
theorem toldT_zero {x : Nat → Int} {l : List Run} (h : toldT x = (l, 0)) : (∀ t, t < 48 → NumOk (x t)) ∧ l = fold x := by
  by_cases hx : ∀ t, t < 48 → NumOk (x t)
  · rw [toldT_yes hx] at h
    exact ⟨hx, (Prod.mk.inj h).1.symm⟩
  · unfold toldT at h
    rw [if_neg hx] at h
    have := (Prod.mk.inj h).2
    omega
theorem toldT_code {x : Nat → Int} : (toldT x).2 = 0 ∨ (toldT x).2 = 2 := by
  unfold toldT; split
  · exact .inl rfl
  · exact .inr rfl

theorem bothR_zero {f g l : List Run} {of : Int → Int → Int} (h : bothR f g of = (l, 0)) : Fine f ∧ Fine g ∧ Fine l ∧ (∀ t, t < 48 → sp l t = of (sp f t) (sp g t)) := by
  by_cases hb : Fine f ∧ Fine g
  · rw [bothR_yes hb.1 hb.2] at h
    obtain ⟨h1, rfl⟩ := toldT_zero h
    exact ⟨hb.1, hb.2, fine_fold h1, fun t ht => sp_fold ht⟩
  · rw [bothR_no hb] at h
    have := (Prod.mk.inj h).2
    omega

theorem both_back {f g l : List Run} (h : bothR f g (fun a b => a + b) = (l, 0)) : bothR l g (fun a b => a - b) = (f, 0) := by
  obtain ⟨hf, hg, hl, hs⟩ := bothR_zero h
  rw [bothR_yes hl hg, toldT_congr (y := sp f) (fun t ht => by rw [hs t ht]; omega), toldT_yes (fun t ht => fine_sp hf ht), fold_sp hf.1]

theorem both_lesser {f g : List Run} (hf : Fine f) (hg : Fine g) : ∃ l, bothR f g (fun a b => min a b) = (l, 0) ∧ bothR g f (fun a b => min a b) = (l, 0) := by
  have h : ∀ t, t < 48 → NumOk (min (sp f t) (sp g t)) := fun t ht => by
    have h1 := fine_sp hf ht
    have h2 := fine_sp hg ht
    exact ⟨by have := h1.1; have := h2.1; omega, by have := h1.2; have := h2.2; omega⟩
  refine ⟨_, by rw [bothR_yes hf hg, toldT_yes h], ?_⟩
  rw [bothR_yes hg hf, toldT_congr (y := fun t => min (sp f t) (sp g t)) (fun t ht => by omega), toldT_yes h]

theorem valueR_fine {f : List Run} {t : Int} (hf : Fine f) (h0 : 0 ≤ t) (h1 : t < 48) : valueR f t = (sp f t.toNat, 0) := by
  unfold valueR; rw [if_pos hf, if_pos ⟨h0, h1⟩]

end Go.Proofs.Ytfbcmifclaaacaa
