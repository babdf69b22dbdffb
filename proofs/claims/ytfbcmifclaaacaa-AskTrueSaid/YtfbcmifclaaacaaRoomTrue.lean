/- The law RoomTrue. -/
import Derived.Test.YtfbcmifclaaacaaLawL
import Derived.Test.YtfbcmifclaaacaaLawA
set_option linter.unusedVariables false
namespace Go.Proofs.Ytfbcmifclaaacaa
open Go.RowKit

theorem minTo_le {g : Nat → Int} {ks : List Nat} (k : Nat) (h : ks ≠ []) : minTo g (k :: ks) = min (g k) (minTo g ks) := by
  have key : ∀ (ks : List Nat) (a c : Int), ks.foldl (fun a k => min a (g k)) (min a c) = min a (ks.foldl (fun a k => min a (g k)) c) := by
    intro ks
    induction ks with
    | nil => intro a c; rfl
    | cons j ks ih =>
      intro a c
      show ks.foldl _ (min (min a c) (g j)) = min a (ks.foldl _ (min c (g j)))
      rw [← ih]
      congr 1
      omega
  cases ks with
  | nil => exact absurd rfl h
  | cons j ks => exact key ks (g k) (g j)

theorem room_par {l : List Queue} {b : List Book} (hp : ParsOk l) {k p : Nat} (hk : k < l.length) (he : par l k = (p : Int)) (t : Nat) : min (roomT l b (k : Int) t) (roomT l b (p : Int) t) = roomT l b (k : Int) t := by
  have hpk : p < k := by have := (hp k hk).2; omega
  have e : roomT l b (k : Int) t = min (leftT l b k t) (roomT l b (p : Int) t) := by
    show minTo _ (lineL l (k : Int)) = min _ (minTo _ (lineL l (p : Int)))
    rw [lineL_pos hp hk, he]
    exact minTo_le k (by rw [lineL_pos hp (by omega)]; simp)
  omega

theorem room_num {l : List Queue} {b : List Book} (ok : TreeOk l) (hbok : ∀ x ∈ b, BookOk l x) (h12 : b.length ≤ 12) {k : Nat} (hk : k < l.length) (t : Nat) : NumOk (roomT l b (k : Int) t) := by
  have := minTo_num (g := fun j => leftT l b j t) (a := -1800) (b := 50) (lineL l (k : Int)) (fun j hj => left_num ok hbok h12 j t (lineL_lt ok.pars l.length (k : Int) (by omega) (by omega) j hj).1) (by rw [lineL_pos ok.pars (by omega)]; simp)
  rw [show roomT l b (k : Int) t = minTo (fun j => leftT l b j t) (lineL l (k : Int)) from rfl]
  exact ⟨by omega, by omega⟩

theorem least_in {f : List Run} (hf : Fine f) {a b : Nat} (h1 : a < b) (h2 : b ≤ 48) : leastR f (a : Int) (b : Int) = (lowT (sp f) a b, 0) := by
  unfold leastR
  rw [if_pos hf, if_pos ⟨by omega, by omega, by omega⟩]
  simp
theorem least_over {f : List Run} (hf : Fine f) {a b : Nat} (h2 : 48 < b) : leastR f (a : Int) (b : Int) = (0, 3) := by
  unfold leastR
  rw [if_pos hf, if_neg (by omega)]

/-- what First finds -/
def FoundAt (f : List Run) (A Z : Nat) (n : Int) (t : Int) (b : Bool) : Prop :=
  (b = false ∧ ∀ k, A ≤ k → k + Z ≤ 48 → lowT (sp f) k (k + Z) < n) ∨ (b = true ∧ ∃ T : Nat, t = T ∧ A ≤ T ∧ T + Z ≤ 48 ∧ n ≤ lowT (sp f) T (T + Z) ∧ ∀ k, A ≤ k → k < T → lowT (sp f) k (k + Z) < n)
theorem firstOf_zero {f : List Run} (hf : Fine f) {a s n t : Int} {b : Bool} (h : firstOfR f a 48 s n = (t, b, 0)) : ∃ A Z : Nat, a = A ∧ s = Z ∧ A < 48 ∧ 1 ≤ Z ∧ Z ≤ 24 ∧ FoundAt f A Z n t b := by
  by_cases hs : SpanOk a 48 ∧ (1 ≤ s ∧ s ≤ 24)
  · obtain ⟨⟨h1, h2, _⟩, h3, h4⟩ := hs
    obtain ⟨A, rfl⟩ := Int.eq_ofNat_of_zero_le h1
    obtain ⟨Z, rfl⟩ := Int.eq_ofNat_of_zero_le (by omega : 0 ≤ s)
    refine ⟨A, Z, rfl, rfl, by omega, by omega, by omega, ?_⟩
    have hI := firstT_is (sp f) A 48 Z n
    have low : ∀ k, k + Z ≤ 48 → ¬ HasT (sp f) k 48 Z n → lowT (sp f) k (k + Z) < n := fun k hk hn => by
      apply Classical.byContradiction
      intro hc
      exact hn ⟨hk, (le_lowT (by omega)).1 (by omega)⟩
    cases hq : firstT (sp f) A 48 Z n with
    | none =>
      rw [hq] at hI
      have e := firstOfR_ok hf ⟨h1, h2, by omega⟩ ⟨h3, h4⟩ (seekR_none (U := 48) hq)
      rw [h] at e
      obtain ⟨e1, e2⟩ := Prod.mk.inj e
      obtain ⟨e2, _⟩ := Prod.mk.inj e2
      exact .inl ⟨e2, fun k hk h => low k h (hI k hk (by omega))⟩
    | some T =>
      rw [hq] at hI
      obtain ⟨i1, i2, i3, i4⟩ := hI
      have e := firstOfR_ok hf ⟨h1, h2, by omega⟩ ⟨h3, h4⟩ (seekR_some (U := 48) hq)
      rw [h] at e
      obtain ⟨e1, e2⟩ := Prod.mk.inj e
      obtain ⟨e2, _⟩ := Prod.mk.inj e2
      have hT := i3.1
      exact .inr ⟨e2, T, e1, i1, hT, (le_lowT (by omega)).2 i3.2, fun k hk h => low k (by omega) (i4 k hk h)⟩
  · rw [firstOfR_range hf hs] at h
    have := (Prod.mk.inj (Prod.mk.inj h).2).2
    omega

end Go.Proofs.Ytfbcmifclaaacaa

