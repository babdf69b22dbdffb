/- Requests, plainly: what meets one; no program in sight. -/
import Derived.Test.YtoclbapkgfmphaaReqA
set_option linter.unusedVariables false
namespace Go.Proofs.Ytoclbapkgfmphaa

def bP (b : List Bite) (k : Nat) : Int := (b.getD k default).Piece
def bA (b : List Bite) (k : Nat) : Int := (b.getD k default).At
def pL (r : Request) (j : Nat) : Int := (r.Pieces.getD j default).Len
def pN (r : Request) (j : Nat) : Int := (r.Pieces.getD j default).N

theorem bite_at {b : List Bite} {k : Nat} {x : Bite} (h : b[k]? = some x) : bP b k = x.Piece ∧ bA b k = x.At := by
  have e : b.getD k default = x := by simp [List.getD_eq_getElem?_getD, h]
  exact ⟨by unfold bP; rw [e], by unfold bA; rw [e]⟩
theorem piece_at {r : Request} {k : Nat} {x : Piece} (h : r.Pieces[k]? = some x) : pL r k = x.Len ∧ pN r k = x.N := by
  have e : r.Pieces.getD k default = x := by simp [List.getD_eq_getElem?_getD, h]
  exact ⟨by unfold pL; rw [e], by unfold pN; rw [e]⟩

/-- the bite ahead's piece, when it is over -/
def lastP (b : List Bite) (k : Nat) : Int := if k = 0 then -1 else bP b (k - 1)
def endA (r : Request) (b : List Bite) (k : Nat) : Int := if k = 0 then -1 else bA b (k - 1) + pL r (bP b (k - 1)).toNat

structure StepOk (r : Request) (b : List Bite) (k : Nat) : Prop where
  up : lastP b k < bP b k
  is : bP b k < r.Pieces.length
  from_ : r.From ≤ bA b k
  until_ : bA b k ≤ r.Until
  fits : pL r (bP b k).toNat ≤ r.Until - bA b k
  order : 0 < k → r.Kind = 3 → endA r b k ≤ bA b k
  tight : 0 < k → r.Kind = 4 → bA b k = endA r b k

def CountOk (r : Request) (b : List Bite) : Prop := if r.Kind = 2 then b.length = 1 else b.length = r.Pieces.length
instance (r : Request) (b : List Bite) : Decidable (CountOk r b) := by unfold CountOk; infer_instance

/-- does what is given meet a request? -/
@[irreducible] noncomputable def meetsR (r : Request) (b : List Bite) : Bool := open Classical in decide (ReqOk r ∧ (∀ k, k < b.length → StepOk r b k) ∧ CountOk r b)
theorem meetsR_iff {r : Request} {b : List Bite} : meetsR r b = true ↔ ReqOk r ∧ (∀ k, k < b.length → StepOk r b k) ∧ CountOk r b := by unfold meetsR; simp
theorem meetsR_no {r : Request} {b : List Bite} (h : ¬ (ReqOk r ∧ (∀ k, k < b.length → StepOk r b k) ∧ CountOk r b)) : meetsR r b = false := by
  rw [Bool.eq_false_iff]; exact fun h' => h (meetsR_iff.1 h')
theorem meetsR_form {r : Request} {b : List Bite} (h : ¬ ReqOk r) : meetsR r b = false := meetsR_no (fun h' => h h'.1)
theorem meetsR_step {r : Request} {b : List Bite} {k : Nat} (hk : k < b.length) (h : ¬ StepOk r b k) : meetsR r b = false := meetsR_no (fun h' => h (h'.2.1 k hk))

structure RefOk (r : Request) (b : List Bite) (k : Nat) : Prop where
  low : 0 ≤ bP b k
  is : bP b k ≤ (r.Pieces.length : Int) - 1
  up : 0 < k → bP b (k - 1) < bP b k
  from_ : r.From ≤ bA b k
  until_ : bA b k ≤ r.Until
  fits : bA b k ≤ r.Until - pL r (bP b k).toNat

structure LinkOk (r : Request) (b : List Bite) (k : Nat) : Prop where
  order : r.Kind = 3 → bA b (k - 1) + pL r (k - 1) ≤ bA b k
  tight : r.Kind = 4 → bA b k = bA b (k - 1) + pL r (k - 1)

theorem inc_id {f : Nat → Int} {n : Nat} (h0 : ∀ k, k < n → 0 ≤ f k) (hup : ∀ k, 0 < k → k < n → f (k - 1) < f k) (hn : ∀ k, k < n → f k ≤ (n : Int) - 1) : ∀ k, k < n → f k = k := by
  have lo : ∀ k, k < n → (k : Int) ≤ f k := by
    intro k
    induction k with
    | zero => intro h; exact h0 0 h
    | succ k ih => intro h; have := ih (by omega); have := hup (k + 1) (by omega) h; simp only [Nat.add_sub_cancel] at this; omega
  have hi : ∀ d k, k + d + 1 = n → f k ≤ k := by
    intro d
    induction d with
    | zero => intro k h; have := hn k (by omega); omega
    | succ d ih => intro k h; have := ih (k + 1) (by omega); have := hup (k + 1) (by omega) (by omega); simp only [Nat.add_sub_cancel] at this; omega
  intro k hk
  have := lo k hk
  have := hi (n - k - 1) k (by omega)
  omega

theorem step_low {r : Request} {b : List Bite} {n : Nat} (h : ∀ k, k < n → StepOk r b k) : ∀ k, k < n → 0 ≤ bP b k := by
  intro k
  induction k with
  | zero => intro hk; have := (h 0 hk).up; unfold lastP at this; rw [if_pos rfl] at this; omega
  | succ k ih => intro hk; have h1 := ih (by omega); have := (h (k + 1) hk).up; unfold lastP at this; rw [if_neg (by omega)] at this; simp only [Nat.add_sub_cancel] at this; omega

/-- the two ways of saying it -/
theorem meetsR_ref {r : Request} {b : List Bite} (hr : ReqOk r) : meetsR r b = true ↔ (∀ k, k < b.length → RefOk r b k) ∧ (if r.Kind = 2 then b.length = 1 else b.length = r.Pieces.length ∧ ∀ k, 0 < k → k < b.length → LinkOk r b k) := by
  rw [meetsR_iff]
  constructor
  · rintro ⟨_, hs, hc⟩
    have h0 := step_low hs
    have hup : ∀ k, 0 < k → k < b.length → bP b (k - 1) < bP b k := fun k h1 h2 => by
      have := (hs k h2).up; unfold lastP at this; rw [if_neg (by omega)] at this; exact this
    refine ⟨fun k hk => ⟨h0 k hk, by have := (hs k hk).is; omega, fun h => hup k h hk, (hs k hk).from_, (hs k hk).until_, by have := (hs k hk).fits; omega⟩, ?_⟩
    unfold CountOk at hc
    split
    · rename_i h2; rw [if_pos h2] at hc; exact hc
    · rename_i h2
      rw [if_neg h2] at hc
      have hid := inc_id h0 hup (fun k hk => by have := (hs k hk).is; omega)
      refine ⟨hc, fun k h1 hk => ?_⟩
      have e : endA r b k = bA b (k - 1) + pL r (k - 1) := by
        unfold endA; rw [if_neg (by omega), hid (k - 1) (by omega), Int.toNat_natCast]
      exact ⟨fun h3 => by have := (hs k hk).order h1 h3; omega, fun h4 => by have := (hs k hk).tight h1 h4; omega⟩
  · rintro ⟨hs, hc⟩
    refine ⟨hr, fun k hk => ?_, ?_⟩
    · have h := hs k hk
      have link : 0 < k → r.Kind ≠ 2 → endA r b k = bA b (k - 1) + pL r (k - 1) ∧ LinkOk r b k := fun h1 h2 => by
        rw [if_neg h2] at hc
        have hid := inc_id (fun k hk => (hs k hk).low) (fun k h1 hk => (hs k hk).up h1) (fun k hk => by have := (hs k hk).is; omega)
        exact ⟨by unfold endA; rw [if_neg (by omega), hid (k - 1) (by omega), Int.toNat_natCast], hc.2 k h1 hk⟩
      refine ⟨?_, by have := h.is; omega, h.from_, h.until_, by have := h.fits; omega, fun h1 h3 => ?_, fun h1 h4 => ?_⟩
      · unfold lastP
        split
        · have := h.low; omega
        · exact h.up (by omega)
      · obtain ⟨e, hl⟩ := link h1 (by omega)
        rw [e]; exact hl.order h3
      · obtain ⟨e, hl⟩ := link h1 (by omega)
        rw [e]; exact hl.tight h4
    · unfold CountOk
      split
      · rename_i h2; rw [if_pos h2] at hc; exact hc
      · rename_i h2; rw [if_neg h2] at hc; exact hc.1

theorem meetsR_yes {r : Request} {b : List Bite} (hr : ReqOk r) (h : ∀ k, k < b.length → StepOk r b k) : meetsR r b = decide (CountOk r b) := by
  by_cases hc : CountOk r b
  · rw [decide_eq_true hc]; exact meetsR_iff.2 ⟨hr, h, hc⟩
  · rw [decide_eq_false hc]; exact meetsR_no (fun h' => hc h'.2.2)

end Go.Proofs.Ytoclbapkgfmphaa
