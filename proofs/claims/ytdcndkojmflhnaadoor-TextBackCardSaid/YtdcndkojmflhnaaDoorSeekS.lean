/- seeking; what is the same; requests -/
import Derived.Test.YtdcndkojmflhnaaDoorRunsZ
import Derived.Test.YtdcndkojmflhnaaDoorRunsY
import Derived.Shelf.Abstract

/- Walk of room.Seek. -/
set_option linter.unusedVariables false
namespace Go.Proofs.YtdcndkojmflhnaaDoor
open Go.RowKit

/-- the first place, as the program tells it -/
@[irreducible] def seekR (f : List Run) (from_ until_ size n : Int) : Int × Bool := match firstT (sp f) from_.toNat until_.toNat size.toNat n with | some t => ((t : Int), true) | none => (0, false)
theorem seekR_some {f : List Run} {F U Z t : Nat} {n : Int} (h : firstT (sp f) F U Z n = some t) : seekR f (F : Int) (U : Int) (Z : Int) n = ((t : Int), true) := by unfold seekR; simp only [Int.toNat_natCast, h]
theorem seekR_none {f : List Run} {F U Z : Nat} {n : Int} (h : firstT (sp f) F U Z n = none) : seekR f (F : Int) (U : Int) (Z : Int) n = (0, false) := by unfold seekR; simp only [Int.toNat_natCast, h]

def RetIs (w : World) (r : Int × Bool) (e : Ending) (w' : World) : Prop := e = .returned (.tuple #[.int .i64 r.1, .bool r.2]) ∧ Ext w w'
theorem retIs_of {w w' : World} {r : Int × Bool} {n : Int} {b : Bool} (h : r = (n, b)) (hx : Ext w w') : RetIs w r (.returned (.tuple #[.int .i64 n, .bool b])) w' := by
  subst h; exact ⟨rfl, hx⟩

theorem seekAt_bound {f : List Run} {F U Z : Nat} {n : Int} {k A : Nat} (hU : U ≤ 48) (hF : F ≤ 48) (h : SeekAt f F U Z n k A) : A ≤ 48 := by
  obtain ⟨E, hE, a1, a2, _⟩ := h
  omega

end Go.Proofs.YtdcndkojmflhnaaDoor

/- Walks of the references: SameInts, SameBools, SameBites. -/
set_option linter.unusedVariables false
namespace Go.Proofs.YtdcndkojmflhnaaDoor
open Go.RowKit

theorem getA {α : Type} {f : List α} {k : Nat} (h : k < f.length) : ∃ x, f[k]? = some x := ⟨_, List.getElem?_eq_getElem h⟩
theorem beF {x y : Bool} (h : ¬ x = y) : (x != y) = true := bne_iff_ne.2 h
theorem beT {x y : Bool} (h : x = y) : (x != y) = false := by subst h; simp

end Go.Proofs.YtdcndkojmflhnaaDoor

/- slices.IndexFunc, slices.ContainsFunc at slices of pieces. -/
set_option linter.unusedVariables false
namespace Go.Proofs.YtdcndkojmflhnaaDoor
open Go.RowKit

end Go.Proofs.YtdcndkojmflhnaaDoor

/- Requests: what is asked, and what the walk needs of it. -/

/- Walks of requests: req.Form; isKind, piecesError, rangeError, shaped. -/
set_option linter.unusedVariables false
namespace Go.Proofs.YtdcndkojmflhnaaDoor
open Go.RowKit

def PieceOk (p : Piece) : Prop := (1 ≤ p.Len ∧ p.Len ≤ 24) ∧ (1 ≤ p.N ∧ p.N ≤ 50)
instance (p : Piece) : Decidable (PieceOk p) := inferInstanceAs (Decidable (_ ∧ _))
def KindOk (k : Int) : Prop := 1 ≤ k ∧ k ≤ 4
instance (k : Int) : Decidable (KindOk k) := inferInstanceAs (Decidable (_ ∧ _))
def ManyOk (r : Request) : Prop := 1 ≤ r.Pieces.length ∧ r.Pieces.length ≤ 3
instance (r : Request) : Decidable (ManyOk r) := inferInstanceAs (Decidable (_ ∧ _))
def SpanOk (a b : Int) : Prop := 0 ≤ a ∧ a < b ∧ b ≤ 48
instance (a b : Int) : Decidable (SpanOk a b) := inferInstanceAs (Decidable (_ ∧ _ ∧ _))
def RangeOk (r : Request) : Prop := SpanOk r.From r.Until ∧ ∀ p ∈ r.Pieces, PieceOk p
instance (r : Request) : Decidable (RangeOk r) := inferInstanceAs (Decidable (_ ∧ _))
/-- a request without an error, whatever its queue -/
structure ReqOk (r : Request) : Prop where
  kind : KindOk r.Kind
  many : ManyOk r
  range : RangeOk r
theorem reqOk_iff {r : Request} : ReqOk r ↔ KindOk r.Kind ∧ ManyOk r ∧ RangeOk r := ⟨fun h => ⟨h.kind, h.many, h.range⟩, fun h => ⟨h.1, h.2.1, h.2.2⟩⟩
instance (r : Request) : Decidable (ReqOk r) := decidable_of_iff _ reqOk_iff.symm

/-- Form's error, and whether it is asked ahead of the queue's -/
@[irreducible] def formR (r : Request) : Int × Bool := if ¬ KindOk r.Kind then (7, true) else if ¬ ManyOk r then (2, true) else if ¬ RangeOk r then (3, false) else (0, false)
theorem formR_kind {r : Request} (h : ¬ KindOk r.Kind) : formR r = (7, true) := by unfold formR; rw [if_pos h]
theorem formR_many {r : Request} (h : KindOk r.Kind) (h2 : ¬ ManyOk r) : formR r = (2, true) := by unfold formR; rw [if_neg (fun h' => h' h), if_pos h2]
theorem formR_range {r : Request} (h : KindOk r.Kind) (h2 : ManyOk r) (h3 : ¬ RangeOk r) : formR r = (3, false) := by unfold formR; rw [if_neg (fun h' => h' h), if_neg (fun h' => h' h2), if_pos h3]
theorem formR_ok {r : Request} (h : ReqOk r) : formR r = (0, false) := by unfold formR; rw [if_neg (fun h' => h' h.kind), if_neg (fun h' => h' h.many), if_neg (fun h' => h' h.range)]
theorem formR_cases (r : Request) : (¬ KindOk r.Kind ∧ formR r = (7, true)) ∨ (KindOk r.Kind ∧ ¬ ManyOk r ∧ formR r = (2, true)) ∨ (KindOk r.Kind ∧ ManyOk r ∧ ¬ RangeOk r ∧ formR r = (3, false)) ∨ (ReqOk r ∧ formR r = (0, false)) := by
  by_cases h1 : KindOk r.Kind
  · by_cases h2 : ManyOk r
    · by_cases h3 : RangeOk r
      · exact .inr (.inr (.inr ⟨⟨h1, h2, h3⟩, formR_ok ⟨h1, h2, h3⟩⟩))
      · exact .inr (.inr (.inl ⟨h1, h2, h3, formR_range h1 h2 h3⟩))
    · exact .inr (.inl ⟨h1, h2, formR_many h1 h2⟩)
  · exact .inl ⟨h1, formR_kind h1⟩
theorem formR_bad {r : Request} (h : ¬ ReqOk r) : ∃ e b, formR r = (e, b) ∧ e ≠ 0 := by
  rcases formR_cases r with ⟨_, h1⟩ | ⟨_, _, h1⟩ | ⟨_, _, _, h1⟩ | ⟨h1, _⟩
  · exact ⟨_, _, h1, by decide⟩
  · exact ⟨_, _, h1, by decide⟩
  · exact ⟨_, _, h1, by decide⟩
  · exact absurd h1 h

def RetForm (w : World) (r : Int × Bool) (e : Ending) (w' : World) : Prop := e = .returned (.tuple #[.int .i64 r.1, .bool r.2]) ∧ Ext w w'
theorem retForm_of {w w' : World} {r : Int × Bool} {n : Int} {b : Bool} (h : r = (n, b)) (hx : Ext w w') : RetForm w r (.returned (.tuple #[.int .i64 n, .bool b])) w' := by
  subst h; exact ⟨rfl, hx⟩

/-- ErrMany of a request, or none -/
@[irreducible] def manyE (r : Request) : Int := if ManyOk r then 0 else 2
theorem manyE_yes {r : Request} (h : ManyOk r) : manyE r = 0 := by unfold manyE; rw [if_pos h]
theorem manyE_no {r : Request} (h : ¬ ManyOk r) : manyE r = 2 := by unfold manyE; rw [if_neg h]
@[irreducible] def rangeE (r : Request) : Int := if RangeOk r then 0 else 3
theorem rangeE_yes {r : Request} (h : RangeOk r) : rangeE r = 0 := by unfold rangeE; rw [if_pos h]
theorem rangeE_no {r : Request} (h : ¬ RangeOk r) : rangeE r = 3 := by unfold rangeE; rw [if_neg h]

/-- a boxed struct of five cells, later on -/
theorem reqCells {w W : World} {a b c d e : Value} {t : TypeId} (hx : Ext (w.alloc (.cells #[a, b, c, d, e] t)) W) :
    W.cell? ⟨w.heap.size, 0, none⟩ = some a ∧ W.cell? ⟨w.heap.size, 1, none⟩ = some b ∧ W.cell? ⟨w.heap.size, 2, none⟩ = some c ∧ W.cell? ⟨w.heap.size, 3, none⟩ = some d ∧ W.cell? ⟨w.heap.size, 4, none⟩ = some e := by
  have h := heap_alloc_new w (.cells #[a, b, c, d, e] t)
  have k : ∀ j v, (#[a, b, c, d, e] : Array Value)[j]? = some v → W.cell? ⟨w.heap.size, j, none⟩ = some v := fun j v hv => hx.ce' (by rw [cell_of_row _ _ _ _ _ _ h]; exact hv)
  exact ⟨k 0 _ rfl, k 1 _ rfl, k 2 _ rfl, k 3 _ rfl, k 4 _ rfl⟩

end Go.Proofs.YtdcndkojmflhnaaDoor

/- Requests, plainly: what meets one; no program in sight. -/
set_option linter.unusedVariables false
namespace Go.Proofs.YtdcndkojmflhnaaDoor

def bP (b : List Bite) (k : Nat) : Int := (b.getD k default).Piece
def bA (b : List Bite) (k : Nat) : Int := (b.getD k default).At
def pL (r : Request) (j : Nat) : Int := (r.Pieces.getD j default).Len
def pN (r : Request) (j : Nat) : Int := (r.Pieces.getD j default).N

theorem bite_at {b : List Bite} {k : Nat} {x : Bite} (h : b[k]? = some x) : bP b k = x.Piece ∧ bA b k = x.At := by
  have e : b.getD k default = x := by simp [List.getD_eq_getElem?_getD, h]
  exact ⟨by unfold bP; rw [e], by unfold bA; rw [e]⟩
theorem piece_at {r : Request} {k : Nat} {x : Piece} (h : r.Pieces[k]? = some x) : pL r k = x.Len ∧ pN r k = x.N := by
  have e : r.Pieces.getD k default = x := by simp [List.getD_eq_getElem?_getD, h]
  exact ⟨by unfold pL; rw [e], by unfold pN; rw [e]⟩

/-- the bite ahead's piece, when it is over -/
def lastP (b : List Bite) (k : Nat) : Int := if k = 0 then -1 else bP b (k - 1)
def endA (r : Request) (b : List Bite) (k : Nat) : Int := if k = 0 then -1 else bA b (k - 1) + pL r (bP b (k - 1)).toNat

structure StepOk (r : Request) (b : List Bite) (k : Nat) : Prop where
  up : lastP b k < bP b k
  is : bP b k < r.Pieces.length
  from_ : r.From ≤ bA b k
  until_ : bA b k ≤ r.Until
  fits : pL r (bP b k).toNat ≤ r.Until - bA b k
  order : 0 < k → r.Kind = 3 → endA r b k ≤ bA b k
  tight : 0 < k → r.Kind = 4 → bA b k = endA r b k

def CountOk (r : Request) (b : List Bite) : Prop := if r.Kind = 2 then b.length = 1 else b.length = r.Pieces.length
instance (r : Request) (b : List Bite) : Decidable (CountOk r b) := by unfold CountOk; infer_instance

/-- does what is given meet a request? -/
@[irreducible] noncomputable def meetsR (r : Request) (b : List Bite) : Bool := open Classical in decide (ReqOk r ∧ (∀ k, k < b.length → StepOk r b k) ∧ CountOk r b)
theorem meetsR_iff {r : Request} {b : List Bite} : meetsR r b = true ↔ ReqOk r ∧ (∀ k, k < b.length → StepOk r b k) ∧ CountOk r b := by unfold meetsR; simp
theorem meetsR_no {r : Request} {b : List Bite} (h : ¬ (ReqOk r ∧ (∀ k, k < b.length → StepOk r b k) ∧ CountOk r b)) : meetsR r b = false := by
  rw [Bool.eq_false_iff]; exact fun h' => h (meetsR_iff.1 h')
theorem meetsR_form {r : Request} {b : List Bite} (h : ¬ ReqOk r) : meetsR r b = false := meetsR_no (fun h' => h h'.1)
theorem meetsR_step {r : Request} {b : List Bite} {k : Nat} (hk : k < b.length) (h : ¬ StepOk r b k) : meetsR r b = false := meetsR_no (fun h' => h (h'.2.1 k hk))

structure RefOk (r : Request) (b : List Bite) (k : Nat) : Prop where
  low : 0 ≤ bP b k
  is : bP b k ≤ (r.Pieces.length : Int) - 1
  up : 0 < k → bP b (k - 1) < bP b k
  from_ : r.From ≤ bA b k
  until_ : bA b k ≤ r.Until
  fits : bA b k ≤ r.Until - pL r (bP b k).toNat

structure LinkOk (r : Request) (b : List Bite) (k : Nat) : Prop where
  order : r.Kind = 3 → bA b (k - 1) + pL r (k - 1) ≤ bA b k
  tight : r.Kind = 4 → bA b k = bA b (k - 1) + pL r (k - 1)

theorem inc_id {f : Nat → Int} {n : Nat} (h0 : ∀ k, k < n → 0 ≤ f k) (hup : ∀ k, 0 < k → k < n → f (k - 1) < f k) (hn : ∀ k, k < n → f k ≤ (n : Int) - 1) : ∀ k, k < n → f k = k := by
  have lo : ∀ k, k < n → (k : Int) ≤ f k := by
    intro k
    induction k with
    | zero => intro h; exact h0 0 h
    | succ k ih => intro h; have := ih (by omega); have := hup (k + 1) (by omega) h; simp only [Nat.add_sub_cancel] at this; omega
  have hi : ∀ d k, k + d + 1 = n → f k ≤ k := by
    intro d
    induction d with
    | zero => intro k h; have := hn k (by omega); omega
    | succ d ih => intro k h; have := ih (k + 1) (by omega); have := hup (k + 1) (by omega) (by omega); simp only [Nat.add_sub_cancel] at this; omega
  intro k hk
  have := lo k hk
  have := hi (n - k - 1) k (by omega)
  omega

theorem step_low {r : Request} {b : List Bite} {n : Nat} (h : ∀ k, k < n → StepOk r b k) : ∀ k, k < n → 0 ≤ bP b k := by
  intro k
  induction k with
  | zero => intro hk; have := (h 0 hk).up; unfold lastP at this; rw [if_pos rfl] at this; omega
  | succ k ih => intro hk; have h1 := ih (by omega); have := (h (k + 1) hk).up; unfold lastP at this; rw [if_neg (by omega)] at this; simp only [Nat.add_sub_cancel] at this; omega

/-- the two ways of saying it -/
theorem meetsR_ref {r : Request} {b : List Bite} (hr : ReqOk r) : meetsR r b = true ↔ (∀ k, k < b.length → RefOk r b k) ∧ (if r.Kind = 2 then b.length = 1 else b.length = r.Pieces.length ∧ ∀ k, 0 < k → k < b.length → LinkOk r b k) := by
  rw [meetsR_iff]
  constructor
  · rintro ⟨_, hs, hc⟩
    have h0 := step_low hs
    have hup : ∀ k, 0 < k → k < b.length → bP b (k - 1) < bP b k := fun k h1 h2 => by
      have := (hs k h2).up; unfold lastP at this; rw [if_neg (by omega)] at this; exact this
    refine ⟨fun k hk => ⟨h0 k hk, by have := (hs k hk).is; omega, fun h => hup k h hk, (hs k hk).from_, (hs k hk).until_, by have := (hs k hk).fits; omega⟩, ?_⟩
    unfold CountOk at hc
    split
    · rename_i h2; rw [if_pos h2] at hc; exact hc
    · rename_i h2
      rw [if_neg h2] at hc
      have hid := inc_id h0 hup (fun k hk => by have := (hs k hk).is; omega)
      refine ⟨hc, fun k h1 hk => ?_⟩
      have e : endA r b k = bA b (k - 1) + pL r (k - 1) := by
        unfold endA; rw [if_neg (by omega), hid (k - 1) (by omega), Int.toNat_natCast]
      exact ⟨fun h3 => by have := (hs k hk).order h1 h3; omega, fun h4 => by have := (hs k hk).tight h1 h4; omega⟩
  · rintro ⟨hs, hc⟩
    refine ⟨hr, fun k hk => ?_, ?_⟩
    · have h := hs k hk
      have link : 0 < k → r.Kind ≠ 2 → endA r b k = bA b (k - 1) + pL r (k - 1) ∧ LinkOk r b k := fun h1 h2 => by
        rw [if_neg h2] at hc
        have hid := inc_id (fun k hk => (hs k hk).low) (fun k h1 hk => (hs k hk).up h1) (fun k hk => by have := (hs k hk).is; omega)
        exact ⟨by unfold endA; rw [if_neg (by omega), hid (k - 1) (by omega), Int.toNat_natCast], hc.2 k h1 hk⟩
      refine ⟨?_, by have := h.is; omega, h.from_, h.until_, by have := h.fits; omega, fun h1 h3 => ?_, fun h1 h4 => ?_⟩
      · unfold lastP
        split
        · have := h.low; omega
        · exact h.up (by omega)
      · obtain ⟨e, hl⟩ := link h1 (by omega)
        rw [e]; exact hl.order h3
      · obtain ⟨e, hl⟩ := link h1 (by omega)
        rw [e]; exact hl.tight h4
    · unfold CountOk
      split
      · rename_i h2; rw [if_pos h2] at hc; exact hc
      · rename_i h2; rw [if_neg h2] at hc; exact hc.1

theorem meetsR_yes {r : Request} {b : List Bite} (hr : ReqOk r) (h : ∀ k, k < b.length → StepOk r b k) : meetsR r b = decide (CountOk r b) := by
  by_cases hc : CountOk r b
  · rw [decide_eq_true hc]; exact meetsR_iff.2 ⟨hr, h, hc⟩
  · rw [decide_eq_false hc]; exact meetsR_no (fun h' => hc h'.2.2)

end Go.Proofs.YtdcndkojmflhnaaDoor
