/- Places, plainly: what is found meets the request, and there is room for it; no program in sight. -/
import Derived.Test.YtfbcmifclaaacaaFind
set_option linter.unusedVariables false
namespace Go.Proofs.Ytfbcmifclaaacaa

/-! ### the times that were found -/
def Path (r : Request) (nx : (Nat → Int) → Nat → Nat → Nat → Int) (na : Nat → Nat → Nat) : Nat → (Nat → Int) → Nat → List Nat → Prop
  | _, _, _, [] => True
  | k, x, a, t :: ts => pieceT x r a k = some t ∧ Path r nx na (k + 1) (nx x k t) (na k t) ts
def bitesOf : Nat → List Nat → List Bite
  | _, [] => []
  | k, t :: ts => ⟨(k : Int), (t : Int)⟩ :: bitesOf (k + 1) ts
theorem bitesOf_len : ∀ (k : Nat) (ts : List Nat), (bitesOf k ts).length = ts.length
  | _, [] => rfl
  | k, t :: ts => by simp [bitesOf, bitesOf_len (k + 1) ts]
theorem bitesOf_get : ∀ (ts : List Nat) (k j : Nat), j < ts.length → (bitesOf k ts)[j]? = some ⟨((k + j : Nat) : Int), ((ts.getD j 0 : Nat) : Int)⟩
  | [], k, j, h => by simp at h
  | t :: ts, k, 0, _ => by simp [bitesOf]
  | t :: ts, k, j + 1, h => by
    have := bitesOf_get ts (k + 1) j (by simpa using h)
    simp only [bitesOf, List.getElem?_cons_succ, this]
    simp [Nat.add_assoc, Nat.add_comm 1 j]

theorem eachGo_path {r : Request} {nx : (Nat → Int) → Nat → Nat → Nat → Int} {na : Nat → Nat → Nat} : ∀ (m k : Nat) (x : Nat → Int) (a : Nat) (out : List Bite),
    eachGo r nx na m k x a out = [] ∨ ∃ ts, ts.length = m ∧ Path r nx na k x a ts ∧ eachGo r nx na m k x a out = out ++ bitesOf k ts
  | 0, k, x, a, out => .inr ⟨[], rfl, trivial, by simp [eachGo, bitesOf]⟩
  | m + 1, k, x, a, out => by
    rw [eachGo]
    cases h : pieceT x r a k with
    | none => exact .inl rfl
    | some t =>
      rcases eachGo_path (r := r) (nx := nx) (na := na) m (k + 1) (nx x k t) (na k t) (out ++ [⟨(k : Int), (t : Int)⟩]) with h1 | ⟨ts, h1, h2, h3⟩
      · exact .inl h1
      · exact .inr ⟨t :: ts, by simp [h1], ⟨h, h2⟩, by show eachGo r nx na m (k + 1) (nx x k t) (na k t) (out ++ [⟨(k : Int), (t : Int)⟩]) = _; rw [h3]; simp [bitesOf]⟩
theorem path_eachGo {r : Request} {nx : (Nat → Int) → Nat → Nat → Nat → Int} {na : Nat → Nat → Nat} : ∀ (ts : List Nat) (k : Nat) (x : Nat → Int) (a : Nat) (out : List Bite),
    Path r nx na k x a ts → eachGo r nx na ts.length k x a out = out ++ bitesOf k ts
  | [], k, x, a, out, _ => by simp [eachGo, bitesOf]
  | t :: ts, k, x, a, out, ⟨h1, h2⟩ => by
    rw [List.length_cons, eachGo, h1]
    have := path_eachGo (r := r) (nx := nx) (na := na) ts (k + 1) (nx x k t) (na k t) (out ++ [⟨(k : Int), (t : Int)⟩]) h2
    simp only [this, bitesOf, List.append_assoc, List.singleton_append]

/-- one step of it -/
theorem path_at {r : Request} {nx : (Nat → Int) → Nat → Nat → Nat → Int} {na : Nat → Nat → Nat} : ∀ (ts : List Nat) (k : Nat) (x : Nat → Int) (a : Nat), Path r nx na k x a ts → ∀ j, j < ts.length →
    ∃ (x' : Nat → Int) (a' : Nat), pieceT x' r a' (k + j) = some (ts.getD j 0) ∧ (j = 0 → a' = a) ∧ (0 < j → a' = na (k + j - 1) (ts.getD (j - 1) 0))
  | [], k, x, a, _, j, h => by simp at h
  | t :: ts, k, x, a, ⟨h1, h2⟩, 0, _ => ⟨x, a, by simpa using h1, fun _ => rfl, fun h => by omega⟩
  | t :: ts, k, x, a, ⟨h1, h2⟩, j + 1, h => by
    obtain ⟨x', a', h3, h4, h5⟩ := path_at ts (k + 1) (nx x k t) (na k t) h2 j (by simpa using h)
    refine ⟨x', a', by rw [show k + (j + 1) = k + 1 + j by omega]; simpa using h3, fun h => by omega, fun _ => ?_⟩
    by_cases e : j = 0
    · subst e; rw [h4 rfl]; simp
    · rw [h5 (by omega), show k + 1 + j - 1 = k + (j + 1) - 1 by omega]
      obtain ⟨i, rfl⟩ : ∃ i, j = i + 1 := ⟨j - 1, by omega⟩
      simp

theorem bP_of {ts : List Nat} {j : Nat} (h : j < ts.length) : bP (bitesOf 0 ts) j = j ∧ bA (bitesOf 0 ts) j = (ts.getD j 0 : Nat) := by
  have := bite_at (bitesOf_get ts 0 j h)
  simpa using this

/-! ### what is found meets the request -/
def HasTl (r : Request) (j t : Nat) : Prop := t + (pL r j).toNat ≤ r.Until.toNat

theorem each_meets {r : Request} {nx : (Nat → Int) → Nat → Nat → Nat → Int} {na : Nat → Nat → Nat} {x : Nat → Int} {ts : List Nat} (hr : ReqOk r) (hk2 : r.Kind ≠ 2) (hk4 : r.Kind ≠ 4) (hl : ts.length = r.Pieces.length) (h : Path r nx na 0 x r.From.toNat ts)
    (hf : ∀ k t, r.From.toNat ≤ t → r.From.toNat ≤ na k t) (ho : r.Kind = 3 → ∀ k t, na k t = behindA r k t) : meetsR r (bitesOf 0 ts) = true := by
  obtain ⟨⟨q1, q2, q3⟩, q4⟩ := req_range hr
  have hin : ∀ j, j < ts.length → r.From.toNat ≤ ts.getD j 0 ∧ HasTl r j (ts.getD j 0) := by
    intro j
    induction j with
    | zero =>
      intro hj
      obtain ⟨x', a', h1, h2, _⟩ := path_at ts 0 x _ h 0 hj
      have h3 := pieceT_in h1
      have h4 := h3.2.2.1
      rw [h2 rfl] at h3
      simp only [Nat.zero_add] at h4
      exact ⟨h3.1, h4⟩
    | succ j ih =>
      intro hj
      obtain ⟨x', a', h1, _, h2⟩ := path_at ts 0 x _ h (j + 1) hj
      have h3 := pieceT_in h1
      have h4 := h3.2.2.1
      have h5 := hf (0 + (j + 1) - 1) (ts.getD (j + 1 - 1) 0) (ih (by omega)).1
      rw [h2 (by omega)] at h3
      simp only [Nat.zero_add] at h4
      exact ⟨by omega, h4⟩
  rw [meetsR_iff]
  refine ⟨hr, fun k hk => ?_, ?_⟩
  · rw [bitesOf_len] at hk
    obtain ⟨e1, e2⟩ := bP_of hk
    obtain ⟨h1, h2⟩ := hin k hk
    unfold HasTl at h2
    obtain ⟨⟨p1, p2⟩, _⟩ := q4 k (by omega)
    refine ⟨?_, by rw [e1]; omega, by rw [e2]; omega, by rw [e2]; omega, by rw [e1, e2, Int.toNat_natCast]; omega, fun h0 h3 => ?_, fun _ h4 => absurd h4 hk4⟩
    · unfold lastP
      split
      · rw [e1]; omega
      · rw [(bP_of (ts := ts) (j := k - 1) (by omega)).1, e1]; omega
    · unfold endA
      rw [if_neg (by omega), (bP_of (ts := ts) (j := k - 1) (by omega)).1, (bP_of (ts := ts) (j := k - 1) (by omega)).2, e2, Int.toNat_natCast]
      obtain ⟨x', a', h5, _, h6⟩ := path_at ts 0 x _ h k hk
      have h7 := (pieceT_in h5).1
      rw [h6 h0, ho h3] at h7
      unfold behindA at h7
      simp only [Nat.zero_add] at h7
      obtain ⟨⟨p3, _⟩, _⟩ := q4 (k - 1) (by omega)
      omega
  · unfold CountOk
    rw [if_neg hk2, bitesOf_len, hl]

theorem tightGo_at {x : Nat → Int} {r : Request} : ∀ (m t : Nat), tightGo x r m t = [] ∨ ∃ s, t ≤ s ∧ s < t + m ∧ TightAt x r s ∧ tightGo x r m t = rowB r s r.Pieces.length ∧ ∀ q, t ≤ q → q < s → ¬ TightAt x r q
  | 0, t => .inl rfl
  | m + 1, t => by
    rw [tightGo]
    by_cases h : TightAt x r t
    · rw [if_pos h]; exact .inr ⟨t, by omega, by omega, h, rfl, fun q h1 h2 => by omega⟩
    · rw [if_neg h]
      rcases tightGo_at (x := x) (r := r) m (t + 1) with h1 | ⟨s, h1, h2, h3, h4, h5⟩
      · exact .inl h1
      · refine .inr ⟨s, by omega, by omega, h3, h4, fun q k1 k2 => ?_⟩
        by_cases e : q = t
        · subst e; exact h
        · exact h5 q (by omega) k2
theorem anyGo_at {x : Nat → Int} {r : Request} : ∀ (m k : Nat), (anyGo x r m k = [] ∧ ∀ j, k ≤ j → j < k + m → pieceT x r r.From.toNat j = none) ∨ ∃ j t, k ≤ j ∧ j < k + m ∧ pieceT x r r.From.toNat j = some t ∧ anyGo x r m k = [⟨(j : Int), (t : Int)⟩] ∧ ∀ i, k ≤ i → i < j → pieceT x r r.From.toNat i = none
  | 0, k => .inl ⟨rfl, fun j h1 h2 => by omega⟩
  | m + 1, k => by
    rw [anyGo]
    cases h : pieceT x r r.From.toNat k with
    | some t => exact .inr ⟨k, t, by omega, by omega, h, rfl, fun i h1 h2 => by omega⟩
    | none =>
      rcases anyGo_at (x := x) (r := r) m (k + 1) with ⟨h1, h2⟩ | ⟨j, t, h1, h2, h3, h4, h5⟩
      · refine .inl ⟨h1, fun j k1 k2 => ?_⟩
        by_cases e : j = k
        · subst e; exact h
        · exact h2 j (by omega) (by omega)
      · refine .inr ⟨j, t, by omega, by omega, h3, h4, fun i k1 k2 => ?_⟩
        by_cases e : i = k
        · subst e; exact h
        · exact h5 i (by omega) k2

theorem startT_ge (r : Request) (s : Nat) : ∀ k, s ≤ startT r s k
  | 0 => Nat.le_refl _
  | k + 1 => by have := startT_ge r s k; rw [startT_next]; omega
theorem rowB_get {r : Request} {t n j : Nat} (h : j < n) : bP (rowB r t n) j = j ∧ bA (rowB r t n) j = (startT r t j : Nat) := by
  have : (rowB r t n)[j]? = some ⟨(j : Int), (startT r t j : Int)⟩ := by simp [rowB, h]
  exact bite_at this

/-- what is found meets the request -/
theorem found_meets {r : Request} {x : Nat → Int} (hr : ReqOk r) (h : placeL x r ≠ []) : meetsR r (placeL x r) = true := by
  obtain ⟨⟨q1, q2, q3⟩, q4⟩ := req_range hr
  obtain ⟨m1, m3⟩ := hr.many
  obtain ⟨k1, k2⟩ := hr.kind
  rcases (by omega : r.Kind = 1 ∨ r.Kind = 2 ∨ r.Kind = 3 ∨ r.Kind = 4) with hk | hk | hk | hk
  · rw [placeL_all hk] at h ⊢
    rcases eachGo_path (r := r) (nx := takeX r) (na := fromA r) r.Pieces.length 0 x r.From.toNat [] with h1 | ⟨ts, h1, h2, h3⟩
    · exact absurd h1 h
    · rw [h3, List.nil_append]
      exact each_meets hr (by omega) (by omega) h1 h2 (fun k t ht => Nat.le_refl _) (fun h => by omega)
  · rw [placeL_any hk] at h ⊢
    rcases anyGo_at (x := x) (r := r) r.Pieces.length 0 with ⟨h1, _⟩ | ⟨j, t, h1, h2, h3, h4, _⟩
    · exact absurd h1 h
    · rw [h4, meetsR_iff]
      obtain ⟨p1, p2, p3⟩ := pieceT_in h3
      have p4 := p3.1
      obtain ⟨⟨p5, p6⟩, _⟩ := q4 j (by omega)
      refine ⟨hr, fun k hk' => ?_, ?_⟩
      · obtain rfl : k = 0 := by simp at hk'; omega
        have e1 : bP [(⟨(j : Int), (t : Int)⟩ : Bite)] 0 = j := rfl
        have e2 : bA [(⟨(j : Int), (t : Int)⟩ : Bite)] 0 = t := rfl
        refine ⟨?_, by rw [e1]; omega, by rw [e2]; omega, by rw [e2]; omega, by rw [e1, e2, Int.toNat_natCast]; omega, fun h0 => by omega, fun h0 => by omega⟩
        unfold lastP; rw [if_pos rfl, e1]; omega
      · unfold CountOk; rw [if_pos hk]; rfl
  · rw [placeL_order hk] at h ⊢
    rcases eachGo_path (r := r) (nx := keepX) (na := behindA r) r.Pieces.length 0 x r.From.toNat [] with h1 | ⟨ts, h1, h2, h3⟩
    · exact absurd h1 h
    · rw [h3, List.nil_append]
      exact each_meets hr (by omega) (by omega) h1 h2 (fun k t ht => by unfold behindA; omega) (fun h k t => rfl)
  · rw [placeL_tight hk] at h ⊢
    rcases tightGo_at (x := x) (r := r) (r.Until.toNat - r.From.toNat) r.From.toNat with h1 | ⟨s, h1, h2, h3, h4, _⟩
    · exact absurd h1 h
    · rw [h4, meetsR_iff]
      refine ⟨hr, fun k hk' => ?_, ?_⟩
      · rw [rowB_len] at hk'
        obtain ⟨e1, e2⟩ := rowB_get (r := r) (t := s) hk'
        have h5 := (h3 k hk').1
        obtain ⟨⟨p5, p6⟩, _⟩ := q4 k hk'
        have h6 := startT_ge r s k
        refine ⟨?_, by rw [e1]; omega, by rw [e2]; omega, by rw [e2]; omega, by rw [e1, e2, Int.toNat_natCast]; omega, fun h0 h3 => by omega, fun h0 _ => ?_⟩
        · unfold lastP
          split
          · rw [e1]; omega
          · rw [(rowB_get (r := r) (t := s) (n := r.Pieces.length) (j := k - 1) (by omega)).1, e1]; omega
        · unfold endA
          obtain ⟨e3, e4⟩ := rowB_get (r := r) (t := s) (n := r.Pieces.length) (j := k - 1) (by omega)
          obtain ⟨⟨p7, p8⟩, _⟩ := q4 (k - 1) (by omega)
          rw [if_neg (by omega), e3, e4, e2, Int.toNat_natCast]
          obtain ⟨i, rfl⟩ : ∃ i, k = i + 1 := ⟨k - 1, by omega⟩
          rw [startT_next, Nat.add_sub_cancel]
          rw [Nat.add_sub_cancel] at p7
          omega
      · unfold CountOk
        rw [if_neg (by omega), rowB_len]

/-! ### there is room for it -/
noncomputable def heldGo (r : Request) : List Run → List Bite → Bool
  | _, [] => true
  | f, x :: b => if (bumpR f x.At (x.At + pL r x.Piece.toNat) (-(pN r x.Piece.toNat))).2 = 0 ∧ (leastR (bumpR f x.At (x.At + pL r x.Piece.toNat) (-(pN r x.Piece.toNat))).1 x.At (x.At + pL r x.Piece.toNat)).2 = 0 ∧ 0 ≤ (leastR (bumpR f x.At (x.At + pL r x.Piece.toNat) (-(pN r x.Piece.toNat))).1 x.At (x.At + pL r x.Piece.toNat)).1
    then heldGo r (bumpR f x.At (x.At + pL r x.Piece.toNat) (-(pN r x.Piece.toNat))).1 b else false

/-- is there room for each, those ahead taken? -/
def HeldAt (r : Request) : (Nat → Int) → List Bite → Prop
  | _, [] => True
  | y, x :: b => (0 ≤ x.Piece ∧ x.Piece < r.Pieces.length ∧ 0 ≤ x.At) ∧ HasT y x.At.toNat r.Until.toNat (pL r x.Piece.toNat).toNat (pN r x.Piece.toNat) ∧ HeldAt r (takeX r y x.Piece.toNat x.At.toNat) b

/-- one bite is taken -/
theorem take_one {r : Request} (hr : ReqOk r) {f : List Run} {y : Nat → Int} {k t : Nat} (hf : Fine f) (hy : ∀ i, i < 48 → sp f i = y i) (hk : k < r.Pieces.length) (h : HasT y t r.Until.toNat (pL r k).toNat (pN r k)) :
    ∃ g low, bumpR f (t : Int) ((t : Int) + pL r k) (-(pN r k)) = (g, 0) ∧ Fine g ∧ (∀ i, i < 48 → sp g i = takeX r y k t i) ∧ leastR g (t : Int) ((t : Int) + pL r k) = (low, 0) ∧ 0 ≤ low := by
  obtain ⟨⟨q1, q2, q3⟩, q4⟩ := req_range hr
  obtain ⟨⟨p1, p2⟩, p3, p4⟩ := q4 k hk
  obtain ⟨h1, h2⟩ := h
  have hz : ∀ i, i < 48 → sp f i + hillT t (t + (pL r k).toNat) (-(pN r k)) i = takeX r y k t i := fun i hi => by unfold takeX; rw [hy i hi]
  have hn : ∀ i, i < 48 → NumOk (sp f i + hillT t (t + (pL r k).toNat) (-(pN r k)) i) := fun i hi => by
    have h3 := fine_sp hf hi
    have h4 := h3.1
    have h5 := h3.2
    by_cases hin : t ≤ i ∧ i < t + (pL r k).toNat
    · rw [hillT_in hin.1 hin.2]
      have h6 := h2 i hin.1 hin.2
      rw [← hy i hi] at h6
      exact ⟨by omega, by omega⟩
    · rw [hillT_out hin, Int.add_zero]; exact h3
  have e1 : ((t : Int) + pL r k).toNat = t + (pL r k).toNat := by omega
  have hb : bumpR f (t : Int) ((t : Int) + pL r k) (-(pN r k)) = (fold (fun i => sp f i + hillT t (t + (pL r k).toNat) (-(pN r k)) i), 0) := by
    unfold bumpR
    rw [if_pos hf, if_pos ⟨⟨by omega, by omega, by omega⟩, ⟨by omega, by omega⟩⟩, e1, Int.toNat_natCast]
    exact toldT_yes hn
  have hfine := fine_fold hn
  refine ⟨_, lowT (sp (fold (fun i => sp f i + hillT t (t + (pL r k).toNat) (-(pN r k)) i))) t (t + (pL r k).toNat), hb, hfine, fun i hi => by rw [sp_fold hi]; exact hz i hi, ?_, ?_⟩
  · unfold leastR
    rw [if_pos hfine, if_pos ⟨by omega, by omega, by omega⟩, e1, Int.toNat_natCast]
  · rw [le_lowT (by omega)]
    intro i k1 k2
    rw [sp_fold (by omega), hillT_in k1 k2]
    have h6 := h2 i k1 k2
    rw [← hy i (by omega)] at h6
    omega

theorem held_of {r : Request} (hr : ReqOk r) : ∀ (b : List Bite) (f : List Run) (y : Nat → Int), Fine f → (∀ i, i < 48 → sp f i = y i) → HeldAt r y b → heldGo r f b = true
  | [], _, _, _, _, _ => rfl
  | x :: b, f, y, hf, hy, ⟨⟨h1, h2, h3⟩, h4, h5⟩ => by
    obtain ⟨g, low, e1, e2, e3, e4, e5⟩ := take_one hr hf hy (k := x.Piece.toNat) (t := x.At.toNat) (by omega) h4
    rw [Int.toNat_of_nonneg h3] at e1 e4
    rw [heldGo, e1]
    simp only [e4]
    rw [if_pos ⟨trivial, trivial, e5⟩]
    exact held_of hr b g _ e2 e3 h5

theorem held_all {r : Request} : ∀ (ts : List Nat) (k : Nat) (x : Nat → Int) (a : Nat), k + ts.length = r.Pieces.length → Path r (takeX r) (fromA r) k x a ts → HeldAt r x (bitesOf k ts)
  | [], _, _, _, _, _ => trivial
  | t :: ts, k, x, a, hl, ⟨h1, h2⟩ => by
    have h3 := (pieceT_in h1).2.2
    simp only [List.length_cons] at hl
    exact ⟨⟨Int.natCast_nonneg _, by show (k : Int) < _; omega, Int.natCast_nonneg _⟩, h3, held_all ts (k + 1) _ _ (by omega) h2⟩

theorem held_order {r : Request} (hr : ReqOk r) : ∀ (ts : List Nat) (k : Nat) (x y : Nat → Int) (a : Nat), k + ts.length = r.Pieces.length → Path r keepX (behindA r) k x a ts → (∀ i, a ≤ i → y i = x i) → HeldAt r y (bitesOf k ts)
  | [], _, _, _, _, _, _, _ => trivial
  | t :: ts, k, x, y, a, hl, ⟨h1, h2⟩, hy => by
    obtain ⟨h3, h4, h5⟩ := pieceT_in h1
    simp only [List.length_cons] at hl
    refine ⟨⟨Int.natCast_nonneg _, by show (k : Int) < _; omega, Int.natCast_nonneg _⟩, ⟨h5.1, fun i k1 k2 => by rw [hy i (by show a ≤ i; simp at k1; omega)]; exact h5.2 i k1 k2⟩, ?_⟩
    refine held_order hr ts (k + 1) x _ _ (by omega) h2 (fun i hi => ?_)
    unfold behindA at hi
    show y i + hillT t (t + (pL r k).toNat) (-(pN r k)) i = x i
    rw [hillT_out (by omega), hy i (by omega)]; omega

theorem held_tight {r : Request} {x : Nat → Int} {s : Nat} : ∀ (m k : Nat) (y : Nat → Int), k + m = r.Pieces.length → TightAt x r s → (∀ i, startT r s k ≤ i → y i = x i) → HeldAt r y (bitesOf k ((List.range' k m).map (startT r s)))
  | 0, _, _, _, _, _ => trivial
  | m + 1, k, y, hl, ht, hy => by
    have h5 := ht k (by omega)
    refine ⟨⟨Int.natCast_nonneg _, by show (k : Int) < _; omega, Int.natCast_nonneg _⟩, ⟨h5.1, fun i k1 k2 => by rw [hy i k1]; exact h5.2 i k1 k2⟩, ?_⟩
    refine held_tight m (k + 1) _ (by omega) ht (fun i hi => ?_)
    rw [startT_next] at hi
    show y i + hillT (startT r s k) (startT r s k + (pL r k).toNat) (-(pN r k)) i = x i
    rw [hillT_out (by omega), hy i (by omega)]; omega

theorem bitesOf_row (r : Request) (s : Nat) : ∀ (m k : Nat), bitesOf k ((List.range' k m).map (startT r s)) = (List.range' k m).map fun (i : Nat) => (⟨(i : Int), (startT r s i : Int)⟩ : Bite)
  | 0, _ => rfl
  | m + 1, k => by
    rw [List.range'_succ, List.map_cons, List.map_cons, bitesOf, bitesOf_row r s m (k + 1)]

/-- there is room for what is found -/
theorem found_held {r : Request} {f : List Run} (hf : Fine f) (hr : ReqOk r) (h : placeL (sp f) r ≠ []) : heldGo r f (placeL (sp f) r) = true := by
  refine held_of hr _ f (sp f) hf (fun _ _ => rfl) ?_
  obtain ⟨k1, k2⟩ := hr.kind
  rcases (by omega : r.Kind = 1 ∨ r.Kind = 2 ∨ r.Kind = 3 ∨ r.Kind = 4) with hk | hk | hk | hk
  · rw [placeL_all hk] at h ⊢
    rcases eachGo_path (r := r) (nx := takeX r) (na := fromA r) r.Pieces.length 0 (sp f) r.From.toNat [] with h1 | ⟨ts, h1, h2, h3⟩
    · exact absurd h1 h
    · rw [h3, List.nil_append]; exact held_all ts 0 _ _ (by omega) h2
  · rw [placeL_any hk] at h ⊢
    rcases anyGo_at (x := sp f) (r := r) r.Pieces.length 0 with ⟨h1, _⟩ | ⟨j, t, h1, h2, h3, h4, _⟩
    · exact absurd h1 h
    · rw [h4]
      exact ⟨⟨Int.natCast_nonneg _, by show (j : Int) < _; omega, Int.natCast_nonneg _⟩, (pieceT_in h3).2.2, trivial⟩
  · rw [placeL_order hk] at h ⊢
    rcases eachGo_path (r := r) (nx := keepX) (na := behindA r) r.Pieces.length 0 (sp f) r.From.toNat [] with h1 | ⟨ts, h1, h2, h3⟩
    · exact absurd h1 h
    · rw [h3, List.nil_append]; exact held_order hr ts 0 _ _ _ (by omega) h2 (fun _ _ => rfl)
  · rw [placeL_tight hk] at h ⊢
    rcases tightGo_at (x := sp f) (r := r) (r.Until.toNat - r.From.toNat) r.From.toNat with h1 | ⟨s, h1, h2, h3, h4, _⟩
    · exact absurd h1 h
    · rw [h4]
      have := held_tight (r := r) (x := sp f) (s := s) r.Pieces.length 0 (sp f) (by omega) h3 (fun _ _ => rfl)
      rw [bitesOf_row, ← List.range_eq_range'] at this
      exact this

end Go.Proofs.Ytfbcmifclaaacaa
