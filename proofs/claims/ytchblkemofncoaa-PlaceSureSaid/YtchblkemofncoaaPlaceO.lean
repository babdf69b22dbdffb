/- Places, plainly: where there is a place one is found, and none that is over sooner; no program in sight. -/
import Derived.Test.YtchblkemofncoaaPlaceN
import Derived.Test.YtchblkemofncoaaReqE
set_option linter.unusedVariables false
namespace Go.Proofs.Ytchblkemofncoaa

/-- a bump that goes well -/
theorem bump_ok {f g : List Run} {a b n : Int} (h : bumpR f a b n = (g, 0)) : Fine f ∧ (0 ≤ a ∧ a < b ∧ b ≤ 48) ∧ Fine g ∧ ∀ i, i < 48 → sp g i = sp f i + hillT a.toNat b.toNat n i := by
  unfold bumpR at h
  split at h
  · rename_i hf
    split at h
    · rename_i hr
      unfold toldT at h
      split at h
      · rename_i hn
        have e : fold (fun t => sp f t + hillT a.toNat b.toNat n t) = g := (Prod.mk.inj h).1
        subst e
        exact ⟨hf, hr.1, fine_fold hn, fun i hi => sp_fold hi⟩
      · exact absurd (Prod.mk.inj h).2 (by decide)
    · exact absurd (Prod.mk.inj h).2 (by decide)
  · exact absurd (Prod.mk.inj h).2 (by decide)
theorem least_ok {g : List Run} {a b low : Int} (hg : Fine g) (hr : 0 ≤ a ∧ a < b ∧ b ≤ 48) (h : leastR g a b = (low, 0)) : low = lowT (sp g) a.toNat b.toNat := by
  unfold leastR at h
  rw [if_pos hg, if_pos hr] at h
  exact (Prod.mk.inj h).1.symm

/-- what is held has room -/
theorem held_room {r : Request} : ∀ (b : List Bite) (f : List Run) (y : Nat → Int), (∀ i, i < 48 → sp f i ≤ y i) → heldGo r f b = true → (∀ x ∈ b, 1 ≤ pN r x.Piece.toNat) →
    ∀ x ∈ b, ∀ i, x.At.toNat ≤ i → i < (x.At + pL r x.Piece.toNat).toNat → pN r x.Piece.toNat ≤ y i
  | [], _, _, _, _, _, x, hx => by cases hx
  | z :: b, f, y, hy, h, hN, x, hx => by
    have hz := hN z (.head _)
    rw [heldGo] at h
    split at h
    · rename_i hc
      obtain ⟨c1, c2, c3⟩ := hc
      obtain ⟨g, hg⟩ : ∃ g, bumpR f z.At (z.At + pL r z.Piece.toNat) (-(pN r z.Piece.toNat)) = (g, 0) := ⟨_, Prod.ext rfl c1⟩
      rw [hg] at c2 c3 h
      obtain ⟨low, hlow⟩ : ∃ low, leastR g z.At (z.At + pL r z.Piece.toNat) = (low, 0) := ⟨_, Prod.ext rfl c2⟩
      obtain ⟨b1, b2, b3, b4⟩ := bump_ok hg
      have hl := least_ok b3 b2 hlow
      simp only [hlow] at c3
      have hle : ∀ i, i < 48 → sp g i ≤ y i := fun i hi => by
        have h1 := hy i hi
        have h2 : hillT z.At.toNat (z.At + pL r z.Piece.toNat).toNat (-(pN r z.Piece.toNat)) i = -(pN r z.Piece.toNat) ∨ hillT z.At.toNat (z.At + pL r z.Piece.toNat).toNat (-(pN r z.Piece.toNat)) i = 0 := by unfold hillT; split <;> simp
        rw [b4 i hi]; omega
      rcases List.mem_cons.1 hx with rfl | hx
      · intro i k1 k2
        rw [hl, le_lowT (by omega)] at c3
        have h3 := c3 i k1 k2
        rw [b4 i (by omega), hillT_in k1 k2] at h3
        have h4 := hy i (by omega)
        omega
      · exact held_room b g y hle h (fun x hx => hN x (.tail _ hx)) x hx
    · cases h

/-- each bite of a place has room in what is told -/
theorem held_hasT {r : Request} {f : List Run} {b : List Bite} (hm : meetsR r b = true) (hh : heldGo r f b = true) : ∀ k, k < b.length → HasT (sp f) (bA b k).toNat r.Until.toNat (pL r (bP b k).toNat).toNat (pN r (bP b k).toNat) ∧ r.From.toNat ≤ (bA b k).toNat ∧ (bA b k).toNat < r.Until.toNat ∧ 0 ≤ bA b k := by
  have hm' := hm
  rw [meetsR_iff] at hm
  obtain ⟨h1, h2, h3⟩ := hm
  obtain ⟨⟨q1, q2, q3⟩, q4⟩ := req_range h1
  have hlow := step_low h2
  intro k hk
  obtain ⟨x, hx⟩ := getA (f := b) (k := k) hk
  obtain ⟨e1, e2⟩ := bite_at hx
  have s := h2 k hk
  have s1 := s.is
  have s2 := s.from_
  have s3 := s.until_
  have s4 := s.fits
  have s5 := hlow k hk
  obtain ⟨⟨p1, p2⟩, p3, p4⟩ := q4 (bP b k).toNat (by omega)
  have hN : ∀ z ∈ b, 1 ≤ pN r z.Piece.toNat := fun z hz => by
    obtain ⟨j, hj, rfl⟩ := List.mem_iff_getElem.1 hz
    have e3 := (bite_at (List.getElem?_eq_getElem hj)).1
    have s6 := (h2 j hj).is
    have s7 := hlow j hj
    rw [← e3]
    exact (q4 (bP b j).toNat (by omega)).2.1
  have h5 := held_room b f (sp f) (fun _ _ => Int.le_refl _) hh hN x (List.mem_of_getElem? hx)
  rw [← e1, ← e2] at h5
  refine ⟨⟨by omega, fun i k1 k2 => h5 i k1 (by omega)⟩, by omega, by omega, by omega⟩

theorem bP_id {r : Request} {b : List Bite} (hm : meetsR r b = true) (hk : r.Kind ≠ 2) : b.length = r.Pieces.length ∧ ∀ k, k < b.length → bP b k = k := by
  rw [meetsR_iff] at hm
  obtain ⟨h1, h2, h3⟩ := hm
  unfold CountOk at h3
  rw [if_neg hk] at h3
  refine ⟨h3, inc_id (step_low h2) (fun k h0 hk => ?_) (fun k hk => by have := (h2 k hk).is; omega)⟩
  have := (h2 k hk).up
  unfold lastP at this
  rw [if_neg (by omega)] at this
  exact this

theorem firstT_le {x : Nat → Int} {a u s t : Nat} {n : Int} (h : HasT x t u s n) (h1 : a ≤ t) (h2 : t < u) : ∃ q, firstT x a u s n = some q ∧ q ≤ t := by
  have := firstT_is x a u s n
  cases hq : firstT x a u s n with
  | none => rw [hq] at this; exact absurd h (this t h1 h2)
  | some q =>
    rw [hq] at this
    refine ⟨q, rfl, ?_⟩
    apply Classical.byContradiction
    intro hc
    exact this.2.2.2 t h1 (by omega) h

theorem maxTo_mono {x y : Nat → Int} : ∀ {n}, (∀ k, k ≤ n → x k ≤ y k) → maxTo x n ≤ maxTo y n
  | 0, h => h 0 (Nat.le_refl _)
  | n + 1, h => by
    have h1 := maxTo_mono (x := x) (y := y) (n := n) (fun k hk => h k (by omega))
    have h2 := h (n + 1) (Nat.le_refl _)
    simp only [maxTo]; omega

/-- the greedy path, ahead of another -/
theorem order_path {r : Request} {x : Nat → Int} {q : Nat → Nat} : ∀ (m k a : Nat), (∀ j, k ≤ j → j < k + m → HasT x (q j) r.Until.toNat (pL r j).toNat (pN r j) ∧ q j < r.Until.toNat) → (∀ j, k ≤ j → j + 1 < k + m → q j + (pL r j).toNat ≤ q (j + 1)) → (0 < m → a ≤ q k) →
    ∃ ts, ts.length = m ∧ Path r keepX (behindA r) k x a ts ∧ ∀ j, j < m → ts.getD j 0 ≤ q (k + j)
  | 0, k, a, _, _, _ => ⟨[], rfl, trivial, fun j hj => by omega⟩
  | m + 1, k, a, h1, h2, h3 => by
    obtain ⟨g1, g2⟩ := h1 k (by omega) (by omega)
    obtain ⟨t, ht, hle⟩ := firstT_le g1 (h3 (by omega)) g2
    obtain ⟨ts, e1, e2, e3⟩ := order_path (r := r) (x := x) (q := q) m (k + 1) (behindA r k t) (fun j k1 k2 => h1 j (by omega) (by omega)) (fun j k1 k2 => h2 j (by omega) (by omega)) (fun hm => by
      have := h2 k (by omega) (by omega)
      unfold behindA; omega)
    refine ⟨t :: ts, by simp [e1], ⟨ht, e2⟩, fun j hj => ?_⟩
    cases j with
    | zero => simpa using hle
    | succ j => have := e3 j (by omega); rw [show k + (j + 1) = k + 1 + j by omega]; simpa using this

theorem startT_mono {r : Request} {s t : Nat} (h : s ≤ t) : ∀ k, startT r s k ≤ startT r t k
  | 0 => h
  | k + 1 => by have := startT_mono (r := r) h k; rw [startT_next, startT_next]; omega

/-- where there is a place one is found, and none that is over sooner -/
theorem place_sure {r : Request} {f : List Run} {b : List Bite} (hr : ReqOk r) (hk1 : r.Kind ≠ 1) (hm : meetsR r b = true) (hh : heldGo r f b = true) :
    placeL (sp f) r ≠ [] ∧ (r.Kind = 2 → ∃ j t : Nat, ∃ p q : Int, placeL (sp f) r = [⟨(j : Int), (t : Int)⟩] ∧ b = [⟨p, q⟩] ∧ ((j : Int) < p ∨ (j : Int) = p ∧ (t : Int) ≤ q) ∧ j ≤ 3 ∧ t ≤ 48) ∧
    (r.Kind ≠ 2 → ∃ n m, overR r (placeL (sp f) r) = (n, 0) ∧ overR r b = (m, 0) ∧ n ≤ m) := by
  obtain ⟨⟨q1, q2, q3⟩, q4⟩ := req_range hr
  obtain ⟨m1, m3⟩ := hr.many
  obtain ⟨k1, k2⟩ := hr.kind
  have hH := held_hasT hm hh
  have hm' := hm
  rw [meetsR_iff] at hm'
  obtain ⟨_, hS, hC⟩ := hm'
  have hlow := step_low hS
  have hIn : ∀ k, k < b.length → BiteIn r b k := fun k hk => ⟨hlow k hk, (hS k hk).is, by have := (hS k hk).from_; omega, by have := (hS k hk).until_; omega⟩
  rcases (by omega : r.Kind = 2 ∨ r.Kind = 3 ∨ r.Kind = 4) with hk | hk | hk
  · unfold CountOk at hC
    rw [if_pos hk] at hC
    obtain ⟨z, hz⟩ : ∃ z, b = [z] := List.length_eq_one_iff.1 hC
    subst hz
    obtain ⟨h1, h2, h3, h4⟩ := hH 0 (by simp)
    have e1 : bP [z] 0 = z.Piece := rfl
    have e2 : bA [z] 0 = z.At := rfl
    rw [e1, e2] at h1
    rw [e2] at h2 h3 h4
    have g1 := (hS 0 (by simp)).is
    have g2 := hlow 0 (by simp)
    rw [e1] at g1 g2
    obtain ⟨t', ht', hle⟩ := firstT_le h1 h2 h3
    have hp : pieceT (sp f) r r.From.toNat z.Piece.toNat = some t' := ht'
    rw [placeL_any hk]
    rcases anyGo_at (x := sp f) (r := r) r.Pieces.length 0 with ⟨c1, c2⟩ | ⟨j, t, c1, c2, c3, c4, c5⟩
    · have := c2 z.Piece.toNat (by omega) (by omega); rw [hp] at this; cases this
    · refine ⟨by rw [c4]; simp, fun _ => ⟨j, t, z.Piece, z.At, c4, rfl, ?_, by omega, by have := (pieceT_in c3).2.1; omega⟩, fun h => absurd hk h⟩
      rcases Nat.lt_trichotomy j z.Piece.toNat with h | h | h
      · exact .inl (by omega)
      · right
        rw [h, hp] at c3
        have := Option.some.inj c3
        exact ⟨by omega, by omega⟩
      · have := c5 z.Piece.toNat (by omega) h; rw [hp] at this; cases this
  · obtain ⟨hl, hid⟩ := bP_id hm (by omega)
    obtain ⟨ts, e1, e2, e3⟩ := order_path (r := r) (x := sp f) (q := fun j => (bA b j).toNat) r.Pieces.length 0 r.From.toNat (fun j _ hj => by
        obtain ⟨g1, g2, g3, g4⟩ := hH j (by omega)
        rw [hid j (by omega), Int.toNat_natCast] at g1
        exact ⟨g1, g3⟩) (fun j _ hj => by
        have g := (hS (j + 1) (by omega)).order (by omega) hk
        unfold endA at g
        rw [if_neg (by omega), Nat.add_sub_cancel, hid j (by omega), Int.toNat_natCast] at g
        obtain ⟨⟨p1, _⟩, _⟩ := q4 j (by omega)
        have := (hH j (by omega)).2.2.2
        show (bA b j).toNat + (pL r j).toNat ≤ (bA b (j + 1)).toNat
        omega) (fun _ => (hH 0 (by omega)).2.1)
    have hP := path_eachGo ts 0 (sp f) r.From.toNat [] e2
    rw [e1, List.nil_append] at hP
    rw [placeL_order hk, hP]
    have hne : bitesOf 0 ts ≠ [] := fun h => by have := congrArg List.length h; rw [bitesOf_len, List.length_nil] at this; omega
    have hmf := found_meets (x := sp f) hr (by rw [placeL_order hk, hP]; exact hne)
    rw [placeL_order hk, hP, meetsR_iff] at hmf
    have hlow2 := step_low hmf.2.1
    have hIn2 : ∀ k, k < (bitesOf 0 ts).length → BiteIn r (bitesOf 0 ts) k := fun k hk => ⟨hlow2 k hk, (hmf.2.1 k hk).is, by have := (hmf.2.1 k hk).from_; omega, by have := (hmf.2.1 k hk).until_; omega⟩
    refine ⟨hne, fun h => by omega, fun _ => ⟨_, _, overR_yes hr (by rw [bitesOf_len]; omega) hIn2, overR_yes hr (by omega) hIn, ?_⟩⟩
    rw [bitesOf_len, e1, hl]
    refine maxTo_mono (fun k hk => ?_)
    obtain ⟨a1, a2⟩ := bP_of (ts := ts) (j := k) (by omega)
    unfold overA
    rw [a1, a2, hid k (by omega)]
    have := e3 k (by omega)
    rw [Nat.zero_add] at this
    have := (hH k (by omega)).2.2.2
    omega
  · obtain ⟨hl, hid⟩ := bP_id hm (by omega)
    have hst : ∀ k, k < b.length → bA b k = (startT r (bA b 0).toNat k : Nat) := by
      intro k
      induction k with
      | zero => intro h0; have := (hH 0 h0).2.2.2; show bA b 0 = ((bA b 0).toNat : Nat); omega
      | succ k ih =>
        intro hk'
        have g := (hS (k + 1) hk').tight (by omega) hk
        unfold endA at g
        rw [if_neg (by omega), Nat.add_sub_cancel, hid k (by omega), Int.toNat_natCast, ih (by omega)] at g
        obtain ⟨⟨p1, _⟩, _⟩ := q4 k (by omega)
        rw [g, startT_next]; omega
    have hT : TightAt (sp f) r (bA b 0).toNat := fun k hk' => by
      have g := (hH k (by omega)).1
      rw [hid k (by omega), Int.toNat_natCast, hst k (by omega), Int.toNat_natCast] at g
      exact g
    obtain ⟨_, g2, g3, g4⟩ := hH 0 (by omega)
    rw [placeL_tight hk]
    rcases tightGo_at (x := sp f) (r := r) (r.Until.toNat - r.From.toNat) r.From.toNat with h1 | ⟨s, h1, h2, h3, h4, h5⟩
    · exfalso
      have := tightGo_skip (x := sp f) (r := r) (d := (bA b 0).toNat - r.From.toNat) (m := r.Until.toNat - r.From.toNat) (t := r.From.toNat)
      have hsome : ∀ (m t : Nat), tightGo (sp f) r m t = [] → ∀ q, t ≤ q → q < t + m → ¬ TightAt (sp f) r q := by
        intro m
        induction m with
        | zero => intro t _ q k1 k2; omega
        | succ m ih =>
          intro t h q k1 k2
          rw [tightGo] at h
          by_cases hh : TightAt (sp f) r t
          · rw [if_pos hh] at h
            have := congrArg List.length h
            rw [rowB_len, List.length_nil] at this; omega
          · rw [if_neg hh] at h
            by_cases e : q = t
            · subst e; exact hh
            · exact ih (t + 1) h q (by omega) (by omega)
      exact hsome _ _ h1 (bA b 0).toNat g2 (by omega) hT
    · have hs0 : s ≤ (bA b 0).toNat := by
        apply Classical.byContradiction
        intro hc
        exact h5 (bA b 0).toNat g2 (by omega) hT
      rw [h4]
      have hne : rowB r s r.Pieces.length ≠ [] := fun h => by have := congrArg List.length h; rw [rowB_len, List.length_nil] at this; omega
      have hmf := found_meets (x := sp f) hr (by rw [placeL_tight hk, h4]; exact hne)
      rw [placeL_tight hk, h4, meetsR_iff] at hmf
      have hlow2 := step_low hmf.2.1
      have hIn2 : ∀ k, k < (rowB r s r.Pieces.length).length → BiteIn r (rowB r s r.Pieces.length) k := fun k hk => ⟨hlow2 k hk, (hmf.2.1 k hk).is, by have := (hmf.2.1 k hk).from_; omega, by have := (hmf.2.1 k hk).until_; omega⟩
      refine ⟨hne, fun h => by omega, fun _ => ⟨_, _, overR_yes hr (by rw [rowB_len]; omega) hIn2, overR_yes hr (by omega) hIn, ?_⟩⟩
      rw [rowB_len, hl]
      refine maxTo_mono (fun k hk' => ?_)
      obtain ⟨a1, a2⟩ := rowB_get (r := r) (t := s) (n := r.Pieces.length) (j := k) (by omega)
      unfold overA
      rw [a1, a2, hid k (by omega), hst k (by omega)]
      have := startT_mono (r := r) hs0 k
      omega

end Go.Proofs.Ytchblkemofncoaa
