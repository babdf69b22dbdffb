/- held; right states -/
import Derived.Test.YtfbcmifclaaacaaPlaceN
import Derived.Test.YtfbcmifclaaacaaReqE
import Derived.Test.YtfbcmifclaaacaaReqC
import Derived.Deep.RegionHeld3
import Derived.Test.YtfbcmifclaaacaaRegion
import Derived.Test.YtfbcmifclaaacaaBook

/- held; the laws of a found place -/

/- Places, plainly: where there is a place one is found, and none that is over sooner; no program in sight. -/
set_option linter.unusedVariables false
namespace Go.Proofs.Ytfbcmifclaaacaa

/-- a bump that goes well -/
theorem bump_ok {f g : List Run} {a b n : Int} (h : bumpR f a b n = (g, 0)) : Fine f ∧ (0 ≤ a ∧ a < b ∧ b ≤ 48) ∧ Fine g ∧ ∀ i, i < 48 → sp g i = sp f i + hillT a.toNat b.toNat n i := by
  unfold bumpR at h
  split at h
  · rename_i hf
    split at h
    · rename_i hr
      unfold toldT at h
      split at h
      · rename_i hn
        have e : fold (fun t => sp f t + hillT a.toNat b.toNat n t) = g := (Prod.mk.inj h).1
        subst e
        exact ⟨hf, hr.1, fine_fold hn, fun i hi => sp_fold hi⟩
      · exact absurd (Prod.mk.inj h).2 (by decide)
    · exact absurd (Prod.mk.inj h).2 (by decide)
  · exact absurd (Prod.mk.inj h).2 (by decide)
theorem least_ok {g : List Run} {a b low : Int} (hg : Fine g) (hr : 0 ≤ a ∧ a < b ∧ b ≤ 48) (h : leastR g a b = (low, 0)) : low = lowT (sp g) a.toNat b.toNat := by
  unfold leastR at h
  rw [if_pos hg, if_pos hr] at h
  exact (Prod.mk.inj h).1.symm

/-- what is held has room -/
theorem held_room {r : Request} : ∀ (b : List Bite) (f : List Run) (y : Nat → Int), (∀ i, i < 48 → sp f i ≤ y i) → heldGo r f b = true → (∀ x ∈ b, 1 ≤ pN r x.Piece.toNat) →
    ∀ x ∈ b, ∀ i, x.At.toNat ≤ i → i < (x.At + pL r x.Piece.toNat).toNat → pN r x.Piece.toNat ≤ y i
  | [], _, _, _, _, _, x, hx => by cases hx
  | z :: b, f, y, hy, h, hN, x, hx => by
    have hz := hN z (.head _)
    rw [heldGo] at h
    split at h
    · rename_i hc
      obtain ⟨c1, c2, c3⟩ := hc
      obtain ⟨g, hg⟩ : ∃ g, bumpR f z.At (z.At + pL r z.Piece.toNat) (-(pN r z.Piece.toNat)) = (g, 0) := ⟨_, Prod.ext rfl c1⟩
      rw [hg] at c2 c3 h
      obtain ⟨low, hlow⟩ : ∃ low, leastR g z.At (z.At + pL r z.Piece.toNat) = (low, 0) := ⟨_, Prod.ext rfl c2⟩
      obtain ⟨b1, b2, b3, b4⟩ := bump_ok hg
      have hl := least_ok b3 b2 hlow
      simp only [hlow] at c3
      have hle : ∀ i, i < 48 → sp g i ≤ y i := fun i hi => by
        have h1 := hy i hi
        have h2 : hillT z.At.toNat (z.At + pL r z.Piece.toNat).toNat (-(pN r z.Piece.toNat)) i = -(pN r z.Piece.toNat) ∨ hillT z.At.toNat (z.At + pL r z.Piece.toNat).toNat (-(pN r z.Piece.toNat)) i = 0 := by unfold hillT; split <;> simp
        rw [b4 i hi]; omega
      rcases List.mem_cons.1 hx with rfl | hx
      · intro i k1 k2
        rw [hl, le_lowT (by omega)] at c3
        have h3 := c3 i k1 k2
        rw [b4 i (by omega), hillT_in k1 k2] at h3
        have h4 := hy i (by omega)
        omega
      · exact held_room b g y hle h (fun x hx => hN x (.tail _ hx)) x hx
    · cases h

/-- each bite of a place has room in what is told -/
theorem held_hasT {r : Request} {f : List Run} {b : List Bite} (hm : meetsR r b = true) (hh : heldGo r f b = true) : ∀ k, k < b.length → HasT (sp f) (bA b k).toNat r.Until.toNat (pL r (bP b k).toNat).toNat (pN r (bP b k).toNat) ∧ r.From.toNat ≤ (bA b k).toNat ∧ (bA b k).toNat < r.Until.toNat ∧ 0 ≤ bA b k := by
  have hm' := hm
  rw [meetsR_iff] at hm
  obtain ⟨h1, h2, h3⟩ := hm
  obtain ⟨⟨q1, q2, q3⟩, q4⟩ := req_range h1
  have hlow := step_low h2
  intro k hk
  obtain ⟨x, hx⟩ := getA (f := b) (k := k) hk
  obtain ⟨e1, e2⟩ := bite_at hx
  have s := h2 k hk
  have s1 := s.is
  have s2 := s.from_
  have s3 := s.until_
  have s4 := s.fits
  have s5 := hlow k hk
  obtain ⟨⟨p1, p2⟩, p3, p4⟩ := q4 (bP b k).toNat (by omega)
  have hN : ∀ z ∈ b, 1 ≤ pN r z.Piece.toNat := fun z hz => by
    obtain ⟨j, hj, rfl⟩ := List.mem_iff_getElem.1 hz
    have e3 := (bite_at (List.getElem?_eq_getElem hj)).1
    have s6 := (h2 j hj).is
    have s7 := hlow j hj
    rw [← e3]
    exact (q4 (bP b j).toNat (by omega)).2.1
  have h5 := held_room b f (sp f) (fun _ _ => Int.le_refl _) hh hN x (List.mem_of_getElem? hx)
  rw [← e1, ← e2] at h5
  refine ⟨⟨by omega, fun i k1 k2 => h5 i k1 (by omega)⟩, by omega, by omega, by omega⟩

theorem bP_id {r : Request} {b : List Bite} (hm : meetsR r b = true) (hk : r.Kind ≠ 2) : b.length = r.Pieces.length ∧ ∀ k, k < b.length → bP b k = k := by
  rw [meetsR_iff] at hm
  obtain ⟨h1, h2, h3⟩ := hm
  unfold CountOk at h3
  rw [if_neg hk] at h3
  refine ⟨h3, inc_id (step_low h2) (fun k h0 hk => ?_) (fun k hk => by have := (h2 k hk).is; omega)⟩
  have := (h2 k hk).up
  unfold lastP at this
  rw [if_neg (by omega)] at this
  exact this

theorem firstT_le {x : Nat → Int} {a u s t : Nat} {n : Int} (h : HasT x t u s n) (h1 : a ≤ t) (h2 : t < u) : ∃ q, firstT x a u s n = some q ∧ q ≤ t := by
  have := firstT_is x a u s n
  cases hq : firstT x a u s n with
  | none => rw [hq] at this; exact absurd h (this t h1 h2)
  | some q =>
    rw [hq] at this
    refine ⟨q, rfl, ?_⟩
    apply Classical.byContradiction
    intro hc
    exact this.2.2.2 t h1 (by omega) h

theorem maxTo_mono {x y : Nat → Int} : ∀ {n}, (∀ k, k ≤ n → x k ≤ y k) → maxTo x n ≤ maxTo y n
  | 0, h => h 0 (Nat.le_refl _)
  | n + 1, h => by
    have h1 := maxTo_mono (x := x) (y := y) (n := n) (fun k hk => h k (by omega))
    have h2 := h (n + 1) (Nat.le_refl _)
    simp only [maxTo]; omega

/-- the greedy path, ahead of another -/
theorem order_path {r : Request} {x : Nat → Int} {q : Nat → Nat} : ∀ (m k a : Nat), (∀ j, k ≤ j → j < k + m → HasT x (q j) r.Until.toNat (pL r j).toNat (pN r j) ∧ q j < r.Until.toNat) → (∀ j, k ≤ j → j + 1 < k + m → q j + (pL r j).toNat ≤ q (j + 1)) → (0 < m → a ≤ q k) →
    ∃ ts, ts.length = m ∧ Path r keepX (behindA r) k x a ts ∧ ∀ j, j < m → ts.getD j 0 ≤ q (k + j)
  | 0, k, a, _, _, _ => ⟨[], rfl, trivial, fun j hj => by omega⟩
  | m + 1, k, a, h1, h2, h3 => by
    obtain ⟨g1, g2⟩ := h1 k (by omega) (by omega)
    obtain ⟨t, ht, hle⟩ := firstT_le g1 (h3 (by omega)) g2
    obtain ⟨ts, e1, e2, e3⟩ := order_path (r := r) (x := x) (q := q) m (k + 1) (behindA r k t) (fun j k1 k2 => h1 j (by omega) (by omega)) (fun j k1 k2 => h2 j (by omega) (by omega)) (fun hm => by
      have := h2 k (by omega) (by omega)
      unfold behindA; omega)
    refine ⟨t :: ts, by simp [e1], ⟨ht, e2⟩, fun j hj => ?_⟩
    cases j with
    | zero => simpa using hle
    | succ j => have := e3 j (by omega); rw [show k + (j + 1) = k + 1 + j by omega]; simpa using this

theorem startT_mono {r : Request} {s t : Nat} (h : s ≤ t) : ∀ k, startT r s k ≤ startT r t k
  | 0 => h
  | k + 1 => by have := startT_mono (r := r) h k; rw [startT_next, startT_next]; omega

/-- where there is a place one is found, and none that is over sooner -/
theorem place_sure {r : Request} {f : List Run} {b : List Bite} (hr : ReqOk r) (hk1 : r.Kind ≠ 1) (hm : meetsR r b = true) (hh : heldGo r f b = true) :
    placeL (sp f) r ≠ [] ∧ (r.Kind = 2 → ∃ j t : Nat, ∃ p q : Int, placeL (sp f) r = [⟨(j : Int), (t : Int)⟩] ∧ b = [⟨p, q⟩] ∧ ((j : Int) < p ∨ (j : Int) = p ∧ (t : Int) ≤ q) ∧ j ≤ 3 ∧ t ≤ 48) ∧
    (r.Kind ≠ 2 → ∃ n m, overR r (placeL (sp f) r) = (n, 0) ∧ overR r b = (m, 0) ∧ n ≤ m) := by
  obtain ⟨⟨q1, q2, q3⟩, q4⟩ := req_range hr
  obtain ⟨m1, m3⟩ := hr.many
  obtain ⟨k1, k2⟩ := hr.kind
  have hH := held_hasT hm hh
  have hm' := hm
  rw [meetsR_iff] at hm'
  obtain ⟨_, hS, hC⟩ := hm'
  have hlow := step_low hS
  have hIn : ∀ k, k < b.length → BiteIn r b k := fun k hk => ⟨hlow k hk, (hS k hk).is, by have := (hS k hk).from_; omega, by have := (hS k hk).until_; omega⟩
  rcases (by omega : r.Kind = 2 ∨ r.Kind = 3 ∨ r.Kind = 4) with hk | hk | hk
  · unfold CountOk at hC
    rw [if_pos hk] at hC
    obtain ⟨z, hz⟩ : ∃ z, b = [z] := List.length_eq_one_iff.1 hC
    subst hz
    obtain ⟨h1, h2, h3, h4⟩ := hH 0 (by simp)
    have e1 : bP [z] 0 = z.Piece := rfl
    have e2 : bA [z] 0 = z.At := rfl
    rw [e1, e2] at h1
    rw [e2] at h2 h3 h4
    have g1 := (hS 0 (by simp)).is
    have g2 := hlow 0 (by simp)
    rw [e1] at g1 g2
    obtain ⟨t', ht', hle⟩ := firstT_le h1 h2 h3
    have hp : pieceT (sp f) r r.From.toNat z.Piece.toNat = some t' := ht'
    rw [placeL_any hk]
    rcases anyGo_at (x := sp f) (r := r) r.Pieces.length 0 with ⟨c1, c2⟩ | ⟨j, t, c1, c2, c3, c4, c5⟩
    · have := c2 z.Piece.toNat (by omega) (by omega); rw [hp] at this; cases this
    · refine ⟨by rw [c4]; simp, fun _ => ⟨j, t, z.Piece, z.At, c4, rfl, ?_, by omega, by have := (pieceT_in c3).2.1; omega⟩, fun h => absurd hk h⟩
      rcases Nat.lt_trichotomy j z.Piece.toNat with h | h | h
      · exact .inl (by omega)
      · right
        rw [h, hp] at c3
        have := Option.some.inj c3
        exact ⟨by omega, by omega⟩
      · have := c5 z.Piece.toNat (by omega) h; rw [hp] at this; cases this
  · obtain ⟨hl, hid⟩ := bP_id hm (by omega)
    obtain ⟨ts, e1, e2, e3⟩ := order_path (r := r) (x := sp f) (q := fun j => (bA b j).toNat) r.Pieces.length 0 r.From.toNat (fun j _ hj => by
        obtain ⟨g1, g2, g3, g4⟩ := hH j (by omega)
        rw [hid j (by omega), Int.toNat_natCast] at g1
        exact ⟨g1, g3⟩) (fun j _ hj => by
        have g := (hS (j + 1) (by omega)).order (by omega) hk
        unfold endA at g
        rw [if_neg (by omega), Nat.add_sub_cancel, hid j (by omega), Int.toNat_natCast] at g
        obtain ⟨⟨p1, _⟩, _⟩ := q4 j (by omega)
        have := (hH j (by omega)).2.2.2
        show (bA b j).toNat + (pL r j).toNat ≤ (bA b (j + 1)).toNat
        omega) (fun _ => (hH 0 (by omega)).2.1)
    have hP := path_eachGo ts 0 (sp f) r.From.toNat [] e2
    rw [e1, List.nil_append] at hP
    rw [placeL_order hk, hP]
    have hne : bitesOf 0 ts ≠ [] := fun h => by have := congrArg List.length h; rw [bitesOf_len, List.length_nil] at this; omega
    have hmf := found_meets (x := sp f) hr (by rw [placeL_order hk, hP]; exact hne)
    rw [placeL_order hk, hP, meetsR_iff] at hmf
    have hlow2 := step_low hmf.2.1
    have hIn2 : ∀ k, k < (bitesOf 0 ts).length → BiteIn r (bitesOf 0 ts) k := fun k hk => ⟨hlow2 k hk, (hmf.2.1 k hk).is, by have := (hmf.2.1 k hk).from_; omega, by have := (hmf.2.1 k hk).until_; omega⟩
    refine ⟨hne, fun h => by omega, fun _ => ⟨_, _, overR_yes hr (by rw [bitesOf_len]; omega) hIn2, overR_yes hr (by omega) hIn, ?_⟩⟩
    rw [bitesOf_len, e1, hl]
    refine maxTo_mono (fun k hk => ?_)
    obtain ⟨a1, a2⟩ := bP_of (ts := ts) (j := k) (by omega)
    unfold overA
    rw [a1, a2, hid k (by omega)]
    have := e3 k (by omega)
    rw [Nat.zero_add] at this
    have := (hH k (by omega)).2.2.2
    omega
  · obtain ⟨hl, hid⟩ := bP_id hm (by omega)
    have hst : ∀ k, k < b.length → bA b k = (startT r (bA b 0).toNat k : Nat) := by
      intro k
      induction k with
      | zero => intro h0; have := (hH 0 h0).2.2.2; show bA b 0 = ((bA b 0).toNat : Nat); omega
      | succ k ih =>
        intro hk'
        have g := (hS (k + 1) hk').tight (by omega) hk
        unfold endA at g
        rw [if_neg (by omega), Nat.add_sub_cancel, hid k (by omega), Int.toNat_natCast, ih (by omega)] at g
        obtain ⟨⟨p1, _⟩, _⟩ := q4 k (by omega)
        rw [g, startT_next]; omega
    have hT : TightAt (sp f) r (bA b 0).toNat := fun k hk' => by
      have g := (hH k (by omega)).1
      rw [hid k (by omega), Int.toNat_natCast, hst k (by omega), Int.toNat_natCast] at g
      exact g
    obtain ⟨_, g2, g3, g4⟩ := hH 0 (by omega)
    rw [placeL_tight hk]
    rcases tightGo_at (x := sp f) (r := r) (r.Until.toNat - r.From.toNat) r.From.toNat with h1 | ⟨s, h1, h2, h3, h4, h5⟩
    · exfalso
      have := tightGo_skip (x := sp f) (r := r) (d := (bA b 0).toNat - r.From.toNat) (m := r.Until.toNat - r.From.toNat) (t := r.From.toNat)
      have hsome : ∀ (m t : Nat), tightGo (sp f) r m t = [] → ∀ q, t ≤ q → q < t + m → ¬ TightAt (sp f) r q := by
        intro m
        induction m with
        | zero => intro t _ q k1 k2; omega
        | succ m ih =>
          intro t h q k1 k2
          rw [tightGo] at h
          by_cases hh : TightAt (sp f) r t
          · rw [if_pos hh] at h
            have := congrArg List.length h
            rw [rowB_len, List.length_nil] at this; omega
          · rw [if_neg hh] at h
            by_cases e : q = t
            · subst e; exact hh
            · exact ih (t + 1) h q (by omega) (by omega)
      exact hsome _ _ h1 (bA b 0).toNat g2 (by omega) hT
    · have hs0 : s ≤ (bA b 0).toNat := by
        apply Classical.byContradiction
        intro hc
        exact h5 (bA b 0).toNat g2 (by omega) hT
      rw [h4]
      have hne : rowB r s r.Pieces.length ≠ [] := fun h => by have := congrArg List.length h; rw [rowB_len, List.length_nil] at this; omega
      have hmf := found_meets (x := sp f) hr (by rw [placeL_tight hk, h4]; exact hne)
      rw [placeL_tight hk, h4, meetsR_iff] at hmf
      have hlow2 := step_low hmf.2.1
      have hIn2 : ∀ k, k < (rowB r s r.Pieces.length).length → BiteIn r (rowB r s r.Pieces.length) k := fun k hk => ⟨hlow2 k hk, (hmf.2.1 k hk).is, by have := (hmf.2.1 k hk).from_; omega, by have := (hmf.2.1 k hk).until_; omega⟩
      refine ⟨hne, fun h => by omega, fun _ => ⟨_, _, overR_yes hr (by rw [rowB_len]; omega) hIn2, overR_yes hr (by omega) hIn, ?_⟩⟩
      rw [rowB_len, hl]
      refine maxTo_mono (fun k hk' => ?_)
      obtain ⟨a1, a2⟩ := rowB_get (r := r) (t := s) (n := r.Pieces.length) (j := k) (by omega)
      unfold overA
      rw [a1, a2, hid k (by omega), hst k (by omega)]
      have := startT_mono (r := r) hs0 k
      omega

end Go.Proofs.Ytfbcmifclaaacaa

/- Walk of the statements' held. -/
set_option linter.unusedVariables false
namespace Go.Proofs.Ytfbcmifclaaacaa
open Go.RowKit

theorem heldGo_step {r : Request} {f g : List Run} {x : Bite} {b : List Bite} {e low h : Int} (h1 : bumpR f x.At (x.At + pL r x.Piece.toNat) (-(pN r x.Piece.toNat)) = (g, e)) (h2 : leastR g x.At (x.At + pL r x.Piece.toNat) = (low, h)) :
    heldGo r f (x :: b) = if e = 0 ∧ h = 0 ∧ 0 ≤ low then heldGo r g b else false := by
  rw [heldGo, h1]; simp only [h2]

theorem keep4 {w1 w' : World} {a1 a2 a3 a4 : Addr} {a b c d : Value} (hx : Ext w1 w') (b0 : w1.cell? a1 = some a) (b1 : w1.cell? a2 = some b) (b2 : w1.cell? a3 = some c) (b3 : w1.cell? a4 = some d) :
    w'.cell? a1 = some a ∧ w'.cell? a2 = some b ∧ w'.cell? a3 = some c ∧ w'.cell? a4 = some d := by
  have k : ∀ {a : Addr} {v : Value}, w1.cell? a = some v → w'.cell? a = some v := fun {a v} h => by
    rw [hx.cell (World.block_lt_of_cell? w1 a h)]; exact h
  exact ⟨k b0, k b1, k b2, k b3⟩

set_option maxRecDepth 100000 in
set_option maxHeartbeats 8000000 in
theorem held_any (w : World) (v pv bv : Value) (f0 : List Run) (r : Request) (b : List Bite) (hv : RunsV w v f0) (hp : PiecesV w pv r.Pieces) (hb : BitesV w bv b) (hr : ReqOk r) (hin : ∀ k, k < b.length → BiteIn r b k) :
    Calls Try.prog 30 #[v, .agg #[.int .i64 r.Queue, .int .i64 r.From, .int .i64 r.Until, .int .i64 r.Kind, pv], bv] w fun e w' => e = .returned (.bool (heldGo r f0 b)) ∧ Ext w w' := by
  obtain ⟨⟨q1, q2, q3⟩, q4⟩ := req_range hr
  obtain ⟨m1, m3⟩ := hr.many
  obtain ⟨pb, po, pc, rfl, hpc, hpc9, hpb, hpE⟩ := pieces_at hp (by omega)
  have HPE := hid hpE
  have HQ := hid q4
  have HIN := hid hin
  obtain ⟨ba, bc, rfl, hbc, hbc9, hbl, hbE⟩ := bites_at hb
  have HBE := hid hbE
  have HV := hid hv
  have H0 := hid (show ∀ f, heldGo r f [] = true from fun _ => rfl)
  have H1 := hid (fun (f g : List Run) (x : Bite) (b : List Bite) (e low h : Int) h1 h2 => heldGo_step (r := r) (f := f) (g := g) (x := x) (b := b) (e := e) (low := low) (h := h) h1 h2)
  obtain ⟨R, hR⟩ : ∃ R, heldGo r f0 b = R := ⟨_, rfl⟩
  have HR := hid hR
  rw [hR]
  obtain ⟨fa, fc, rfl, _, _, _⟩ := hv.form
  clear hp hb hpE hin hr q4 hR hbE hv
  generalize hnn : r.Pieces.length = n at *
  have Hnn := hid hnn
  clear hnn
  generalize hzz : b.length = z at *
  have Hz := hid hzz
  clear hzz
  generalize f0.length = fn at *
  go_enter Try.func30, Try.ntmps30
  go_wp2_with fail
  have hx0 := (Ext.rf w).al (.cells #[.int .i64 r.Queue, .int .i64 r.From, .int .i64 r.Until, .int .i64 r.Kind, (.slice (some ⟨pb, po, none⟩) n pc)] 37)
  have hR0 := heap_alloc_new w (.cells #[.int .i64 r.Queue, .int .i64 r.From, .int .i64 r.Until, .int .i64 r.Kind, (.slice (some ⟨pb, po, none⟩) n pc)] 37)
  generalize w.alloc (.cells #[.int .i64 r.Queue, .int .i64 r.From, .int .i64 r.Until, .int .i64 r.Kind, (.slice (some ⟨pb, po, none⟩) n pc)] 37) = w1 at *
  have HR1 := hid hR0
  have HX1 := hid hx0
  clear hR0 hx0
  go_loopw [0, 7] (fun v c wr => ∃ (k : Nat) (f : List Run) (ga : Option Addr) (gn gc : Nat), v = .slice ga gn gc ∧ c = .int .i64 k ∧ k ≤ z ∧ Hid (RunsV wr (.slice ga gn gc) f) ∧ Hid (heldGo r f (b.drop k) = R) ∧ Ext w1 wr) (fun _ c _ => z - (intOf c).toNat)
  case atStart => exact ⟨0, f0, fa, fn, fc, rfl, rfl, by omega, hid (HV.out.mono HX1.out), HR, Ext.rf _⟩
  case round =>
    obtain ⟨k, f, ga, gn, gc, rfl, rfl, hk, Hf, Hh, hx⟩ := hrel
    by_cases hlt : k < z
    · have hlt' : (k : Int) < (z : Int) := by omega
      obtain ⟨x, hxk⟩ := getA (f := b) (k := k) (by rw [Hz.out]; exact hlt)
      obtain ⟨bb, bo, rfl, hbb, hBE⟩ := HBE.out (by omega)
      obtain ⟨c1, c2, _, _⟩ := E2.mono w wr bb _ x (HX1.out.tr hx) (hBE k x hxk)
      obtain ⟨e1, e2⟩ := bite_at hxk
      have hI := HIN.out k hlt
      obtain ⟨j, hj⟩ := Int.eq_ofNat_of_zero_le (by have := hI.low; rw [e1] at this; exact this : 0 ≤ x.Piece)
      have hjn : j < n := by have := hI.is; rw [e1, hj, Hnn.out] at this; exact_mod_cast this
      have hA0 : 0 ≤ x.At := by have := hI.at0; rw [e2] at this; exact this
      have hA1 : x.At ≤ 48 := by have := hI.at48; rw [e2] at this; exact this
      obtain ⟨y, hyk⟩ := getA (f := r.Pieces) (k := j) (by rw [Hnn.out]; exact hjn)
      obtain ⟨d1, d2, _, _⟩ := E2.mono w wr pb _ y (HX1.out.tr hx) (HPE.out j y hyk)
      obtain ⟨⟨p1, p2⟩, p3, p4⟩ := HQ.out j hjn
      obtain ⟨eL, eN⟩ := piece_at hyk
      rw [eL] at p1 p2
      rw [eN] at p3 p4
      have hdrop : b.drop k = x :: b.drop (k + 1) := by
        rw [List.drop_eq_getElem_cons (by rw [Hz.out]; exact hlt)]
        have := List.getElem?_eq_getElem (l := b) (i := k) (by rw [Hz.out]; exact hlt)
        rw [hxk] at this
        rw [Option.some.inj this]
      have hh := Hh.out
      rw [hdrop] at hh
      obtain ⟨⟨g, be⟩, hbu⟩ : ∃ q, bumpR f x.At (x.At + y.Len) (-y.N) = q := ⟨_, rfl⟩
      obtain ⟨⟨low, le⟩, hle⟩ : ∃ q, leastR g x.At (x.At + y.Len) = q := ⟨_, rfl⟩
      have hpj : x.Piece.toNat = j := by omega
      rw [heldGo_step (g := g) (e := be) (low := low) (h := le) (by rw [hpj, eL, eN]; exact hbu) (by rw [hpj, eL]; exact hle)] at hh
      have Hh2 := hid hh
      have BU := hid (fun (W : World) (h : Ext wr W) => Bump_any W (.slice ga gn gc) f x.At (x.At + y.Len) (-y.N) (Hf.out.mono h))
      rw [hbu] at BU
      have LE := hid (fun (W : World) (u : Value) (h : RunsV W u g) => Least_any W u g x.At (x.At + y.Len) h)
      rw [hle] at LE
      rw [hj] at c1
      obtain ⟨b0, b1, b2, b3, b4⟩ := cells5_at HR1.out hx
      have t1 := deF (show ¬ (j : Int) < 0 by omega)
      have t2 := deF (show ¬ (n : Int) ≤ (j : Int) by omega)
      have t2' := deF (show ¬ n ≤ j by omega)
      have hw1 : IntKind.i64.wrap (x.At + y.Len) = x.At + y.Len := by rw [IntKind.wrap_i64]; omega
      have hw2 : IntKind.i64.wrap (-y.N) = -y.N := by rw [IntKind.wrap_i64]; omega
      clear hxk e1 e2 hI hj hyk eL eN hdrop hh hbu hle hpj hBE Hh
      go_wp2_with fail
      go_quiet (fail)
      go_wp2_with fail
      have HX2 := hid (Ext.dn (Ext.rf wr) nq)
      replace b4 := HX2.out.ce' b4
      replace c1 := HX2.out.ce' c1
      replace c2 := HX2.out.ce' c2
      replace d1 := HX2.out.ce' d1
      replace d2 := HX2.out.ce' d2
      clear b0 b1 b2 b3
      generalize wr.drewN nq = W2 at *
      go_region_held3 (fun w' => w'.cell? ⟨w.heap.size, 4, none⟩ = some (.slice (some ⟨pb, po, none⟩) n pc) ∧ w'.cell? ⟨bb, bo + k * 2, none⟩ = some (.int .i64 (j : Int)) ∧ w'.cell? ⟨pb, po + j * 2, none⟩ = some (.int .i64 y.Len) ∧ w'.cell? ⟨pb, po + j * 2 + 1, none⟩ = some (.int .i64 y.N)) ((refine keep4 ?_ b4 c1 d1 d2; (repeat (first | exact Ext.rf _ | refine Ext.dr ?_ | refine Ext.al ?_ _ | refine Ext.se ?_ (by simp) _)))) (fail)
      go_wp2_with fail
      have HX3 := hid (((Ext.rf W2).al (.cells #[.int .i64 y.Len, .int .i64 y.N] 83)).dr)
      have k0 : (W2.alloc (.cells #[.int .i64 y.Len, .int .i64 y.N] 83)).drew.cell? ⟨W2.heap.size, 0, none⟩ = some (.int .i64 y.Len) := cell_of_row _ _ 0 _ _ _ (heap_alloc_new W2 _)
      have k1 : (W2.alloc (.cells #[.int .i64 y.Len, .int .i64 y.N] 83)).drew.cell? ⟨W2.heap.size, 1, none⟩ = some (.int .i64 y.N) := cell_of_row _ _ 1 _ _ _ (heap_alloc_new W2 _)
      replace c2 := HX3.out.ce' c2
      clear b4 c1 d1 d2
      generalize (W2.alloc (.cells #[.int .i64 y.Len, .int .i64 y.N] 83)).drew = W3 at *
      generalize W2.heap.size = BP at *
      go_region_held3 (fun w' => w'.cell? ⟨bb, bo + k * 2 + 1, none⟩ = some (.int .i64 x.At) ∧ w'.cell? ⟨BP, 0, none⟩ = some (.int .i64 y.Len) ∧ w'.cell? ⟨BP, 1, none⟩ = some (.int .i64 y.N))
        (first
          | go_keep
          | (go_split_ands
             exact ⟨hxk.ce' (by assumption), hxk.ce' (by assumption), hxk.ce' (by assumption)⟩))
        ((go_at_call 57; refine (BU.out _ (HX2.out.tr (HX3.out.dr))).mono ?_; rintro e W4 ⟨u, rfl, hu, hxk⟩; obtain ⟨ua, uc, rfl, _, _, _⟩ := hu.form; have HU := hid hu; have HX4 := hid (HX3.out.tr (Ext.tr (Ext.dr (Ext.rf W3)) hxk)); have HXk := hid (Ext.tr (Ext.dr (Ext.rf W3)) hxk); clear hu))
      by_cases hbe : be = 0
      · have hbeF := neF hbe
        have m2 := HXk.out.ce' c2
        have m0 := HXk.out.ce' k0
        clear c2 k0 k1
        go_wp2_with fail
        replace m2 := fun p : Later W4 => p.cell m2
        replace m0 := fun p : Later W4 => p.cell m0
        have QL := hid (fun p : Later W4 => later_of p (LE.out p.v _ (HU.out.mono p.h)))
        refine region_later (by kernel_rfl) (by kernel_rfl) ?_
        repeat (go_big_quiet_step (with_reducible exact QL.out _))
        refine wpQuiet_nil ?_
        rintro w' ⟨p, rfl⟩
        have HX5 := hid (HX2.out.tr (HX4.out.tr p.h))
        have HU5 := hid (HU.out.mono p.h)
        clear QL m2 m0
        generalize p.v = W5 at *
        by_cases hle : le = 0
        · have hleF := neF hle
          by_cases hlow : low < 0
          · have hR := hid (show R = false from by rw [← Hh2.out]; exact if_neg (fun h => by have := h.2.2; omega))
            go_wp2_with fail
            go_ret
            exact ⟨ret_bool hR.out.symm, HX1.out.tr (hx.tr HX5.out)⟩
          · have hh3 := hid (show heldGo r g (b.drop (k + 1)) = R from by rw [← Hh2.out]; exact (if_pos ⟨hbe, hle, by omega⟩).symm)
            have hlowF := deF hlow
            go_wp2_with fail
            go_roundw
            case rel => exact ⟨k + 1, g, ua, g.length, uc, rfl, by go_num, by omega, HU5, hh3, hx.tr HX5.out⟩
            case measure => simp [intOf]; omega
        · have hleT := neT hle
          have hR := hid (show R = false from by rw [← Hh2.out]; exact if_neg (fun h => hle h.2.1))
          go_wp2_with fail
          go_ret
          exact ⟨ret_bool hR.out.symm, HX1.out.tr (hx.tr HX5.out)⟩
      · have hbeT := neT hbe
        have hR := hid (show R = false from by rw [← Hh2.out]; exact if_neg (fun h => hbe h.1))
        go_wp2_with fail
        go_ret
        exact ⟨ret_bool hR.out.symm, HX1.out.tr (hx.tr (HX2.out.tr HX4.out))⟩
    · obtain rfl : k = z := by omega
      have hlt' : ¬ (k : Int) < (k : Int) := by omega
      have hh := Hh.out
      rw [List.drop_of_length_le (by rw [Hz.out]; exact Nat.le_refl _), H0.out] at hh
      have HH := hid hh
      clear hh
      go_wp2_with fail
      go_ret
      exact ⟨ret_bool HH.out, HX1.out.tr hx⟩

end Go.Proofs.Ytfbcmifclaaacaa

/- States that are right: what is submitted, cancelled, left out is right. -/
set_option linter.unusedVariables false
namespace Go.Proofs.Ytfbcmifclaaacaa
open Go.RowKit

/-! ### what is held takes no more than there is -/
def sumH (r : Request) : List Bite → Nat → Int
  | [], _ => 0
  | x :: b, t => hillT x.At.toNat (x.At + pL r x.Piece.toNat).toNat (pN r x.Piece.toNat) t + sumH r b t
theorem sumH_append (r : Request) (t : Nat) : ∀ b c, sumH r (b ++ c) t = sumH r b t + sumH r c t
  | [], c => by simp [sumH]
  | x :: b, c => by
    have := sumH_append r t b c
    simp only [List.cons_append, sumH]; omega
theorem hillT_neg (a b : Nat) (n : Int) (t : Nat) : hillT a b (-n) t = -hillT a b n t := by unfold hillT; split <;> simp
theorem maxTo_zero (x : Nat → Int) : ∀ n, x 0 ≤ maxTo x n
  | 0 => Int.le_refl _
  | n + 1 => by have := maxTo_zero x n; unfold maxTo; omega
theorem held_sum {r : Request} {t : Nat} (ht : t < 48) : ∀ (b : List Bite) (f : List Run), heldGo r f b = true → sumH r b t = 0 ∨ sumH r b t ≤ sp f t
  | [], f, _ => .inl rfl
  | z :: b, f, h => by
    rw [heldGo] at h
    split at h
    · rename_i hc
      obtain ⟨c1, c2, c3⟩ := hc
      obtain ⟨g, hg⟩ : ∃ g, bumpR f z.At (z.At + pL r z.Piece.toNat) (-(pN r z.Piece.toNat)) = (g, 0) := ⟨_, Prod.ext rfl c1⟩
      rw [hg] at c2 c3 h
      obtain ⟨low, hlow⟩ : ∃ low, leastR g z.At (z.At + pL r z.Piece.toNat) = (low, 0) := ⟨_, Prod.ext rfl c2⟩
      obtain ⟨b1, b2, b3, b4⟩ := bump_ok hg
      have hl := least_ok b3 b2 hlow
      simp only [hlow] at c3
      have e := b4 t ht
      rw [hillT_neg] at e
      rcases held_sum ht b g h with h0 | h0
      · by_cases hin : z.At.toNat ≤ t ∧ t < (z.At + pL r z.Piece.toNat).toNat
        · rw [hl, le_lowT (by omega)] at c3
          have h3 := c3 t hin.1 hin.2
          right; simp only [sumH]; omega
        · left; simp only [sumH]; rw [h0, hillT_out hin]; rfl
      · right; simp only [sumH]; omega
    · cases h
theorem takesUp_sum {x : Book} (hr : ReqOk x.Req) (hin : ∀ k, k < x.Bites.length → BiteIn x.Req x.Bites k) (t : Nat) : ∀ k, k ≤ x.Bites.length → takesUp x k t = sumH x.Req (x.Bites.take k) t
  | 0, _ => by simp [takesUp, sumH]
  | k + 1, hk => by
    have ih := takesUp_sum hr hin t k (by omega)
    obtain ⟨y, hy⟩ := getA (f := x.Bites) (k := k) (by omega)
    obtain ⟨e1, e2⟩ := bite_at hy
    have hb := hin k (by omega)
    obtain ⟨⟨p1, _⟩, _⟩ := (req_range hr).2 (bP x.Bites k).toNat (by have := hb.low; have := hb.is; omega)
    have h0 := hb.at0
    show takesUp x k t + hillT _ _ _ t = _
    rw [ih, List.take_add_one, hy, sumH_append]
    rw [e1] at p1 ⊢
    rw [e2] at h0 ⊢
    show _ = _ + (hillT _ _ _ t + 0)
    rw [show (y.At + pL x.Req y.Piece.toNat).toNat = y.At.toNat + (pL x.Req y.Piece.toNat).toNat by omega]
    omega
theorem takes_sum {l : List Queue} {x : Book} (h : BookOk l x) (t : Nat) : takesT x t = sumH x.Req x.Bites t := by
  have := takesUp_sum h.req (fun k hk => (h.bites k hk).1) t x.Bites.length (Nat.le_refl _)
  rw [List.take_length] at this
  exact this

/-! ### room is no more than what is left of each queue of the line -/
theorem minTo_below {g : Nat → Int} : ∀ (ks : List Nat), ∀ k ∈ ks, minTo g ks ≤ g k
  | [], k, h => by cases h
  | j :: ks, k, h => by
    have key : ∀ (ks : List Nat) (c : Int), ks.foldl (fun a k => min a (g k)) c ≤ c ∧ ∀ k ∈ ks, ks.foldl (fun a k => min a (g k)) c ≤ g k := by
      intro ks
      induction ks with
      | nil => intro c; exact ⟨Int.le_refl _, fun k h => by cases h⟩
      | cons i ks ih =>
        intro c
        obtain ⟨h1, h2⟩ := ih (min c (g i))
        simp only [List.foldl_cons]
        refine ⟨by omega, fun k h => ?_⟩
        rcases List.mem_cons.1 h with rfl | h
        · omega
        · exact h2 k h
    obtain ⟨h1, h2⟩ := key ks (g j)
    rcases List.mem_cons.1 h with rfl | h
    · exact h1
    · exact h2 k h
theorem room_below {l : List Queue} {b : List Book} {q : Int} {p t : Nat} (h : under l q p = true) : roomT l b q t ≤ leftT l b p t :=
  minTo_below (g := fun k => leftT l b k t) _ p (under_mem.2 h)

/-! ### right states -/
theorem right_fits {s : State} (h : stateE s = 0) : FitsT s.Tree s.Books s.Clock.toNat := by
  obtain ⟨_, ht0⟩ := stateE_zero h
  apply Classical.byContradiction
  intro hn
  rw [too_yes hn] at ht0
  cases ht0
theorem right_if {s : State} (h1 : booksE s.Tree s.Books = 0) (h2 : StateIn s) (h3 : idsT (-1) s.Next s.Books = true) (h4 : s.Books.any (lateB s.Clock) = false) (h5 : FitsT s.Tree s.Books s.Clock.toNat) : stateE s = 0 :=
  stateE_ok (formE_ok h1 h2 h3 h4) (too_no h5)
theorem idsT_cons {last next : Int} {x : Book} {b : List Book} : idsT last next (x :: b) = true ↔ last < x.Id ∧ x.Id < next ∧ idsT x.Id next b = true := by
  rw [idsT, Bool.and_eq_true, Bool.and_eq_true, decide_eq_true_iff, decide_eq_true_iff, and_assoc]
theorem idsT_low {next : Int} : ∀ {b : List Book} {a c : Int}, a ≤ c → idsT c next b = true → idsT a next b = true
  | [], _, _, _, _ => rfl
  | x :: b, a, c, h, h1 => by
    obtain ⟨g1, g2, g3⟩ := idsT_cons.1 h1
    exact idsT_cons.2 ⟨by omega, g2, g3⟩
theorem idsT_sub {next : Int} {b c : List Book} (h : c.Sublist b) : ∀ {last : Int}, idsT last next b = true → idsT last next c = true := by
  induction h with
  | slnil => exact fun h => h
  | cons x _ ih =>
    intro last h1
    obtain ⟨g1, g2, g3⟩ := idsT_cons.1 h1
    exact ih (idsT_low (by omega) g3)
  | cons_cons x _ ih =>
    intro last h1
    obtain ⟨g1, g2, g3⟩ := idsT_cons.1 h1
    exact idsT_cons.2 ⟨g1, g2, ih g3⟩
theorem idsT_snoc {m : Int} {x : Book} (hx : x.Id = m) : ∀ {b : List Book} {last : Int}, last < m → idsT last m b = true → idsT last (m + 1) (b ++ [x]) = true
  | [], last, h, _ => idsT_cons.2 ⟨by omega, by omega, rfl⟩
  | y :: b, last, h, h1 => by
    obtain ⟨g1, g2, g3⟩ := idsT_cons.1 h1
    exact idsT_cons.2 ⟨g1, by omega, idsT_snoc hx g2 g3⟩
theorem takenT_sub {l : List Queue} {b c : List Book} (q t : Nat) (h : c.Sublist b) : (∀ x ∈ b, BookOk l x) → takenT l c q t ≤ takenT l b q t := by
  induction h with
  | slnil => exact fun _ => Int.le_refl _
  | cons x _ ih =>
    intro hb
    have h1 := ih (fun y hy => hb y (List.mem_cons_of_mem _ hy))
    have h2 := book_num (hb x (List.mem_cons_self ..)) t
    simp only [takenT]
    split <;> omega
  | cons_cons x _ ih =>
    intro hb
    have h1 := ih (fun y hy => hb y (List.mem_cons_of_mem _ hy))
    simp only [takenT]
    omega
/-- whoever is left out, and later on: what is left is right -/
theorem right_sub {s : State} (h : stateE s = 0) {b : List Book} {c : Int} (hb : b.Sublist s.Books) (hc : s.Clock ≤ c) (h48 : c ≤ 48) (hl : b.any (lateB c) = false) : stateE ⟨c, s.Next, s.Tree, b⟩ = 0 := by
  obtain ⟨hf, _⟩ := stateE_zero h
  obtain ⟨h1, ⟨k1, k2, k3, k4⟩, h3, _⟩ := formE_zero hf
  obtain ⟨_, _, h12, hbok⟩ := booksE_zero h1
  have hlen := hb.length_le
  have h5 := right_fits h
  refine right_if (booksE_sub h1 (fun x hx => hb.subset hx) (by show b.length ≤ 12; omega)) ⟨by show 0 ≤ c; omega, h48, k3, k4⟩ (idsT_sub hb h3) hl (fun t ht ht48 p hp => ?_)
  have g1 := h5 t (by have : c.toNat ≤ t := ht; omega) ht48 p hp
  have g2 := takenT_sub (l := s.Tree) p t hb hbok
  show 0 ≤ leftT s.Tree b p t
  unfold leftT at g1 ⊢
  omega
/-- one more, for which there is room, and which is not over -/
theorem right_more {s : State} (h : stateE s = 0) {r : Request} {b : List Bite} (hq : reqE s.Tree r = 0) (hm : meetsR r b = true) (hh : heldGo r (fold (roomT s.Tree s.Books r.Queue)) b = true) (hfrom : ¬ r.From < s.Clock)
    (h12 : s.Books.length < 12) (hn : s.Next < 1048576) : stateE (moreS s r b) = 0 := by
  obtain ⟨hf, _⟩ := stateE_zero h
  obtain ⟨h1, ⟨k1, k2, k3, k4⟩, h3, h4⟩ := formE_zero hf
  obtain ⟨_, h0, _, hbok⟩ := booksE_zero h1
  obtain ⟨_, hro, q0, q1⟩ := reqE_zero hq
  have hok : BookOk s.Tree ⟨s.Next, r, b⟩ := ⟨q0, q1, hm⟩
  have h5 := right_fits h
  have hb1 : booksE s.Tree (s.Books ++ [⟨s.Next, r, b⟩]) = 0 := by
    rw [booksE_first h0 (by omega)] at h1
    rw [booksE_first h0 (by simp; omega)]
    refine firstE_all.2 fun x hx => ?_
    rcases List.mem_append.1 hx with hx | hx
    · exact firstE_all.1 h1 x hx
    · rw [List.mem_singleton.1 hx]; exact ⟨hq, hm⟩
  refine right_if hb1 ⟨k1, k2, by show 0 ≤ s.Next + 1; omega, by show s.Next + 1 ≤ 1048576; omega⟩ (idsT_snoc (last := -1) (m := s.Next) rfl (by omega) h3) ?_ (fun t ht ht48 p hp => ?_)
  · show (s.Books ++ [(⟨s.Next, r, b⟩ : Book)]).any (lateB s.Clock) = false
    rw [List.any_append, h4]
    show (lateB s.Clock ⟨s.Next, r, b⟩ || false) = false
    rw [late_is hok, Bool.or_false]
    refine decide_eq_false ?_
    have hmany : 1 ≤ b.length := hok.many.1
    have hT := held_hasT hm hh 0 hmany
    obtain ⟨_, t2, _, t4⟩ := hT
    have hb0 : BiteIn r b 0 := (hok.bites 0 hmany).1
    obtain ⟨⟨p1, _⟩, _⟩ := (req_range hro).2 (bP b 0).toNat (by have := hb0.low; have := hb0.is; omega)
    have hge : overA r b 0 ≤ maxTo (overA r b) (b.length - 1) := maxTo_zero _ _
    have e : overA r b 0 = bA b 0 + pL r (bP b 0).toNat := rfl
    have hf0 := hro.range.1.1
    show ¬ maxTo (overA r b) (b.length - 1) ≤ s.Clock
    omega
  · show 0 ≤ leftT s.Tree (s.Books ++ [⟨s.Next, r, b⟩]) p t
    have g1 : 0 ≤ leftT s.Tree s.Books p t := h5 t ht ht48 p hp
    have e : leftT s.Tree (s.Books ++ [⟨s.Next, r, b⟩]) p t = leftT s.Tree s.Books p t - (if under s.Tree r.Queue p = true then takesT ⟨s.Next, r, b⟩ t else 0) := by
      unfold leftT
      rw [takenT_append]
      simp only [takenT]
      omega
    rw [e]
    by_cases hu : under s.Tree r.Queue p = true
    · rw [if_pos hu, takes_sum hok t]
      have g2 := room_below (b := s.Books) (t := t) hu
      have g3 := held_sum ht48 b _ hh
      rw [sp_fold ht48] at g3
      show 0 ≤ leftT s.Tree s.Books p t - sumH r b t
      omega
    · rw [if_neg hu]; omega

/-! ### what is submitted, and cancelled again -/
theorem submitR_zero {s X : State} {r : Request} {n : Int} (h : submitR s r = (X, n, 0)) : mayE s r = 0 ∧ s.Books.length < 12 ∧ s.Next < 1048576 ∧ placeL (plotT s r) r ≠ [] ∧ X = moreS s r (placeL (plotT s r) r) ∧ n = s.Next := by
  by_cases h0 : mayE s r = 0
  · by_cases h1 : s.Books.length = 12 ∨ s.Next = 1048576
    · rw [submitR_many h0 h1] at h
      exact absurd (show (2 : Int) = 0 from congrArg (fun p => p.2.2) h) (by decide)
    · by_cases h2 : placeL (plotT s r) r = []
      · rw [submitR_full h0 h1 h2] at h
        exact absurd (show (8 : Int) = 0 from congrArg (fun p => p.2.2) h) (by decide)
      · rw [submitR_ok h0 h1 h2] at h
        obtain ⟨g0, _⟩ := mayE_zero h0
        obtain ⟨hf, _⟩ := stateE_zero g0
        obtain ⟨hb, ⟨_, _, _, k4⟩, _, _⟩ := formE_zero hf
        have h12 := (booksE_zero hb).2.2.1
        have g1 : ¬ s.Books.length = 12 := fun h => h1 (.inl h)
        have g2 : ¬ s.Next = 1048576 := fun h => h1 (.inr h)
        exact ⟨h0, by omega, by omega, h2, (congrArg (fun p => p.1) h).symm, (congrArg (fun p => p.2.1) h).symm⟩
  · rw [submitR_bad h0] at h
    exact absurd (show mayE s r = 0 from congrArg (fun p => p.2.2) h) h0
/-- what is submitted is right -/
theorem submit_right {s X : State} {r : Request} {n : Int} (h : submitR s r = (X, n, 0)) : stateE X = 0 ∧ stateE s = 0 ∧ meetsR r (placeL (plotT s r) r) = true := by
  obtain ⟨h0, h1, h2, h3, h4, h5⟩ := submitR_zero h
  obtain ⟨g0, g1, g2⟩ := mayE_zero h0
  obtain ⟨m1, m2, m3, m4, m5, m6⟩ := may_of h0
  have hm := found_meets m2 h3
  refine ⟨?_, g0, hm⟩
  rw [h4]
  exact right_more g0 g1 hm (found_held m5 m2 h3) g2 h1 h2
theorem last_is {s : State} (h : idsT (-1) s.Next s.Books = true) (x : Book) (hx : x.Id = s.Next) : idxOf (isId s.Next) (s.Books ++ [x]) = (s.Books.length : Int) := by
  refine idxOf_at (x := x) (by simp) (by unfold isId; exact decide_eq_true hx) (fun j y hj hy => ?_)
  rw [List.getElem?_append_left hj] at hy
  have := ids_in h j hj
  rw [idAt_some hy] at this
  unfold isId
  exact decide_eq_false (by omega)
/-- cancelled, all is as it was, but that its Id is gone -/
theorem submit_cancel {s X : State} {r : Request} {n : Int} (h : submitR s r = (X, n, 0)) : cancelR X n = (⟨s.Clock, s.Next + 1, s.Tree, s.Books⟩, 0) := by
  obtain ⟨h0, h1, h2, h3, h4, h5⟩ := submitR_zero h
  obtain ⟨gX, g0, _⟩ := submit_right h
  obtain ⟨hf, _⟩ := stateE_zero g0
  obtain ⟨_, _, hids, _⟩ := formE_zero hf
  subst h4 h5
  have hi := last_is hids ⟨s.Next, r, placeL (plotT s r) r⟩ rfl
  have hf := findB_is (id := s.Next) gX (by show 0 ≤ idxOf (isId s.Next) (s.Books ++ [_]); rw [hi]; omega)
  rw [cancelR_ok (k := s.Books.length) (hf.trans (congrArg (fun z => (z, (0 : Int))) hi))]
  unfold lessS moreS
  rw [List.eraseIdx_append_of_length_le (Nat.le_refl _)]
  simp
end Go.Proofs.Ytfbcmifclaaacaa
