/- held; the laws of a found place -/
import Derived.Test.YtfbcmifclaaacaaPlaceN
import Derived.Test.YtfbcmifclaaacaaReqE
import Derived.Test.YtfbcmifclaaacaaReqC
import Derived.Deep.RegionHeld3
import Derived.Test.YtfbcmifclaaacaaRegion

/- Places, plainly: where there is a place one is found, and none that is over sooner; no program in sight. -/
set_option linter.unusedVariables false
namespace Go.Proofs.Ytfbcmifclaaacaa

/-- a bump that goes well -/
theorem bump_ok {f g : List Run} {a b n : Int} (h : bumpR f a b n = (g, 0)) : Fine f ∧ (0 ≤ a ∧ a < b ∧ b ≤ 48) ∧ Fine g ∧ ∀ i, i < 48 → sp g i = sp f i + hillT a.toNat b.toNat n i := by
  unfold bumpR at h
  split at h
  · rename_i hf
    split at h
    · rename_i hr
      unfold toldT at h
      split at h
      · rename_i hn
        have e : fold (fun t => sp f t + hillT a.toNat b.toNat n t) = g := (Prod.mk.inj h).1
        subst e
        exact ⟨hf, hr.1, fine_fold hn, fun i hi => sp_fold hi⟩
      · exact absurd (Prod.mk.inj h).2 (by decide)
    · exact absurd (Prod.mk.inj h).2 (by decide)
  · exact absurd (Prod.mk.inj h).2 (by decide)
theorem least_ok {g : List Run} {a b low : Int} (hg : Fine g) (hr : 0 ≤ a ∧ a < b ∧ b ≤ 48) (h : leastR g a b = (low, 0)) : low = lowT (sp g) a.toNat b.toNat := by
  unfold leastR at h
  rw [if_pos hg, if_pos hr] at h
  exact (Prod.mk.inj h).1.symm

/-- what is held has room -/
theorem held_room {r : Request} : ∀ (b : List Bite) (f : List Run) (y : Nat → Int), (∀ i, i < 48 → sp f i ≤ y i) → heldGo r f b = true → (∀ x ∈ b, 1 ≤ pN r x.Piece.toNat) →
    ∀ x ∈ b, ∀ i, x.At.toNat ≤ i → i < (x.At + pL r x.Piece.toNat).toNat → pN r x.Piece.toNat ≤ y i
  | [], _, _, _, _, _, x, hx => by cases hx
  | z :: b, f, y, hy, h, hN, x, hx => by
    have hz := hN z (.head _)
    rw [heldGo] at h
    split at h
    · rename_i hc
      obtain ⟨c1, c2, c3⟩ := hc
      obtain ⟨g, hg⟩ : ∃ g, bumpR f z.At (z.At + pL r z.Piece.toNat) (-(pN r z.Piece.toNat)) = (g, 0) := ⟨_, Prod.ext rfl c1⟩
      rw [hg] at c2 c3 h
      obtain ⟨low, hlow⟩ : ∃ low, leastR g z.At (z.At + pL r z.Piece.toNat) = (low, 0) := ⟨_, Prod.ext rfl c2⟩
      obtain ⟨b1, b2, b3, b4⟩ := bump_ok hg
      have hl := least_ok b3 b2 hlow
      simp only [hlow] at c3
      have hle : ∀ i, i < 48 → sp g i ≤ y i := fun i hi => by
        have h1 := hy i hi
        have h2 : hillT z.At.toNat (z.At + pL r z.Piece.toNat).toNat (-(pN r z.Piece.toNat)) i = -(pN r z.Piece.toNat) ∨ hillT z.At.toNat (z.At + pL r z.Piece.toNat).toNat (-(pN r z.Piece.toNat)) i = 0 := by unfold hillT; split <;> simp
        rw [b4 i hi]; omega
      rcases List.mem_cons.1 hx with rfl | hx
      · intro i k1 k2
        rw [hl, le_lowT (by omega)] at c3
        have h3 := c3 i k1 k2
        rw [b4 i (by omega), hillT_in k1 k2] at h3
        have h4 := hy i (by omega)
        omega
      · exact held_room b g y hle h (fun x hx => hN x (.tail _ hx)) x hx
    · cases h

/-- each bite of a place has room in what is told -/
theorem held_hasT {r : Request} {f : List Run} {b : List Bite} (hm : meetsR r b = true) (hh : heldGo r f b = true) : ∀ k, k < b.length → HasT (sp f) (bA b k).toNat r.Until.toNat (pL r (bP b k).toNat).toNat (pN r (bP b k).toNat) ∧ r.From.toNat ≤ (bA b k).toNat ∧ (bA b k).toNat < r.Until.toNat ∧ 0 ≤ bA b k := by
  have hm' := hm
  rw [meetsR_iff] at hm
  obtain ⟨h1, h2, h3⟩ := hm
  obtain ⟨⟨q1, q2, q3⟩, q4⟩ := req_range h1
  have hlow := step_low h2
  intro k hk
  obtain ⟨x, hx⟩ := getA (f := b) (k := k) hk
  obtain ⟨e1, e2⟩ := bite_at hx
  have s := h2 k hk
  have s1 := s.is
  have s2 := s.from_
  have s3 := s.until_
  have s4 := s.fits
  have s5 := hlow k hk
  obtain ⟨⟨p1, p2⟩, p3, p4⟩ := q4 (bP b k).toNat (by omega)
  have hN : ∀ z ∈ b, 1 ≤ pN r z.Piece.toNat := fun z hz => by
    obtain ⟨j, hj, rfl⟩ := List.mem_iff_getElem.1 hz
    have e3 := (bite_at (List.getElem?_eq_getElem hj)).1
    have s6 := (h2 j hj).is
    have s7 := hlow j hj
    rw [← e3]
    exact (q4 (bP b j).toNat (by omega)).2.1
  have h5 := held_room b f (sp f) (fun _ _ => Int.le_refl _) hh hN x (List.mem_of_getElem? hx)
  rw [← e1, ← e2] at h5
  refine ⟨⟨by omega, fun i k1 k2 => h5 i k1 (by omega)⟩, by omega, by omega, by omega⟩

theorem bP_id {r : Request} {b : List Bite} (hm : meetsR r b = true) (hk : r.Kind ≠ 2) : b.length = r.Pieces.length ∧ ∀ k, k < b.length → bP b k = k := by
  rw [meetsR_iff] at hm
  obtain ⟨h1, h2, h3⟩ := hm
  unfold CountOk at h3
  rw [if_neg hk] at h3
  refine ⟨h3, inc_id (step_low h2) (fun k h0 hk => ?_) (fun k hk => by have := (h2 k hk).is; omega)⟩
  have := (h2 k hk).up
  unfold lastP at this
  rw [if_neg (by omega)] at this
  exact this

theorem firstT_le {x : Nat → Int} {a u s t : Nat} {n : Int} (h : HasT x t u s n) (h1 : a ≤ t) (h2 : t < u) : ∃ q, firstT x a u s n = some q ∧ q ≤ t := by
  have := firstT_is x a u s n
  cases hq : firstT x a u s n with
  | none => rw [hq] at this; exact absurd h (this t h1 h2)
  | some q =>
    rw [hq] at this
    refine ⟨q, rfl, ?_⟩
    apply Classical.byContradiction
    intro hc
    exact this.2.2.2 t h1 (by omega) h

theorem maxTo_mono {x y : Nat → Int} : ∀ {n}, (∀ k, k ≤ n → x k ≤ y k) → maxTo x n ≤ maxTo y n
  | 0, h => h 0 (Nat.le_refl _)
  | n + 1, h => by
    have h1 := maxTo_mono (x := x) (y := y) (n := n) (fun k hk => h k (by omega))
    have h2 := h (n + 1) (Nat.le_refl _)
    simp only [maxTo]; omega

/-- the greedy path, ahead of another -/
theorem order_path {r : Request} {x : Nat → Int} {q : Nat → Nat} : ∀ (m k a : Nat), (∀ j, k ≤ j → j < k + m → HasT x (q j) r.Until.toNat (pL r j).toNat (pN r j) ∧ q j < r.Until.toNat) → (∀ j, k ≤ j → j + 1 < k + m → q j + (pL r j).toNat ≤ q (j + 1)) → (0 < m → a ≤ q k) →
    ∃ ts, ts.length = m ∧ Path r keepX (behindA r) k x a ts ∧ ∀ j, j < m → ts.getD j 0 ≤ q (k + j)
  | 0, k, a, _, _, _ => ⟨[], rfl, trivial, fun j hj => by omega⟩
  | m + 1, k, a, h1, h2, h3 => by
    obtain ⟨g1, g2⟩ := h1 k (by omega) (by omega)
    obtain ⟨t, ht, hle⟩ := firstT_le g1 (h3 (by omega)) g2
    obtain ⟨ts, e1, e2, e3⟩ := order_path (r := r) (x := x) (q := q) m (k + 1) (behindA r k t) (fun j k1 k2 => h1 j (by omega) (by omega)) (fun j k1 k2 => h2 j (by omega) (by omega)) (fun hm => by
      have := h2 k (by omega) (by omega)
      unfold behindA; omega)
    refine ⟨t :: ts, by simp [e1], ⟨ht, e2⟩, fun j hj => ?_⟩
    cases j with
    | zero => simpa using hle
    | succ j => have := e3 j (by omega); rw [show k + (j + 1) = k + 1 + j by omega]; simpa using this

theorem startT_mono {r : Request} {s t : Nat} (h : s ≤ t) : ∀ k, startT r s k ≤ startT r t k
  | 0 => h
  | k + 1 => by have := startT_mono (r := r) h k; rw [startT_next, startT_next]; omega

/-- where there is a place one is found, and none that is over sooner -/
theorem place_sure {r : Request} {f : List Run} {b : List Bite} (hr : ReqOk r) (hk1 : r.Kind ≠ 1) (hm : meetsR r b = true) (hh : heldGo r f b = true) :
    placeL (sp f) r ≠ [] ∧ (r.Kind = 2 → ∃ j t : Nat, ∃ p q : Int, placeL (sp f) r = [⟨(j : Int), (t : Int)⟩] ∧ b = [⟨p, q⟩] ∧ ((j : Int) < p ∨ (j : Int) = p ∧ (t : Int) ≤ q) ∧ j ≤ 3 ∧ t ≤ 48) ∧
    (r.Kind ≠ 2 → ∃ n m, overR r (placeL (sp f) r) = (n, 0) ∧ overR r b = (m, 0) ∧ n ≤ m) := by
  obtain ⟨⟨q1, q2, q3⟩, q4⟩ := req_range hr
  obtain ⟨m1, m3⟩ := hr.many
  obtain ⟨k1, k2⟩ := hr.kind
  have hH := held_hasT hm hh
  have hm' := hm
  rw [meetsR_iff] at hm'
  obtain ⟨_, hS, hC⟩ := hm'
  have hlow := step_low hS
  have hIn : ∀ k, k < b.length → BiteIn r b k := fun k hk => ⟨hlow k hk, (hS k hk).is, by have := (hS k hk).from_; omega, by have := (hS k hk).until_; omega⟩
  rcases (by omega : r.Kind = 2 ∨ r.Kind = 3 ∨ r.Kind = 4) with hk | hk | hk
  · unfold CountOk at hC
    rw [if_pos hk] at hC
    obtain ⟨z, hz⟩ : ∃ z, b = [z] := List.length_eq_one_iff.1 hC
    subst hz
    obtain ⟨h1, h2, h3, h4⟩ := hH 0 (by simp)
    have e1 : bP [z] 0 = z.Piece := rfl
    have e2 : bA [z] 0 = z.At := rfl
    rw [e1, e2] at h1
    rw [e2] at h2 h3 h4
    have g1 := (hS 0 (by simp)).is
    have g2 := hlow 0 (by simp)
    rw [e1] at g1 g2
    obtain ⟨t', ht', hle⟩ := firstT_le h1 h2 h3
    have hp : pieceT (sp f) r r.From.toNat z.Piece.toNat = some t' := ht'
    rw [placeL_any hk]
    rcases anyGo_at (x := sp f) (r := r) r.Pieces.length 0 with ⟨c1, c2⟩ | ⟨j, t, c1, c2, c3, c4, c5⟩
    · have := c2 z.Piece.toNat (by omega) (by omega); rw [hp] at this; cases this
    · refine ⟨by rw [c4]; simp, fun _ => ⟨j, t, z.Piece, z.At, c4, rfl, ?_, by omega, by have := (pieceT_in c3).2.1; omega⟩, fun h => absurd hk h⟩
      rcases Nat.lt_trichotomy j z.Piece.toNat with h | h | h
      · exact .inl (by omega)
      · right
        rw [h, hp] at c3
        have := Option.some.inj c3
        exact ⟨by omega, by omega⟩
      · have := c5 z.Piece.toNat (by omega) h; rw [hp] at this; cases this
  · obtain ⟨hl, hid⟩ := bP_id hm (by omega)
    obtain ⟨ts, e1, e2, e3⟩ := order_path (r := r) (x := sp f) (q := fun j => (bA b j).toNat) r.Pieces.length 0 r.From.toNat (fun j _ hj => by
        obtain ⟨g1, g2, g3, g4⟩ := hH j (by omega)
        rw [hid j (by omega), Int.toNat_natCast] at g1
        exact ⟨g1, g3⟩) (fun j _ hj => by
        have g := (hS (j + 1) (by omega)).order (by omega) hk
        unfold endA at g
        rw [if_neg (by omega), Nat.add_sub_cancel, hid j (by omega), Int.toNat_natCast] at g
        obtain ⟨⟨p1, _⟩, _⟩ := q4 j (by omega)
        have := (hH j (by omega)).2.2.2
        show (bA b j).toNat + (pL r j).toNat ≤ (bA b (j + 1)).toNat
        omega) (fun _ => (hH 0 (by omega)).2.1)
    have hP := path_eachGo ts 0 (sp f) r.From.toNat [] e2
    rw [e1, List.nil_append] at hP
    rw [placeL_order hk, hP]
    have hne : bitesOf 0 ts ≠ [] := fun h => by have := congrArg List.length h; rw [bitesOf_len, List.length_nil] at this; omega
    have hmf := found_meets (x := sp f) hr (by rw [placeL_order hk, hP]; exact hne)
    rw [placeL_order hk, hP, meetsR_iff] at hmf
    have hlow2 := step_low hmf.2.1
    have hIn2 : ∀ k, k < (bitesOf 0 ts).length → BiteIn r (bitesOf 0 ts) k := fun k hk => ⟨hlow2 k hk, (hmf.2.1 k hk).is, by have := (hmf.2.1 k hk).from_; omega, by have := (hmf.2.1 k hk).until_; omega⟩
    refine ⟨hne, fun h => by omega, fun _ => ⟨_, _, overR_yes hr (by rw [bitesOf_len]; omega) hIn2, overR_yes hr (by omega) hIn, ?_⟩⟩
    rw [bitesOf_len, e1, hl]
    refine maxTo_mono (fun k hk => ?_)
    obtain ⟨a1, a2⟩ := bP_of (ts := ts) (j := k) (by omega)
    unfold overA
    rw [a1, a2, hid k (by omega)]
    have := e3 k (by omega)
    rw [Nat.zero_add] at this
    have := (hH k (by omega)).2.2.2
    omega
  · obtain ⟨hl, hid⟩ := bP_id hm (by omega)
    have hst : ∀ k, k < b.length → bA b k = (startT r (bA b 0).toNat k : Nat) := by
      intro k
      induction k with
      | zero => intro h0; have := (hH 0 h0).2.2.2; show bA b 0 = ((bA b 0).toNat : Nat); omega
      | succ k ih =>
        intro hk'
        have g := (hS (k + 1) hk').tight (by omega) hk
        unfold endA at g
        rw [if_neg (by omega), Nat.add_sub_cancel, hid k (by omega), Int.toNat_natCast, ih (by omega)] at g
        obtain ⟨⟨p1, _⟩, _⟩ := q4 k (by omega)
        rw [g, startT_next]; omega
    have hT : TightAt (sp f) r (bA b 0).toNat := fun k hk' => by
      have g := (hH k (by omega)).1
      rw [hid k (by omega), Int.toNat_natCast, hst k (by omega), Int.toNat_natCast] at g
      exact g
    obtain ⟨_, g2, g3, g4⟩ := hH 0 (by omega)
    rw [placeL_tight hk]
    rcases tightGo_at (x := sp f) (r := r) (r.Until.toNat - r.From.toNat) r.From.toNat with h1 | ⟨s, h1, h2, h3, h4, h5⟩
    · exfalso
      have := tightGo_skip (x := sp f) (r := r) (d := (bA b 0).toNat - r.From.toNat) (m := r.Until.toNat - r.From.toNat) (t := r.From.toNat)
      have hsome : ∀ (m t : Nat), tightGo (sp f) r m t = [] → ∀ q, t ≤ q → q < t + m → ¬ TightAt (sp f) r q := by
        intro m
        induction m with
        | zero => intro t _ q k1 k2; omega
        | succ m ih =>
          intro t h q k1 k2
          rw [tightGo] at h
          by_cases hh : TightAt (sp f) r t
          · rw [if_pos hh] at h
            have := congrArg List.length h
            rw [rowB_len, List.length_nil] at this; omega
          · rw [if_neg hh] at h
            by_cases e : q = t
            · subst e; exact hh
            · exact ih (t + 1) h q (by omega) (by omega)
      exact hsome _ _ h1 (bA b 0).toNat g2 (by omega) hT
    · have hs0 : s ≤ (bA b 0).toNat := by
        apply Classical.byContradiction
        intro hc
        exact h5 (bA b 0).toNat g2 (by omega) hT
      rw [h4]
      have hne : rowB r s r.Pieces.length ≠ [] := fun h => by have := congrArg List.length h; rw [rowB_len, List.length_nil] at this; omega
      have hmf := found_meets (x := sp f) hr (by rw [placeL_tight hk, h4]; exact hne)
      rw [placeL_tight hk, h4, meetsR_iff] at hmf
      have hlow2 := step_low hmf.2.1
      have hIn2 : ∀ k, k < (rowB r s r.Pieces.length).length → BiteIn r (rowB r s r.Pieces.length) k := fun k hk => ⟨hlow2 k hk, (hmf.2.1 k hk).is, by have := (hmf.2.1 k hk).from_; omega, by have := (hmf.2.1 k hk).until_; omega⟩
      refine ⟨hne, fun h => by omega, fun _ => ⟨_, _, overR_yes hr (by rw [rowB_len]; omega) hIn2, overR_yes hr (by omega) hIn, ?_⟩⟩
      rw [rowB_len, hl]
      refine maxTo_mono (fun k hk' => ?_)
      obtain ⟨a1, a2⟩ := rowB_get (r := r) (t := s) (n := r.Pieces.length) (j := k) (by omega)
      unfold overA
      rw [a1, a2, hid k (by omega), hst k (by omega)]
      have := startT_mono (r := r) hs0 k
      omega

end Go.Proofs.Ytfbcmifclaaacaa

/- Walk of the statements' held. -/
set_option linter.unusedVariables false
namespace Go.Proofs.Ytfbcmifclaaacaa
open Go.RowKit

theorem heldGo_step {r : Request} {f g : List Run} {x : Bite} {b : List Bite} {e low h : Int} (h1 : bumpR f x.At (x.At + pL r x.Piece.toNat) (-(pN r x.Piece.toNat)) = (g, e)) (h2 : leastR g x.At (x.At + pL r x.Piece.toNat) = (low, h)) :
    heldGo r f (x :: b) = if e = 0 ∧ h = 0 ∧ 0 ≤ low then heldGo r g b else false := by
  rw [heldGo, h1]; simp only [h2]

theorem keep4 {w1 w' : World} {a1 a2 a3 a4 : Addr} {a b c d : Value} (hx : Ext w1 w') (b0 : w1.cell? a1 = some a) (b1 : w1.cell? a2 = some b) (b2 : w1.cell? a3 = some c) (b3 : w1.cell? a4 = some d) :
    w'.cell? a1 = some a ∧ w'.cell? a2 = some b ∧ w'.cell? a3 = some c ∧ w'.cell? a4 = some d := by
  have k : ∀ {a : Addr} {v : Value}, w1.cell? a = some v → w'.cell? a = some v := fun {a v} h => by
    rw [hx.cell (World.block_lt_of_cell? w1 a h)]; exact h
  exact ⟨k b0, k b1, k b2, k b3⟩

set_option maxRecDepth 100000 in
set_option maxHeartbeats 8000000 in
theorem held_any (w : World) (v pv bv : Value) (f0 : List Run) (r : Request) (b : List Bite) (hv : RunsV w v f0) (hp : PiecesV w pv r.Pieces) (hb : BitesV w bv b) (hr : ReqOk r) (hin : ∀ k, k < b.length → BiteIn r b k) :
    Calls Try.prog 30 #[v, .agg #[.int .i64 r.Queue, .int .i64 r.From, .int .i64 r.Until, .int .i64 r.Kind, pv], bv] w fun e w' => e = .returned (.bool (heldGo r f0 b)) ∧ Ext w w' := by
  obtain ⟨⟨q1, q2, q3⟩, q4⟩ := req_range hr
  obtain ⟨m1, m3⟩ := hr.many
  obtain ⟨pb, po, pc, rfl, hpc, hpc9, hpb, hpE⟩ := pieces_at hp (by omega)
  have HPE := hid hpE
  have HQ := hid q4
  have HIN := hid hin
  obtain ⟨ba, bc, rfl, hbc, hbc9, hbl, hbE⟩ := bites_at hb
  have HBE := hid hbE
  have HV := hid hv
  have H0 := hid (show ∀ f, heldGo r f [] = true from fun _ => rfl)
  have H1 := hid (fun (f g : List Run) (x : Bite) (b : List Bite) (e low h : Int) h1 h2 => heldGo_step (r := r) (f := f) (g := g) (x := x) (b := b) (e := e) (low := low) (h := h) h1 h2)
  obtain ⟨R, hR⟩ : ∃ R, heldGo r f0 b = R := ⟨_, rfl⟩
  have HR := hid hR
  rw [hR]
  obtain ⟨fa, fc, rfl, _, _, _⟩ := hv.form
  clear hp hb hpE hin hr q4 hR hbE hv
  generalize hnn : r.Pieces.length = n at *
  have Hnn := hid hnn
  clear hnn
  generalize hzz : b.length = z at *
  have Hz := hid hzz
  clear hzz
  generalize f0.length = fn at *
  go_enter Try.func30, Try.ntmps30
  go_wp2_with fail
  have hx0 := (Ext.rf w).al (.cells #[.int .i64 r.Queue, .int .i64 r.From, .int .i64 r.Until, .int .i64 r.Kind, (.slice (some ⟨pb, po, none⟩) n pc)] 37)
  have hR0 := heap_alloc_new w (.cells #[.int .i64 r.Queue, .int .i64 r.From, .int .i64 r.Until, .int .i64 r.Kind, (.slice (some ⟨pb, po, none⟩) n pc)] 37)
  generalize w.alloc (.cells #[.int .i64 r.Queue, .int .i64 r.From, .int .i64 r.Until, .int .i64 r.Kind, (.slice (some ⟨pb, po, none⟩) n pc)] 37) = w1 at *
  have HR1 := hid hR0
  have HX1 := hid hx0
  clear hR0 hx0
  go_loopw [0, 7] (fun v c wr => ∃ (k : Nat) (f : List Run) (ga : Option Addr) (gn gc : Nat), v = .slice ga gn gc ∧ c = .int .i64 k ∧ k ≤ z ∧ Hid (RunsV wr (.slice ga gn gc) f) ∧ Hid (heldGo r f (b.drop k) = R) ∧ Ext w1 wr) (fun _ c _ => z - (intOf c).toNat)
  case atStart => exact ⟨0, f0, fa, fn, fc, rfl, rfl, by omega, hid (HV.out.mono HX1.out), HR, Ext.rf _⟩
  case round =>
    obtain ⟨k, f, ga, gn, gc, rfl, rfl, hk, Hf, Hh, hx⟩ := hrel
    by_cases hlt : k < z
    · have hlt' : (k : Int) < (z : Int) := by omega
      obtain ⟨x, hxk⟩ := getA (f := b) (k := k) (by rw [Hz.out]; exact hlt)
      obtain ⟨bb, bo, rfl, hbb, hBE⟩ := HBE.out (by omega)
      obtain ⟨c1, c2, _, _⟩ := E2.mono w wr bb _ x (HX1.out.tr hx) (hBE k x hxk)
      obtain ⟨e1, e2⟩ := bite_at hxk
      have hI := HIN.out k hlt
      obtain ⟨j, hj⟩ := Int.eq_ofNat_of_zero_le (by have := hI.low; rw [e1] at this; exact this : 0 ≤ x.Piece)
      have hjn : j < n := by have := hI.is; rw [e1, hj, Hnn.out] at this; exact_mod_cast this
      have hA0 : 0 ≤ x.At := by have := hI.at0; rw [e2] at this; exact this
      have hA1 : x.At ≤ 48 := by have := hI.at48; rw [e2] at this; exact this
      obtain ⟨y, hyk⟩ := getA (f := r.Pieces) (k := j) (by rw [Hnn.out]; exact hjn)
      obtain ⟨d1, d2, _, _⟩ := E2.mono w wr pb _ y (HX1.out.tr hx) (HPE.out j y hyk)
      obtain ⟨⟨p1, p2⟩, p3, p4⟩ := HQ.out j hjn
      obtain ⟨eL, eN⟩ := piece_at hyk
      rw [eL] at p1 p2
      rw [eN] at p3 p4
      have hdrop : b.drop k = x :: b.drop (k + 1) := by
        rw [List.drop_eq_getElem_cons (by rw [Hz.out]; exact hlt)]
        have := List.getElem?_eq_getElem (l := b) (i := k) (by rw [Hz.out]; exact hlt)
        rw [hxk] at this
        rw [Option.some.inj this]
      have hh := Hh.out
      rw [hdrop] at hh
      obtain ⟨⟨g, be⟩, hbu⟩ : ∃ q, bumpR f x.At (x.At + y.Len) (-y.N) = q := ⟨_, rfl⟩
      obtain ⟨⟨low, le⟩, hle⟩ : ∃ q, leastR g x.At (x.At + y.Len) = q := ⟨_, rfl⟩
      have hpj : x.Piece.toNat = j := by omega
      rw [heldGo_step (g := g) (e := be) (low := low) (h := le) (by rw [hpj, eL, eN]; exact hbu) (by rw [hpj, eL]; exact hle)] at hh
      have Hh2 := hid hh
      have BU := hid (fun (W : World) (h : Ext wr W) => Bump_any W (.slice ga gn gc) f x.At (x.At + y.Len) (-y.N) (Hf.out.mono h))
      rw [hbu] at BU
      have LE := hid (fun (W : World) (u : Value) (h : RunsV W u g) => Least_any W u g x.At (x.At + y.Len) h)
      rw [hle] at LE
      rw [hj] at c1
      obtain ⟨b0, b1, b2, b3, b4⟩ := cells5_at HR1.out hx
      have t1 := deF (show ¬ (j : Int) < 0 by omega)
      have t2 := deF (show ¬ (n : Int) ≤ (j : Int) by omega)
      have t2' := deF (show ¬ n ≤ j by omega)
      have hw1 : IntKind.i64.wrap (x.At + y.Len) = x.At + y.Len := by rw [IntKind.wrap_i64]; omega
      have hw2 : IntKind.i64.wrap (-y.N) = -y.N := by rw [IntKind.wrap_i64]; omega
      clear hxk e1 e2 hI hj hyk eL eN hdrop hh hbu hle hpj hBE Hh
      go_wp2_with fail
      go_quiet (fail)
      go_wp2_with fail
      have HX2 := hid (Ext.dn (Ext.rf wr) nq)
      replace b4 := HX2.out.ce' b4
      replace c1 := HX2.out.ce' c1
      replace c2 := HX2.out.ce' c2
      replace d1 := HX2.out.ce' d1
      replace d2 := HX2.out.ce' d2
      clear b0 b1 b2 b3
      generalize wr.drewN nq = W2 at *
      go_region_held3 (fun w' => w'.cell? ⟨w.heap.size, 4, none⟩ = some (.slice (some ⟨pb, po, none⟩) n pc) ∧ w'.cell? ⟨bb, bo + k * 2, none⟩ = some (.int .i64 (j : Int)) ∧ w'.cell? ⟨pb, po + j * 2, none⟩ = some (.int .i64 y.Len) ∧ w'.cell? ⟨pb, po + j * 2 + 1, none⟩ = some (.int .i64 y.N)) ((refine keep4 ?_ b4 c1 d1 d2; (repeat (first | exact Ext.rf _ | refine Ext.dr ?_ | refine Ext.al ?_ _ | refine Ext.se ?_ (by simp) _)))) (fail)
      go_wp2_with fail
      have HX3 := hid (((Ext.rf W2).al (.cells #[.int .i64 y.Len, .int .i64 y.N] 83)).dr)
      have k0 : (W2.alloc (.cells #[.int .i64 y.Len, .int .i64 y.N] 83)).drew.cell? ⟨W2.heap.size, 0, none⟩ = some (.int .i64 y.Len) := cell_of_row _ _ 0 _ _ _ (heap_alloc_new W2 _)
      have k1 : (W2.alloc (.cells #[.int .i64 y.Len, .int .i64 y.N] 83)).drew.cell? ⟨W2.heap.size, 1, none⟩ = some (.int .i64 y.N) := cell_of_row _ _ 1 _ _ _ (heap_alloc_new W2 _)
      replace c2 := HX3.out.ce' c2
      clear b4 c1 d1 d2
      generalize (W2.alloc (.cells #[.int .i64 y.Len, .int .i64 y.N] 83)).drew = W3 at *
      generalize W2.heap.size = BP at *
      go_region_held3 (fun w' => w'.cell? ⟨bb, bo + k * 2 + 1, none⟩ = some (.int .i64 x.At) ∧ w'.cell? ⟨BP, 0, none⟩ = some (.int .i64 y.Len) ∧ w'.cell? ⟨BP, 1, none⟩ = some (.int .i64 y.N))
        (first
          | go_keep
          | (go_split_ands
             exact ⟨hxk.ce' (by assumption), hxk.ce' (by assumption), hxk.ce' (by assumption)⟩))
        ((go_at_call 57; refine (BU.out _ (HX2.out.tr (HX3.out.dr))).mono ?_; rintro e W4 ⟨u, rfl, hu, hxk⟩; obtain ⟨ua, uc, rfl, _, _, _⟩ := hu.form; have HU := hid hu; have HX4 := hid (HX3.out.tr (Ext.tr (Ext.dr (Ext.rf W3)) hxk)); have HXk := hid (Ext.tr (Ext.dr (Ext.rf W3)) hxk); clear hu))
      by_cases hbe : be = 0
      · have hbeF := neF hbe
        have m2 := HXk.out.ce' c2
        have m0 := HXk.out.ce' k0
        clear c2 k0 k1
        go_wp2_with fail
        replace m2 := fun p : Later W4 => p.cell m2
        replace m0 := fun p : Later W4 => p.cell m0
        have QL := hid (fun p : Later W4 => later_of p (LE.out p.v _ (HU.out.mono p.h)))
        refine region_later (by kernel_rfl) (by kernel_rfl) ?_
        repeat (go_big_quiet_step (with_reducible exact QL.out _))
        refine wpQuiet_nil ?_
        rintro w' ⟨p, rfl⟩
        have HX5 := hid (HX2.out.tr (HX4.out.tr p.h))
        have HU5 := hid (HU.out.mono p.h)
        clear QL m2 m0
        generalize p.v = W5 at *
        by_cases hle : le = 0
        · have hleF := neF hle
          by_cases hlow : low < 0
          · have hR := hid (show R = false from by rw [← Hh2.out]; exact if_neg (fun h => by have := h.2.2; omega))
            go_wp2_with fail
            go_ret
            exact ⟨ret_bool hR.out.symm, HX1.out.tr (hx.tr HX5.out)⟩
          · have hh3 := hid (show heldGo r g (b.drop (k + 1)) = R from by rw [← Hh2.out]; exact (if_pos ⟨hbe, hle, by omega⟩).symm)
            have hlowF := deF hlow
            go_wp2_with fail
            go_roundw
            case rel => exact ⟨k + 1, g, ua, g.length, uc, rfl, by go_num, by omega, HU5, hh3, hx.tr HX5.out⟩
            case measure => simp [intOf]; omega
        · have hleT := neT hle
          have hR := hid (show R = false from by rw [← Hh2.out]; exact if_neg (fun h => hle h.2.1))
          go_wp2_with fail
          go_ret
          exact ⟨ret_bool hR.out.symm, HX1.out.tr (hx.tr HX5.out)⟩
      · have hbeT := neT hbe
        have hR := hid (show R = false from by rw [← Hh2.out]; exact if_neg (fun h => hbe h.1))
        go_wp2_with fail
        go_ret
        exact ⟨ret_bool hR.out.symm, HX1.out.tr (hx.tr (HX2.out.tr HX4.out))⟩
    · obtain rfl : k = z := by omega
      have hlt' : ¬ (k : Int) < (k : Int) := by omega
      have hh := Hh.out
      rw [List.drop_of_length_le (by rw [Hz.out]; exact Nat.le_refl _), H0.out] at hh
      have HH := hid hh
      clear hh
      go_wp2_with fail
      go_ret
      exact ⟨ret_bool HH.out, HX1.out.tr hx⟩

end Go.Proofs.Ytfbcmifclaaacaa
