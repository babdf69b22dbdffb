/- The laws of load and room. -/
import Derived.Test.YtfbcmifclaaacaaRoom
import Derived.Test.YtfbcmifclaaacaaSown
import Derived.Test.YtfbcmifclaaacaaLawR
import Derived.Test.YtfbcmifclaaacaaFind
import Derived.Test.YtfbcmifclaaacaaRefD
import Derived.WalkSpells
import Derived.StillTactics
import Derived.Tactics2
import Derived.Test.YtfbcmifclaaacaaOver
import Derived.Test.YtfbcmifclaaacaaLawD
import Derived.Deep.RegionHeld3

/- The laws on room: roomBegun is true; RoomFirst. -/
set_option linter.unusedVariables false
namespace Go.Proofs.Ytfbcmifclaaacaa
open Go.RowKit

theorem sownC : booksE (fieldL 10 0 6) sownL = 0 := by
  have m1 : meetsR (plotR 1) [⟨0, 8⟩, ⟨1, 10⟩] = true := by rw [meetsR_dec]; decide +kernel
  have m2 : meetsR ⟨2, 0, 48, 2, [⟨6, 1⟩]⟩ [⟨0, 9⟩] = true := by rw [meetsR_dec]; decide +kernel
  have q2 : reqE (fieldL 10 0 6) ⟨2, 0, 48, 2, [⟨6, 1⟩]⟩ = 0 := reqE_ok fieldC (by decide +kernel) (by decide)
  rw [booksE_first fieldC (by decide)]
  show firstE _ (⟨1, plotR 1, [⟨0, 8⟩, ⟨1, 10⟩]⟩ :: ⟨4, ⟨2, 0, 48, 2, [⟨6, 1⟩]⟩, [⟨0, 9⟩]⟩ :: []) = 0
  rw [firstE_ok plotC m1, firstE_ok q2 m2]
  rfl

def roomL3 : List Run := [⟨0, 8⟩, ⟨8, 5⟩, ⟨10, -1⟩, ⟨12, 2⟩, ⟨15, 8⟩, ⟨20, 4⟩]
theorem roomV3 : roomR (fieldL 10 0 6) sownL 3 = (roomL3, 0) := by
  rw [roomR_ok sownC (by decide)]
  decide +kernel
theorem roomV4 : roomR (fieldL 10 0 6) sownL 4 = ([], 6) := roomR_none sownC (by decide)
theorem roomV1 : firstOfR roomL3 1 48 10 4 = (15, true, 0) := by unfold firstOfR seekR; decide +kernel
theorem roomV2 : firstOfR roomL3 0 48 24 5 = (0, false, 0) := by unfold firstOfR seekR; decide +kernel
theorem roomV5 : firstOfR roomL3 5 5 1 1 = (0, false, 3) := by unfold firstOfR seekR; decide +kernel

theorem roomOf_is {w : World} {v bv : Value} {l : List Queue} {b : List Book} {q : Int} {f : List Run} {n : Int} (h : roomR l b q = (f, n)) (hl : QueuesV w v l) (hb : BooksV w bv b) :
    Calls Try.prog 11 #[v, bv, .int .i64 q] w fun e w' => ∃ u, e = .returned (.tuple #[u, .int .i64 n]) ∧ RunsV w' u f ∧ Ext w w' := by
  have := RoomOf_any w v bv l b q hl hb; rw [h] at this; exact this
theorem sameRuns_is {w : World} {vf vg : Value} {f g : List Run} {b : Bool} (h : decide (f = g) = b) (hf : RunsV w vf f) (hg : RunsV w vg g) :
    Calls Try.prog 52 #[vf, vg] w fun e w' => e = .returned (.bool b) ∧ Ext w w' := by
  have := SameRuns_any w vf vg f g hf hg; rw [h] at this; exact this

end Go.Proofs.Ytfbcmifclaaacaa

/- The laws on what is taken and on room: loadBegun, LoadTells, RoomTells, LoadSum. -/

/- The laws on what is taken: loadBegun is true; LoadTells. -/
set_option linter.unusedVariables false
namespace Go.Proofs.Ytfbcmifclaaacaa
open Go.RowKit

theorem least_nat {P : Nat → Prop} (h : ∃ n, P n) : ∃ n, P n ∧ ∀ m, m < n → ¬ P m := by
  obtain ⟨n, hn⟩ := h
  induction n using Nat.strongRecOn with
  | ind n ih =>
    by_cases h : ∃ m, m < n ∧ P m
    · obtain ⟨m, hm, hp⟩ := h
      exact ih m hm hp
    · exact ⟨n, hn, fun m hm hp => h ⟨m, hm, hp⟩⟩
theorem over_some {l : List Queue} {b : List Book} {f : Nat} (h : ¬ FitsT l b f) : ∃ t q, OverIs l b f t q := by
  have h1 : ∃ t, f ≤ t ∧ t < 48 ∧ ∃ q, q < l.length ∧ leftT l b q t < 0 := by
    apply Classical.byContradiction
    intro hn
    refine h (fun s h1 h2 p hp => ?_)
    apply Classical.byContradiction
    intro h3
    exact hn ⟨s, h1, h2, p, hp, by omega⟩
  obtain ⟨t, ⟨a1, a2, a3⟩, a4⟩ := least_nat h1
  obtain ⟨q, ⟨b1, b2⟩, b3⟩ := least_nat a3
  refine ⟨t, q, a1, a2, b1, b2, fun s h1 h2 p hp => ?_, fun p hp => ?_⟩
  · apply Classical.byContradiction
    intro h3
    exact a4 s h2 ⟨h1, by omega, p, hp, by omega⟩
  · apply Classical.byContradiction
    intro h3
    exact b3 p hp ⟨by omega, by omega⟩
theorem too_yes {l : List Queue} {b : List Book} {f : Nat} (h : ¬ FitsT l b f) : (tooR l b f).2.2 = true := by
  obtain ⟨t, q, h⟩ := over_some h
  rw [tooR_is h]
theorem too_no {l : List Queue} {b : List Book} {f : Nat} (h : FitsT l b f) : (tooR l b f).2.2 = false := by rw [tooR_no h]

def loadL0 : List Run := [⟨0, 0⟩, ⟨8, 3⟩, ⟨9, 4⟩, ⟨10, 10⟩, ⟨12, 7⟩, ⟨15, 0⟩]
def loadL2 : List Run := [⟨0, 0⟩, ⟨9, 1⟩, ⟨15, 0⟩]
def loadL3 : List Run := [⟨0, 0⟩, ⟨8, 3⟩, ⟨10, 9⟩, ⟨12, 6⟩, ⟨15, 0⟩]
theorem loadV0 : (loadsL (fieldL 10 0 6) sownL)[0]? = some loadL0 := by decide +kernel
theorem loadV2 : (loadsL (fieldL 10 0 6) sownL)[2]? = some loadL2 := by decide +kernel
theorem loadV3 : (loadsL (fieldL 10 0 6) sownL)[3]? = some loadL3 := by decide +kernel
theorem fitsV0 : fitsR (fieldL 10 0 6) sownL 0 = (false, 0) := by
  have h : (tooR (fieldL 10 0 6) sownL 0).2.2 = true := too_yes (fun h => by
    have h1 := h 10 (by omega) (by omega) 1 (by decide)
    have h2 : leftT (fieldL 10 0 6) sownL 1 10 < 0 := by decide +kernel
    omega)
  rw [fitsR_ok sownC (by omega)]
  simp only [Int.toNat_zero]
  rw [h]; rfl
theorem fitsV12 : fitsR (fieldL 10 0 6) sownL 12 = (true, 0) := by
  have h : (tooR (fieldL 10 0 6) sownL 12).2.2 = false := too_no (fun s h1 h2 p hp => by
    have h3 : ∀ s, s < 48 → 12 ≤ s → ∀ p, p < 4 → 0 ≤ leftT (fieldL 10 0 6) sownL p s := by decide +kernel
    exact h3 s h2 h1 p hp)
  rw [fitsR_ok sownC (by omega)]
  rw [show (12 : Int).toNat = 12 from rfl, h]; rfl
theorem fitsV49 : fitsR (fieldL 10 0 6) sownL 49 = (false, 3) := fitsR_out sownC (by omega)
theorem sownNC : booksE (fieldL 10 0 6) sownN = 1 := by
  have m1 : meetsR (plotR 1) [] = false := by rw [meetsR_dec]; decide +kernel
  rw [booksE_first fieldC (by decide)]
  exact firstE_form plotC m1
theorem loadVN : loadsR (fieldL 10 0 6) sownN = ([], 1) := by rw [loadsR_bad (by rw [sownNC]; decide), sownNC]

end Go.Proofs.Ytfbcmifclaaacaa

/- Walks of the references room and RoomOf; the law RoomTells. -/
set_option linter.unusedVariables false
namespace Go.Proofs.Ytfbcmifclaaacaa
open Go.RowKit

theorem upd_self (x : Nat → Int) (t : Nat) : upd x t (x t) = x := by
  funext s; unfold upd; split
  · rename_i h; rw [h]
  · rfl
theorem upd_upd (x : Nat → Int) (t : Nat) (a b : Int) : upd (upd x t a) t b = upd x t b := by
  funext s; unfold upd; split <;> simp_all
theorem minTo_step (g : Nat → Int) (ks : List Nat) (k : Nat) {i : Nat} (h : ks[k]? = some i) : minTo g (ks.take (k + 1)) = if k = 0 then g i else min (minTo g (ks.take k)) (g i) := by
  have hk := (List.getElem?_eq_some_iff.1 h).1
  have e : ks.take (k + 1) = ks.take k ++ [i] := by rw [List.take_add_one, h]; rfl
  rw [e]
  by_cases h0 : k = 0
  · subst h0; rw [if_pos rfl]; rfl
  · rw [if_neg h0]
    exact minTo_snoc g i (fun e => by
      have h2 : (ks.take k).length = 0 := by rw [e]; rfl
      rw [List.length_take] at h2
      omega)

theorem sameRuns_yes {w : World} {vf vg : Value} {f : List Run} (hf : RunsV w vf f) (hg : RunsV w vg f) :
    Calls Try.prog 52 #[vf, vg] w fun e w' => e = .returned (.bool true) ∧ Ext w w' := by
  have := SameRuns_any w vf vg f f hf hg; rw [deT rfl] at this; exact this

end Go.Proofs.Ytfbcmifclaaacaa

/- The law LoadSum. -/
set_option linter.unusedVariables false
namespace Go.Proofs.Ytfbcmifclaaacaa
open Go.RowKit

theorem firstE_all {l : List Queue} : ∀ {b : List Book}, firstE l b = 0 ↔ ∀ x ∈ b, reqE l x.Req = 0 ∧ meetsR x.Req x.Bites = true
  | [] => by simp [firstE]
  | y :: b => by
    by_cases h1 : reqE l y.Req = 0
    · by_cases h2 : meetsR y.Req y.Bites = true
      · rw [firstE_ok h1 h2, firstE_all]
        constructor
        · intro h x hx
          rcases List.mem_cons.1 hx with rfl | hx
          · exact ⟨h1, h2⟩
          · exact h x hx
        · exact fun h x hx => h x (List.mem_cons_of_mem _ hx)
      · constructor
        · intro h; rw [firstE_form h1 (by simpa using h2)] at h; omega
        · intro h; exact absurd (h y (List.mem_cons_self ..)).2 h2
    · constructor
      · intro h; rw [firstE_bad h1] at h; exact absurd h h1
      · intro h; exact absurd (h y (List.mem_cons_self ..)).1 h1
/-- books out of right ones are right -/
theorem booksE_sub {l : List Queue} {b c : List Book} (h : booksE l b = 0) (hm : ∀ x ∈ c, x ∈ b) (hc : c.length ≤ 12) : booksE l c = 0 := by
  obtain ⟨_, h0, h12, _⟩ := booksE_zero h
  rw [booksE_first h0 (by omega)] at h
  rw [booksE_first h0 (by omega)]
  exact firstE_all.2 fun x hx => firstE_all.1 h x (hm x hx)

theorem loads_sum {l : List Queue} {b c d : List Book} (he : b = c ++ d) (hc : ∀ x ∈ c, BookOk l x) (hd : ∀ x ∈ d, BookOk l x) (h1 : c.length ≤ 12) (h2 : d.length ≤ 12) (q : Nat) :
    bothR (fold (takenT l c q)) (fold (takenT l d q)) (fun a b => a + b) = (fold (takenT l b q), 0) := by
  have n1 := fun t => takenT_num (l := l) q t c hc
  have n2 := fun t => takenT_num (l := l) q t d hd
  have e : ∀ t, takenT l b q t = takenT l c q t + takenT l d q t := fun t => by rw [he, takenT_append]
  rw [bothR_yes (fine_fold fun t _ => ⟨by have := n1 t; omega, by have := n1 t; omega⟩) (fine_fold fun t _ => ⟨by have := n2 t; omega, by have := n2 t; omega⟩),
    toldT_congr (y := takenT l b q) (fun t ht => by rw [sp_fold ht, sp_fold ht, e]), toldT_yes (fun t _ => ⟨by have := n1 t; have := n2 t; have := e t; omega, by have := n1 t; have := n2 t; have := e t; omega⟩)]

theorem books_take {w : World} {b : List Book} {a : Option Addr} {z c : Nat} (h : BooksV w (.slice a z c) b) (i : Nat) (hi : i ≤ b.length) : BooksV w (.slice a i c) (b.take i) := by
  rcases h with ⟨rfl, a0, cap, e, h1⟩ | ⟨b0, off, cap, e, h1, h2, h3, h4, h5⟩
  · cases e
    obtain rfl : i = 0 := by simpa using hi
    exact .inl ⟨rfl, _, _, rfl, h1⟩
  · cases e
    have hlen : (b.take i).length = i := by rw [List.length_take]; omega
    refine .inr ⟨b0, off, c, by rw [hlen], by rw [hlen]; omega, h2, by rw [hlen]; omega, h4, fun k x hk => ?_⟩
    have hki : k < i := by have := (List.getElem?_eq_some_iff.1 hk).1; omega
    rw [List.getElem?_take_of_lt hki] at hk
    exact h5 k x hk

theorem books_drop0 {w : World} {b : List Book} {a : Option Addr} {z i c : Nat} (h : BooksV w (.slice a z c) b) (hi : i ≤ z) (hc : c ≤ i) : BooksV w (.slice a (z - i) 0) (b.drop i) := by
  obtain ⟨a0, cap, e, h1, h2, _⟩ := h.form
  cases e
  refine .inl ⟨List.drop_eq_nil_of_le (by omega), a, 0, ?_, by omega⟩
  rw [show b.length - i = 0 by omega]
theorem books_drop1 {w : World} {b : List Book} {a : Option Addr} {z c : Nat} (h : BooksV w (.slice a z c) b) (i : Nat) (hi : i ≤ b.length) : BooksV w (.slice (Option.map (fun x => x.add (i * 7)) a) (z - i) (c - i)) (b.drop i) := by
  rcases h with ⟨rfl, a0, cap, e, h1⟩ | ⟨b0, off, cap, e, h1, h2, h3, h4, h5⟩
  · cases e
    exact .inl ⟨by simp, _, _, by rw [Nat.zero_sub], by omega⟩
  · cases e
    have hlen : (b.drop i).length = b.length - i := List.length_drop
    by_cases hz : i = b.length
    · exact .inl ⟨List.drop_eq_nil_of_le (by omega), _, _, by rw [show b.length - i = 0 by omega], by omega⟩
    · refine .inr ⟨b0, off + i * 7, c - i, ?_, by rw [hlen]; omega, by omega, by rw [hlen]; omega, h4, fun k x hk => ?_⟩
      · rw [hlen]
        by_cases hi0 : i * 7 = 0 <;> simp [Addr.add, hi0]
      · rw [List.getElem?_drop] at hk
        have := h5 (i + k) x hk
        rwa [show off + (i + k) * 7 = off + i * 7 + k * 7 by omega] at this

end Go.Proofs.Ytfbcmifclaaacaa
