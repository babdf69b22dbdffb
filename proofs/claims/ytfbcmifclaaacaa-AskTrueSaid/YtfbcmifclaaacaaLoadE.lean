/- load.Of of the reference, and the code: takes, taken, the same loads. -/
import Derived.Test.YtfbcmifclaaacaaLoadD
import Derived.Test.YtfbcmifclaaacaaReqG
import Derived.Deep.RegionHeld3
import Derived.Test.YtfbcmifclaaacaaRegion

/- Walk of load.Of; the reference's CheckBooks. -/
set_option linter.unusedVariables false
namespace Go.Proofs.Ytfbcmifclaaacaa
open Go.RowKit

/-- what is taken of all queues -/
def loadsL (l : List Queue) (b : List Book) : List (List Run) := (List.range l.length).map fun k => fold (takenT l b k)
/-- and an error -/
@[irreducible] noncomputable def loadsR (l : List Queue) (b : List Book) : List (List Run) × Int := if booksE l b = 0 then (loadsL l b, 0) else ([], booksE l b)
theorem loadsR_bad {l : List Queue} {b : List Book} (h : booksE l b ≠ 0) : loadsR l b = ([], booksE l b) := by unfold loadsR; rw [if_neg h]
theorem loadsR_ok {l : List Queue} {b : List Book} (h : booksE l b = 0) : loadsR l b = (loadsL l b, 0) := by unfold loadsR; rw [if_pos h]
def RetLoads2 (w : World) (r : List (List Run) × Int) (e : Ending) (w' : World) : Prop := ∃ v, e = .returned (.tuple #[v, .int .i64 r.2]) ∧ LoadsV w' v r.1 ∧ Ext w w'
theorem retLoads2_of {w w' : World} {r : List (List Run) × Int} {l : List (List Run)} {n : Int} {v : Value} (h : r = (l, n)) (hv : LoadsV w' v l) (hx : Ext w w') : RetLoads2 w r (.returned (.tuple #[v, .int .i64 n])) w' := by
  subst h; exact ⟨v, rfl, hv, hx⟩

end Go.Proofs.Ytfbcmifclaaacaa

/- Walks of the references takes, taken, LoadOf, SameLoads. -/

/- Walk of the reference's takes. -/
set_option linter.unusedVariables false
namespace Go.Proofs.Ytfbcmifclaaacaa
open Go.RowKit

theorem keep5 {w1 w' : World} {a1 a2 a3 a4 a5 : Addr} {a b c d e : Value} (hx : Ext w1 w') (b0 : w1.cell? a1 = some a) (b1 : w1.cell? a2 = some b) (b2 : w1.cell? a3 = some c) (b3 : w1.cell? a4 = some d) (b4 : w1.cell? a5 = some e) :
    w'.cell? a1 = some a ∧ w'.cell? a2 = some b ∧ w'.cell? a3 = some c ∧ w'.cell? a4 = some d ∧ w'.cell? a5 = some e := by
  have k : ∀ {a : Addr} {v : Value}, w1.cell? a = some v → w'.cell? a = some v := fun {a v} h => by
    rw [hx.cell (World.block_lt_of_cell? w1 a h)]; exact h
  exact ⟨k b0, k b1, k b2, k b3, k b4⟩

end Go.Proofs.Ytfbcmifclaaacaa

/- Walk of the reference's taken. -/
set_option linter.unusedVariables false
namespace Go.Proofs.Ytfbcmifclaaacaa
open Go.RowKit

end Go.Proofs.Ytfbcmifclaaacaa

/- Walk of the reference's LoadOf. -/
set_option linter.unusedVariables false
namespace Go.Proofs.Ytfbcmifclaaacaa
open Go.RowKit

/-- k slices, in a row of its own -/
def LoadsRow (base k : Nat) (v : Value) (F : Nat → Nat → Int) (W : World) : Prop :=
  ∃ vs : List Value, W.ownsRow base 29 1 v k vs ∧ ∀ j u, vs[j]? = some u → RunsV W u (fold (F j)) ∧ ∀ g, v.ownBlock = some g → ApartL [g] u
theorem LoadsRow.nil (base : Nat) (F : Nat → Nat → Int) (W : World) : LoadsRow base 0 (.slice none 0 0) F W := ⟨[], World.ownsRow_nil _ _ _ _, fun j u h => by simp at h⟩
theorem LoadsRow.ext {base k : Nat} {v : Value} {F : Nat → Nat → Int} {W W' : World} (h : LoadsRow base k v F W) (hx : Ext W W') : LoadsRow base k v F W' := by
  obtain ⟨vs, h1, h2⟩ := h
  exact ⟨vs, ownsRow_ext h1 hx, fun j u hj => ⟨(h2 j u hj).1.mono hx, (h2 j u hj).2⟩⟩
theorem LoadsRow.step {base k : Nat} {v : Value} {F : Nat → Nat → Int} {W W' : World} {vs : List Value} {u : Value} {g cap : Nat} (h1 : W.ownsRow base 29 1 v k vs) (h2 : ∀ j u, vs[j]? = some u → RunsV W u (fold (F j)) ∧ ∀ g, v.ownBlock = some g → ApartL [g] u)
    (hu : RunsV W u (fold (F k))) (hf : ∀ g, v.ownBlock = some g → ApartL [g] u) (ho : W'.ownsRow base 29 1 (.slice (some ⟨g, 0, none⟩) (k + 1) cap) (k + 1) (vs ++ [u])) (hg : W.grownBy W' v.ownBlock) (hgg : v.ownBlock = some g ∨ g = W.heap.size) :
    LoadsRow base (k + 1) (.slice (some ⟨g, 0, none⟩) (k + 1) cap) F W' := by
  have hlen : vs.length = k := by have := h1.1; omega
  have key : ∀ j y, RunsV W y (fold (F j)) → (∀ g, v.ownBlock = some g → ApartL [g] y) → RunsV W' y (fold (F j)) ∧ ∀ g', (Value.slice (some ⟨g, 0, none⟩) (k + 1) cap).ownBlock = some g' → ApartL [g'] y := by
    intro j y hy ha
    obtain ⟨b, off, c, e, hb, _⟩ := runs_cells hy (fold_ne _)
    refine ⟨runsV_grown hy hg (fun a n c e he => ha a.block he.symm a n c e (List.mem_singleton.2 rfl)), fun g' hg' => ?_⟩
    obtain rfl : g = g' := by simpa [Value.ownBlock] using hg'
    subst e
    rcases hgg with h | h
    · exact ha g h
    · exact apart_at (fun hm => by have := List.mem_singleton.1 hm; omega)
  refine ⟨vs ++ [u], ho, fun j y hj => ?_⟩
  rcases Nat.lt_or_ge j k with hlt | hge
  · rw [List.getElem?_append_left (by omega)] at hj
    exact key j y (h2 j y hj).1 (h2 j y hj).2
  · rw [List.getElem?_append_right (by omega)] at hj
    obtain rfl : j = k := by
      have := (List.getElem?_eq_some_iff.1 hj).1
      simp at this; omega
    have e : u = y := by
      rw [hlen, Nat.sub_self] at hj
      simpa using hj
    subst e
    exact key j u hu hf
theorem LoadsRow.loads {base n : Nat} {v : Value} {F : Nat → Nat → Int} {W : World} (h : LoadsRow base n v F W) (hn : n ≤ 5) : LoadsV W v ((List.range n).map fun k => fold (F k)) := by
  obtain ⟨vs, h1, h2⟩ := h
  have hlen : vs.length = n := by have := h1.1; omega
  rcases h1.2 with ⟨rfl, rfl⟩ | ⟨g, cap, cur, rfl, hb, hg, hc, hm, hcs, htk⟩
  · exact SV.nil
  · refine .inr ⟨g, 0, cap, by simp, by simpa using hc, by unfold maxLen at hm; omega, by simp; omega, (Array.getElem?_eq_some_iff.1 hg).1, fun k x hk => ?_⟩
    have hkn : k < n := by have := (List.getElem?_eq_some_iff.1 hk).1; simpa using this
    obtain ⟨u, hu⟩ := getA (f := vs) (k := k) (by omega)
    have e : x = fold (F k) := by simp [hkn] at hk; exact hk.symm
    rw [e, Nat.zero_add, Nat.mul_one]
    refine ⟨u, ?_, (h2 k u hu).1⟩
    have := h1.cells (g := g) rfl k u hu
    by_cases e0 : k = 0 <;> simpa [Addr.add, e0] using this

theorem slice_one (W : World) {B : Nat} (hB : B = W.heap.size) (a : Value) (t : TypeId) : ∀ (j : Nat) u, [a][j]? = some u → (W.alloc (.cells #[a] t)).cell? ((⟨B, 0, none⟩ : Addr).add j) = some u := new1 W hB a t

end Go.Proofs.Ytfbcmifclaaacaa

/- Walk of SameLoads. -/
set_option linter.unusedVariables false
namespace Go.Proofs.Ytfbcmifclaaacaa
open Go.RowKit

theorem loads_at {w : World} {v : Value} {l : List (List Run)} (hv : LoadsV w v l) : ∃ a cap, v = .slice a l.length cap ∧ l.length ≤ cap ∧ cap ≤ 9223372036854775807 ∧ l.length ≤ 17592186044416 ∧
    (1 ≤ l.length → ∃ b off, a = some ⟨b, off, none⟩ ∧ b < w.heap.size ∧ ∀ k x, l[k]? = some x → ∃ u, w.cell? ⟨b, off + k, none⟩ = some u ∧ RunsV w u x) := by
  rcases hv with ⟨rfl, a, cap, rfl, h⟩ | ⟨b, off, cap, rfl, h1, h2, h3, h4, h5⟩
  · exact ⟨a, cap, rfl, by simp, h, by simp, fun h => by simp at h⟩
  · refine ⟨_, cap, rfl, h1, h2, h3, fun _ => ⟨b, off, rfl, h4, fun k x hk => ?_⟩⟩
    have := h5 k x hk
    rw [Nat.mul_one] at this
    exact this

theorem take_eq_step {α : Type} {f g : List α} {k : Nat} {x : α} (h : f.take k = g.take k) (hf : f[k]? = some x) (hg : g[k]? = some x) : f.take (k + 1) = g.take (k + 1) := by
  rw [List.take_add_one, List.take_add_one, h, hf, hg]
theorem take_ne {α : Type} {f g : List α} {k : Nat} {x y : α} (hf : f[k]? = some x) (hg : g[k]? = some y) (h : x ≠ y) : f ≠ g := fun e => by
  subst e; rw [hf] at hg; exact h (Option.some.inj hg)
theorem take_all_eq {α : Type} {f g : List α} {n : Nat} (h : f.take n = g.take n) (hf : f.length = n) (hg : g.length = n) : f = g := by
  rwa [List.take_of_length_le (by omega), List.take_of_length_le (by omega)] at h

end Go.Proofs.Ytfbcmifclaaacaa
