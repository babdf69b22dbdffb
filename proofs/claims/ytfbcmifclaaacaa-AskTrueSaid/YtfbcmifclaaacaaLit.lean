/- Literals of aggregates and pairs. -/
import Derived.Test.YtfbcmifclaaacaaBase
import Derived.Deep.RegionHeld3

/- Slices of pairs that are written out. -/
set_option linter.unusedVariables false
namespace Go.Proofs.Ytfbcmifclaaacaa
open Go.RowKit

/-- pairs of numbers that are written out -/
theorem pairs_lit {α : Type} {f g : α → Int} {w : World} {cs : Array Value} {b n : Nat} {t : TypeId} (l : List α) (hb : b = w.heap.size) (hcs : cs = (cells2 f g l).toArray) (hn : n = l.length) (hl : l.length ≤ 48) (hi : ∀ r ∈ l, I64 (f r) ∧ I64 (g r)) :
    SV 2 (E2 f g) (w.alloc (.cells cs t)) (.slice (some ⟨b, 0, none⟩) n n) l := by
  subst hb hcs hn
  refine .inr ⟨w.heap.size, 0, l.length, rfl, Nat.le_refl _, by omega, by omega, by simp, fun k x hk => ?_⟩
  obtain ⟨h1, h2⟩ := cells2_get f g l k x hk
  have h3 := hi x (List.mem_of_getElem? hk)
  have hc : ∀ j v, (cells2 f g l)[j]? = some v → (w.alloc (.cells (cells2 f g l).toArray t)).cell? ⟨w.heap.size, 0 + j, none⟩ = some v := fun j v hv => by
    rw [cell_of_row _ _ _ _ _ _ (heap_alloc_new w _), Nat.zero_add]; simpa using hv
  exact ⟨hc _ _ h1, by rw [Nat.add_assoc]; exact hc _ _ h2, h3.1, h3.2⟩

theorem lit_bites {l : List Bite} (h : (l.all fun r => decide (-9000000 ≤ r.Piece ∧ r.Piece ≤ 9000000 ∧ -9000000 ≤ r.At ∧ r.At ≤ 9000000)) = true) : ∀ r ∈ l, I64 r.Piece ∧ I64 r.At := fun r hr => by
  have := of_decide_eq_true (List.all_eq_true.1 h r hr)
  exact ⟨I64.of (by omega) (by omega), I64.of (by omega) (by omega)⟩
theorem bites_lit {w : World} {cs : Array Value} {b n : Nat} {t : TypeId} (l : List Bite) (hb : b = w.heap.size) (hcs : cs = (cells2 Bite.Piece Bite.At l).toArray) (hn : n = l.length) (hl : l.length ≤ 48) (h : (l.all fun r => decide (-9000000 ≤ r.Piece ∧ r.Piece ≤ 9000000 ∧ -9000000 ≤ r.At ∧ r.At ≤ 9000000)) = true) :
    BitesV (w.alloc (.cells cs t)) (.slice (some ⟨b, 0, none⟩) n n) l := pairs_lit l hb hcs hn hl (lit_bites h)

end Go.Proofs.Ytfbcmifclaaacaa

/- A region that draws its order: two operations that may come up together, each laying blocks of its own; what they leave is the same in either order. -/
set_option linter.unusedVariables false
namespace Go.Proofs.Ytfbcmifclaaacaa
open Go.RowKit

section
variable {P : Program} {ops : Array Oper} {Q : Exit → Act → World → Prop} {md : Region.Mode} {S : World → Prop}

theorem wpAnyH_pair {i j : Nat} {oi oj : Oper} (Ri Rj : Value → World → Prop) {fuel : Nat} {listed : Array Bool} {a : Act} {w : World}
    (hi : ops[i]? = some oi) (hj : ops[j]? = some oj)
    (hr : Region.ready md ops listed = [i, j]) (hri : Region.ready md ops (listed.setIfInBounds i true) = [j]) (hrj : Region.ready md ops (listed.setIfInBounds j true) = [i]) (hij : (i == j) = false)
    (hd : ∀ v u, (a.put oj.dst u).put oi.dst v = (a.put oi.dst v).put oj.dst u)
    (wi : Region.wanted oi (yielded ops a.tmps) = true) (wj : Region.wanted oj (yielded ops a.tmps) = true)
    (wi' : ∀ u, Region.wanted oi (yielded ops (a.put oj.dst u).tmps) = true) (wj' : ∀ v, Region.wanted oj (yielded ops (a.put oi.dst v).tmps) = true)
    (h1 : ∀ K : Act → World → Prop, Shut (∀ v w', Ri v w' → S w' → K (a.put oi.dst v) w') → Oper.wp P oi a w K Q)
    (h2 : ∀ K : Act → World → Prop, Shut (∀ u w', Rj u w' → S w' → K (a.put oj.dst u) w') → Oper.wp P oj a w K Q)
    (h12 : ∀ v w1, Ri v w1 → S w1 → ∀ K : Act → World → Prop, Shut (∀ u w', Rj u w' → Ri v w' → S w' → K ((a.put oi.dst v).put oj.dst u) w') → Oper.wp P oj (a.put oi.dst v) w1 K Q)
    (h21 : ∀ u w1, Rj u w1 → S w1 → ∀ K : Act → World → Prop, Shut (∀ v w', Ri v w' → Rj u w' → S w' → K ((a.put oj.dst u).put oi.dst v) w') → Oper.wp P oi (a.put oj.dst u) w1 K Q)
    (K : ∀ v u w', Ri v w' → Rj u w' → S w' → wpAnyH P md ops Q S fuel ((listed.setIfInBounds i true).setIfInBounds j true) ((a.put oi.dst v).put oj.dst u) w') :
    wpAnyH P md ops Q S (fuel + 2) listed a w := by
  have hij' : i ≠ j := by simpa using hij
  refine wpAnyH_all (fuel := fuel + 1) hr (by simp) (fun x hx => ?_)
  simp only [List.mem_cons, List.not_mem_nil, or_false] at hx
  rcases hx with rfl | rfl
  · refine wpOp_step hi (fun K' hK => ?_)
    rw [if_pos wi]
    refine h1 K' (fun v w' hv hS => hK _ _ ⟨hS, ?_⟩)
    refine wpAnyH_ready hri (by simp) (AllReadyH.cons hj (fun K2 hK2 => ?_) AllReadyH.nil)
    rw [if_pos (wj' v)]
    exact h12 v w' hv hS K2 (fun u w2 hu hv2 hS2 => hK2.out _ _ hS2 (fun _ => K v u w2 hv2 hu hS2))
  · refine wpOp_step hj (fun K' hK => ?_)
    rw [if_pos wj]
    refine h2 K' (fun u w' hu hS => hK _ _ ⟨hS, ?_⟩)
    refine wpAnyH_ready hrj (by simp) (AllReadyH.cons hi (fun K2 hK2 => ?_) AllReadyH.nil)
    rw [if_pos (wi' u)]
    refine h21 u w' hu hS K2 (fun v w2 hv hu2 hS2 => hK2.out _ _ hS2 (fun _ => ?_))
    rw [hd, Array.setIfInBounds_comm _ _ (Ne.symm hij')]
    exact K v u w2 hv hu2 hS2
end

end Go.Proofs.Ytfbcmifclaaacaa
