/- Slices of pairs that are written out. -/
import Derived.Test.YtoclbapkgfmphaaBase
set_option linter.unusedVariables false
namespace Go.Proofs.Ytoclbapkgfmphaa
open Go.RowKit

/-- pairs of numbers that are written out -/
theorem pairs_lit {α : Type} {f g : α → Int} {w : World} {cs : Array Value} {b n : Nat} {t : TypeId} (l : List α) (hb : b = w.heap.size) (hcs : cs = (cells2 f g l).toArray) (hn : n = l.length) (hl : l.length ≤ 48) (hi : ∀ r ∈ l, I64 (f r) ∧ I64 (g r)) :
    SV 2 (E2 f g) (w.alloc (.cells cs t)) (.slice (some ⟨b, 0, none⟩) n n) l := by
  subst hb hcs hn
  refine .inr ⟨w.heap.size, 0, l.length, rfl, Nat.le_refl _, by omega, by omega, by simp, fun k x hk => ?_⟩
  obtain ⟨h1, h2⟩ := cells2_get f g l k x hk
  have h3 := hi x (List.mem_of_getElem? hk)
  have hc : ∀ j v, (cells2 f g l)[j]? = some v → (w.alloc (.cells (cells2 f g l).toArray t)).cell? ⟨w.heap.size, 0 + j, none⟩ = some v := fun j v hv => by
    rw [cell_of_row _ _ _ _ _ _ (heap_alloc_new w _), Nat.zero_add]; simpa using hv
  exact ⟨hc _ _ h1, by rw [Nat.add_assoc]; exact hc _ _ h2, h3.1, h3.2⟩

theorem lit_bites {l : List Bite} (h : (l.all fun r => decide (-9000000 ≤ r.Piece ∧ r.Piece ≤ 9000000 ∧ -9000000 ≤ r.At ∧ r.At ≤ 9000000)) = true) : ∀ r ∈ l, I64 r.Piece ∧ I64 r.At := fun r hr => by
  have := of_decide_eq_true (List.all_eq_true.1 h r hr)
  exact ⟨I64.of (by omega) (by omega), I64.of (by omega) (by omega)⟩
theorem bites_lit {w : World} {cs : Array Value} {b n : Nat} {t : TypeId} (l : List Bite) (hb : b = w.heap.size) (hcs : cs = (cells2 Bite.Piece Bite.At l).toArray) (hn : n = l.length) (hl : l.length ≤ 48) (h : (l.all fun r => decide (-9000000 ≤ r.Piece ∧ r.Piece ≤ 9000000 ∧ -9000000 ≤ r.At ∧ r.At ≤ 9000000)) = true) :
    BitesV (w.alloc (.cells cs t)) (.slice (some ⟨b, 0, none⟩) n n) l := pairs_lit l hb hcs hn hl (lit_bites h)

end Go.Proofs.Ytoclbapkgfmphaa
