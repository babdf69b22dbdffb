/- The laws on queues: treeBegun is true; TreeTells. -/
import Derived.Test.YtoclbapkgfmphaaField
set_option linter.unusedVariables false
namespace Go.Proofs.Ytoclbapkgfmphaa
open Go.RowKit

theorem treeCheck_is {w : World} {v : Value} {l : List Queue} {n : Int} (h : checkT l = n) (hv : QueuesV w v l) :
    Calls Try.prog 65 #[v] w fun e w' => e = .returned (.int .i64 n) ∧ Ext w w' := by
  have := treeCheck_any w v l hv; rw [h] at this; exact this
theorem Name_is (s : ByteArray) (b : Bool) (h : decide (NameOk s) = b) (hs : s.size ≤ 9223372036854775807) (w : World) :
    Calls Try.prog 109 #[.string s] w fun e w' => e = .returned (.bool b) ∧ Ext w w' := by
  have := Name_any w s hs; rw [h] at this; exact this
/-- numbers that are written out -/
theorem ints_lit {w : World} {cs : Array Value} {b n : Nat} {t : TypeId} (l : List Int) (hb : b = w.heap.size) (hcs : cs = (l.map (Value.int .i64)).toArray) (hn : n = l.length) (hl : l.length ≤ 60) (hi : ∀ x ∈ l, I64 x) :
    IntsV (w.alloc (.cells cs t)) (.slice (some ⟨b, 0, none⟩) n n) l := by
  subst hb hcs hn
  refine .inr ⟨w.heap.size, 0, l.length, rfl, Nat.le_refl _, by omega, by omega, by simp, fun k x hk => ?_⟩
  refine ⟨?_, hi x (List.mem_of_getElem? hk)⟩
  rw [cell_of_row _ _ _ _ _ _ (heap_alloc_new w _)]
  simp [hk]
theorem bools_lit {w : World} {cs : Array Value} {b n : Nat} {t : TypeId} (l : List Bool) (hb : b = w.heap.size) (hcs : cs = (l.map Value.bool).toArray) (hn : n = l.length) (hl : l.length ≤ 60) :
    BoolsV (w.alloc (.cells cs t)) (.slice (some ⟨b, 0, none⟩) n n) l := by
  subst hb hcs hn
  refine .inr ⟨w.heap.size, 0, l.length, rfl, Nat.le_refl _, by omega, by omega, by simp, fun k x hk => ?_⟩
  show World.cell? _ _ = _
  rw [cell_of_row _ _ _ _ _ _ (heap_alloc_new w _)]
  simp [hk]

/-- the line, where there is no error -/
theorem lineL_pure {l : List Queue} {q : Int} : lineR l q = (if queueE l q = 0 then (lineL l q).map fun k : Nat => (k : Int) else [], queueE l q) := by
  by_cases h : queueE l q = 0
  · rw [lineR_ok h, if_pos h, h]
  · rw [lineR_bad h, if_neg h]
theorem underL_pure {l : List Queue} {q : Int} : underR l q = (if queueE l q = 0 then underL l q else [], queueE l q) := by
  by_cases h : queueE l q = 0
  · rw [underR_ok h, if_pos h, h]
  · rw [underR_bad h, if_neg h]

end Go.Proofs.Ytoclbapkgfmphaa
