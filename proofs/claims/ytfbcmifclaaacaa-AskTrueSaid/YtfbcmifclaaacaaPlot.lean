/- The barn's request, that the statements write out. -/
import Derived.Test.YtfbcmifclaaacaaLit
import Derived.Test.YtfbcmifclaaacaaSame
import Derived.WalkSpells
import Derived.StillTactics
import Derived.Tactics2
set_option linter.unusedVariables false
namespace Go.Proofs.Ytfbcmifclaaacaa
open Go.RowKit

theorem i64_small' {n : Int} (h1 : -1000 ≤ n) (h2 : n ≤ 1000) : I64 n := I64.of (by omega) (by omega)
/-- the barn's request -/
def plotL : List Piece := [⟨4, 3⟩, ⟨5, 6⟩]
def plotR (k : Int) : Request := ⟨3, 2, 30, k, plotL⟩

set_option maxRecDepth 100000 in
theorem plot_any (w : World) (k : Int) : Calls Try.prog 64 #[.int .i64 k] w fun e w' => ∃ pb : Nat, e = .returned (.agg #[.int .i64 3, .int .i64 2, .int .i64 30, .int .i64 k, .slice (some ⟨pb, 0, none⟩) 2 2]) ∧ PiecesV w' (.slice (some ⟨pb, 0, none⟩) 2 2) plotL ∧ Ext w w' := by
  have hp := hid (fun (W : World) (t : TypeId) => pairs_lit (f := Piece.Len) (g := Piece.N) (w := W) (b := W.heap.size) (n := 2) (cs := #[.int .i64 4, .int .i64 3, .int .i64 5, .int .i64 6]) (t := t) plotL rfl rfl rfl (by decide) (fun r hr => by simp [plotL] at hr; rcases hr with rfl | rfl <;> exact ⟨i64_small' (by decide) (by decide), i64_small' (by decide) (by decide)⟩))
  go_enter Try.func64, Try.ntmps64
  go_wp2_with fail
  have hrow : ∀ (o1 o2 : Obj), ((w.alloc o1).alloc o2).heap[w.heap.size]? = some o1 := fun o1 o2 => by
    rw [((Ext.rf (w.alloc o1)).al o2).block w.heap.size (by simp)]; exact heap_alloc_new w o1
  refine bodyPost_ret (v := .agg #[.int .i64 3, .int .i64 2, .int .i64 30, .int .i64 k, .slice (some ⟨w.heap.size + 1, 0, none⟩) 2 2]) (results_cell_row rfl _ _ w.heap.size 37 _ (0, 0) _ rfl (hrow _ _) Try.underlying37 rfl (by kernel_rfl)) rfl ⟨_, rfl, ?_, ((Ext.rf w).al _).al _⟩
  have := hp.out (w.alloc (.cells #[.int .i64 3, .int .i64 2, .int .i64 30, .int .i64 k, .slice (some ⟨w.heap.size + 1, 0, none⟩) 2 2] 37)) 83
  rw [World.size_alloc] at this
  exact this

end Go.Proofs.Ytfbcmifclaaacaa
