/- OwnState; SubmitOf; each theorem names its own conditions. -/
import Derived.Test.YtdcndkojmflhnaaGreatPOwnS
import Derived.Test.YtdcndkojmflhnaaGreatPSub
/- Walks of the reference: ownBook, OwnState. -/
set_option linter.unusedVariables false
set_option maxRecDepth 100000
set_option maxHeartbeats 8000000
set_option linter.unusedSimpArgs false
set_option linter.unusedVariables false
namespace Go.Proofs.YtdcndkojmflhnaaGreat
open Go.RowKit
open List renaming getElem_toArray→zA,getElem_cons_zero→zB,getElem_cons_succ→zC,setIfInBounds_toArray→zD,set_cons_zero→zE,set_cons_succ→zF
theorem two_boxes2 (w:World) (s:State) (tv bv:Value):∃ w1:World,(w.alloc (.cells #[.int .i64 s.Clock,.int .i64 s.Next,tv,bv] 25)).alloc (.cells #[.int .i64 0,.int .i64 0,.slice none 0 0,.slice none 0 0] 25)=w1∧Ext w w1∧(∀ W,Ext w1 W→(W.cell? ⟨w.heap.size,0,none⟩=some (.int .i64 s.Clock)∧W.cell? ⟨w.heap.size,1,none⟩=some (.int .i64 s.Next)∧W.cell? ⟨w.heap.size,2,none⟩=some tv∧W.cell? ⟨w.heap.size,3,none⟩=some bv)) ∧
  (∀ W,Ext w1 W→W.heap[w.heap.size+1]?=some (.cells #[.int .i64 0,.int .i64 0,.slice none 0 0,.slice none 0 0] 25 (0,0)))∧w1.heap.size=w.heap.size+2:=by
 refine ⟨_,rfl,((Ext.rf w).al _).al _,fun W h=>stateCells (((Ext.rf _).al _).tr h),fun W h=>?_,by simp⟩
 have e:=heap_alloc_new (w.alloc (.cells #[.int .i64 s.Clock,.int .i64 s.Next,tv,bv] 25)) (.cells #[.int .i64 0,.int .i64 0,.slice none 0 0,.slice none 0 0] 25)
 simp only [World.size_alloc] at e
 exact (h.block _ (by simp)).trans e
structure RefAt (w wb:World) (X:Nat) (u:Value) (s:State) (bk:List Book) (v:Value) (W:World):Prop where
 box:W.heap[X]?=some (.cells #[.int .i64 s.Clock,.int .i64 s.Next,u,v] 25 (0,0))
 own:OwnS [X,w.heap.size+1,w.heap.size] w.heap.size W u v s.Tree bk
 ext:Ext wb W
 low:wb.heap.size≤X
theorem RefAt.later {w wb:World} {X:Nat} {u:Value} {s:State} {bk:List Book} {v:Value} {W W':World} (h:RefAt w wb X u s bk v W) (hx:Ext W W'):RefAt w wb X u s bk v W' :=
 ⟨(hx.block X (Array.getElem?_eq_some_iff.1 h.box).1).trans h.box,h.own.ext hx,h.ext.tr hx,h.low⟩
/- Walk of the reference's SubmitOf. -/
set_option linter.unusedVariables false
end Go.Proofs.YtdcndkojmflhnaaGreat
