/- asked; booked; each theorem names its own conditions. -/
import Derived.Test.YtdcndkojmflhnaaGreatPAsk
import Derived.Test.YtdcndkojmflhnaaGreatPRefO
import Derived.Test.YtdcndkojmflhnaaGreatPTick
/- askBegun; the law AskTells. -/
set_option linter.unusedVariables false
set_option maxRecDepth 100000
set_option maxHeartbeats 8000000
set_option linter.unusedSimpArgs false
set_option linter.unusedVariables false
namespace Go.Proofs.YtdcndkojmflhnaaGreat
open Go.RowKit
open List renaming getElem_toArray→zA,getElem_cons_zero→zB,getElem_cons_succ→zC,setIfInBounds_toArray→zD,set_cons_zero→zE,set_cons_succ→zF
theorem ret2_parts {P:Program} {f:FuncId} {args:Array Value} {W:World} {S:State} {m:Int} (h:Calls P f args W (RetState2 W (S,m))) :
  Calls P f args W fun e w'=>∃ u v,e=.returned (.tuple #[.agg #[.int .i64 S.Clock,.int .i64 S.Next,u,v],.int .i64 m])∧QueuesV w' u S.Tree∧BooksV w' v S.Books∧Ext W w' :=
 h.mono fun e w' ⟨u,v,h1,h2,h3⟩=>⟨u,v,h1,h2.tree,h2.books,h3⟩
theorem newState {W V:World} {a b c d:Value} {t:TypeId} (h:Ext (W.alloc (.cells #[a,b,c,d] t)) V) :
  V.cell? ⟨W.heap.size,0,none⟩=some a∧V.cell? ⟨W.heap.size,1,none⟩=some b∧V.cell? ⟨W.heap.size,2,none⟩=some c∧V.cell? ⟨W.heap.size,3,none⟩=some d:=stateCells h
end Go.Proofs.YtdcndkojmflhnaaGreat
