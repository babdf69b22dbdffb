/- asked; booked -/
import Derived.Test.YtncaoclhlfkdoaaGreatPAsk
import Derived.Test.YtncaoclhlfkdoaaGreatPRefO
import Derived.Test.YtncaoclhlfkdoaaGreatPCan
/- askBegun; the law AskTells. -/
set_option linter.unusedVariables false
set_option maxRecDepth 100000
set_option maxHeartbeats 8000000
set_option linter.unusedSimpArgs false
set_option linter.unusedVariables false
namespace Go.Proofs.YtncaoclhlfkdoaaGreat
open Go.RowKit
open List renaming getElem_toArray→zA,getElem_cons_zero→zB,getElem_cons_succ→zC,setIfInBounds_toArray→zD,set_cons_zero→zE,set_cons_succ→zF
theorem newState {W V:World} {a b c d:Value} {t:TypeId} (h:Ext (W.alloc (.cells #[a,b,c,d] t)) V) :
  V.cell? ⟨W.heap.size,0,none⟩=some a∧V.cell? ⟨W.heap.size,1,none⟩=some b∧V.cell? ⟨W.heap.size,2,none⟩=some c∧V.cell? ⟨W.heap.size,3,none⟩=some d:=stateCells h
end Go.Proofs.YtncaoclhlfkdoaaGreat
