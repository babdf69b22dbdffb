/- Walk of book.Submit. -/
import Derived.Test.YtncaoclhlfkdoaaGreatPAsk
import Derived.Test.YtncaoclhlfkdoaaGreatPOwnS
set_option linter.unusedVariables false
set_option maxRecDepth 100000
set_option maxHeartbeats 8000000
set_option linter.unusedSimpArgs false
set_option linter.unusedVariables false
namespace Go.Proofs.YtncaoclhlfkdoaaGreat
open Go.RowKit
open List renaming getElem_toArray→zA,getElem_cons_zero→zB,getElem_cons_succ→zC,setIfInBounds_toArray→zD,set_cons_zero→zE,set_cons_succ→zF
def noneS:State:=⟨0,0,[],[]⟩
end Go.Proofs.YtncaoclhlfkdoaaGreat
