/- ChangeOf; each theorem names its own conditions. -/
import Derived.Test.YtdcndkojmflhnaaGreatPCutJ
set_option linter.unusedVariables false
set_option linter.unusedSimpArgs false
set_option maxRecDepth 100000
set_option maxHeartbeats 8000000
set_option linter.unusedSimpArgs false
set_option linter.unusedVariables false
namespace Go.Proofs.YtdcndkojmflhnaaGreat
open Go.RowKit
open List renaming getElem_toArray→zA,getElem_cons_zero→zB,getElem_cons_succ→zC,setIfInBounds_toArray→zD,set_cons_zero→zE,set_cons_succ→zF
theorem BCells.ext {W W':World} {g o:Nat} {x:Book} {pv bv:Value} (h:BCells W g o x pv bv) (hx:Ext W W'):BCells W' g o x pv bv :=
 ⟨hx.ce' h.1,hx.ce' h.2.1,hx.ce' h.2.2.1,hx.ce' h.2.2.2.1,hx.ce' h.2.2.2.2.1,hx.ce' h.2.2.2.2.2.1,hx.ce' h.2.2.2.2.2.2⟩
end Go.Proofs.YtdcndkojmflhnaaGreat
