/- Walks of the reference's find; room.First; each theorem names its own conditions. -/
import Derived.Test.YtdcndkojmflhnaaGreatPRunsZ
import Derived.Test.YtdcndkojmflhnaaGreatPSeekS
import Derived.Test.YtdcndkojmflhnaaGreatPPlace
import Derived.Test.YtdcndkojmflhnaaGreatPReqL
import Derived.Laws.Rows
import Derived.BigQuiet
import Derived.Deep.RegionHeld3
/- Walks of the references: has, first, FirstOf; room.First. -/
set_option linter.unusedVariables false
set_option maxRecDepth 100000
set_option maxHeartbeats 8000000
set_option linter.unusedSimpArgs false
set_option linter.unusedVariables false
namespace Go.Proofs.YtdcndkojmflhnaaGreat
open Go.RowKit
open List renaming getElem_toArray→zA,getElem_cons_zero→zB,getElem_cons_succ→zC,setIfInBounds_toArray→zD,set_cons_zero→zE,set_cons_succ→zF
theorem FreshV.later {w W:World} {u:Value} (h:FreshV W u) (hx:Ext w W):FreshV w u:=fun a n c e=>by
 have:=h a n c e
 have:=hx.size
 omega
def TabOk (k:Nat) (x:Nat→Int):Prop:=∀ t,t < 48→-1000000000 - 50*(k:Int)≤x t∧x t≤1000000000
theorem TabOk.next {k:Nat} {x:Nat→Int} (h:TabOk k x):TabOk (k+1) x:=fun t ht=>by have:=h t ht;omega
theorem TabOk.take {k t z:Nat} {x:Nat→Int} {n:Int} (h:TabOk k x) (hn:1≤n∧n≤50):TabOk (k+1) (fun s=>x s+hillT t (t+z) (-n) s):=fun s hs=>by
 have h1:=h s hs
 have h2:hillT t (t+z) (-n) s=-n∨hillT t (t+z) (-n) s=0:=by unfold hillT;split <;> simp
 show -1000000000 - 50*((k+1:Nat):Int)≤x s+hillT t (t+z) (-n) s∧x s+hillT t (t+z) (-n) s≤1000000000
 omega
end Go.Proofs.YtdcndkojmflhnaaGreat
