/- The law RoomTrue; each theorem names its own conditions. -/
import Derived.Test.YtdcndkojmflhnaaGreatPLawO
import Derived.Test.YtdcndkojmflhnaaGreatPLoadB
set_option linter.unusedVariables false
set_option maxRecDepth 100000
set_option maxHeartbeats 8000000
set_option linter.unusedSimpArgs false
set_option linter.unusedVariables false
namespace Go.Proofs.YtdcndkojmflhnaaGreat
open Go.RowKit
open List renaming getElem_toArray→zA,getElem_cons_zero→zB,getElem_cons_succ→zC,setIfInBounds_toArray→zD,set_cons_zero→zE,set_cons_succ→zF
theorem room_num {l:List Queue} {b:List Book} (ok:TreeOk l) (hbok:∀ x∈b,BookOk l x) (h12:b.length≤12) {k:Nat} (hk:k < l.length) (t:Nat):NumOk (roomT l b (k:Int) t):=by
 have:=minTo_num (g:=fun j=>leftT l b j t) (a:=-1800) (b:=50) (lineL l (k:Int)) (fun j hj=>left_num ok hbok h12 j t (lineL_lt ok.pars l.length (k:Int) (by omega) (by omega) j hj).1) (by rw [lineL_pos ok.pars (by omega)];simp)
 rw [show roomT l b (k:Int) t=minTo (fun j=>leftT l b j t) (lineL l (k:Int)) from rfl]
 exact ⟨by omega,by omega⟩
end Go.Proofs.YtdcndkojmflhnaaGreat
