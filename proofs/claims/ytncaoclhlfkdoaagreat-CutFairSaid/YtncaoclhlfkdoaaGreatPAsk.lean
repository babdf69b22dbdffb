/- Walks: questions, and whether a request may be submitted; of the code and of the reference. -/
import Derived.Test.YtncaoclhlfkdoaaGreatPPlanL
import Derived.Test.YtncaoclhlfkdoaaGreatPReqP
import Derived.Test.YtncaoclhlfkdoaaGreatPRoomTrue
set_option linter.unusedVariables false
set_option maxRecDepth 100000
set_option maxHeartbeats 8000000
set_option linter.unusedSimpArgs false
set_option linter.unusedVariables false
namespace Go.Proofs.YtncaoclhlfkdoaaGreat
open Go.RowKit
open List renaming getElem_toArray→zA,getElem_cons_zero→zB,getElem_cons_succ→zC,setIfInBounds_toArray→zD,set_cons_zero→zE,set_cons_succ→zF
theorem right_of {s:State} (h:stateE s=0):TreeOk s.Tree∧s.Books.length≤12∧∀ x∈s.Books,BookOk s.Tree x:=by
 obtain ⟨ok,_,h12,hbok⟩:=booksE_zero (formE_zero (stateE_zero h).1).1
 exact ⟨ok,h12,hbok⟩
theorem room_fine {s:State} (h:stateE s=0) {k:Nat} (hk:k < s.Tree.length):Fine (fold (roomT s.Tree s.Books (k:Int))):=by
 obtain ⟨ok,h12,hbok⟩:=right_of h
 exact fine_fold fun t _=>room_num ok hbok h12 hk t
theorem at_fold (W:World) (u:Value) (x:Nat→Int) (t:Nat) (h:t < 48) (hu:RunsV W u (fold x)) :
  Calls Tryz.prog 74 #[u,.int .i64 (t:Int)] W fun e w'=>e=.returned (.int .i64 (x t))∧Ext W w':=by
 have:=At_any W u _ hu (shape_fold _) (t:Int) (by omega) (by omega)
 rwa [Int.toNat_natCast,sp_fold h] at this
end Go.Proofs.YtncaoclhlfkdoaaGreat
