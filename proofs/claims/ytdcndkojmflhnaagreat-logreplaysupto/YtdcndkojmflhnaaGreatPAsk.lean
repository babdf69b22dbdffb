/- Walks: questions, and whether a request may be submitted; of the code and of the reference; each theorem names its own conditions. -/
import Derived.Test.YtdcndkojmflhnaaGreatPPlanL
import Derived.Test.YtdcndkojmflhnaaGreatPReqP
import Derived.Test.YtdcndkojmflhnaaGreatPRoomTrue
set_option linter.unusedVariables false
set_option maxRecDepth 100000
set_option maxHeartbeats 8000000
set_option linter.unusedSimpArgs false
set_option linter.unusedVariables false
namespace Go.Proofs.YtdcndkojmflhnaaGreat
open Go.RowKit
open List renaming getElem_toArray→zA,getElem_cons_zero→zB,getElem_cons_succ→zC,setIfInBounds_toArray→zD,set_cons_zero→zE,set_cons_succ→zF
@[irreducible] noncomputable def mayE (s:State) (r:Request):Int :=
 if stateE s≠0 then stateE s else if reqE s.Tree r≠0 then reqE s.Tree r else if r.From < s.Clock then 9 else 0
theorem mayE_bad {s:State} {r:Request} (h:stateE s≠0):mayE s r=stateE s:=by unfold mayE;rw [if_pos h]
theorem mayE_req {s:State} {r:Request} (h:stateE s=0) (h2:reqE s.Tree r≠0):mayE s r=reqE s.Tree r:=by unfold mayE;rw [if_neg (by simp [h]),if_pos h2]
theorem mayE_late {s:State} {r:Request} (h:stateE s=0) (h2:reqE s.Tree r=0) (h3:r.From < s.Clock):mayE s r=9:=by unfold mayE;rw [if_neg (by simp [h]),if_neg (by simp [h2]),if_pos h3]
theorem mayE_ok {s:State} {r:Request} (h:stateE s=0) (h2:reqE s.Tree r=0) (h3:¬ r.From < s.Clock):mayE s r=0:=by unfold mayE;rw [if_neg (by simp [h]),if_neg (by simp [h2]),if_neg h3]
theorem mayE_zero {s:State} {r:Request} (h:mayE s r=0):stateE s=0∧reqE s.Tree r=0∧¬ r.From < s.Clock:=by
 by_cases h0:stateE s=0
 ·by_cases h1:reqE s.Tree r=0
  ·by_cases h2:r.From < s.Clock
   ·rw [mayE_late h0 h1 h2] at h;exact absurd h (by decide)
   ·exact ⟨h0,h1,h2⟩
  ·rw [mayE_req h0 h1] at h;exact absurd h h1
 ·rw [mayE_bad h0] at h;exact absurd h h0
def plotT (s:State) (r:Request):Nat→Int:=sp (fold (roomT s.Tree s.Books r.Queue))
theorem two_boxes (w:World) (s:State) (r:Request) (tv bv pv:Value):∃ w1:World,(w.alloc (.cells #[.int .i64 s.Clock,.int .i64 s.Next,tv,bv] 25)).alloc (.cells #[.int .i64 r.Queue,.int .i64 r.From,.int .i64 r.Until,.int .i64 r.Kind,pv] 28)=w1∧Ext w w1∧(∀ W,Ext w1 W→(W.cell? ⟨w.heap.size,0,none⟩=some (.int .i64 s.Clock)∧W.cell? ⟨w.heap.size,1,none⟩=some (.int .i64 s.Next)∧W.cell? ⟨w.heap.size,2,none⟩=some tv∧W.cell? ⟨w.heap.size,3,none⟩=some bv)) ∧
  (∀ W,Ext w1 W→(W.cell? ⟨w.heap.size+1,0,none⟩=some (.int .i64 r.Queue)∧W.cell? ⟨w.heap.size+1,1,none⟩=some (.int .i64 r.From)∧W.cell? ⟨w.heap.size+1,2,none⟩=some (.int .i64 r.Until)∧W.cell? ⟨w.heap.size+1,3,none⟩=some (.int .i64 r.Kind)∧W.cell? ⟨w.heap.size+1,4,none⟩=some pv))∧w1.heap.size=w.heap.size+2:=by
 refine ⟨_,rfl,((Ext.rf w).al _).al _,fun W h=>stateCells (((Ext.rf _).al _).tr h),fun W h=>?_,by simp⟩
 have:=reqCells h
 rwa [World.size_alloc] at this
theorem bookAsked_any (w:World) (tv bv pv:Value) (s:State) (r:Request) (hl:QueuesV w tv s.Tree) (hb:BooksV w bv s.Books) (hp:PiecesV w pv r.Pieces) :
  Calls Tryz.prog 73 #[.agg #[.int .i64 s.Clock,.int .i64 s.Next,tv,bv],.agg #[.int .i64 r.Queue,.int .i64 r.From,.int .i64 r.Until,.int .i64 r.Kind,pv]] w fun e w'=>e=.returned (.int .i64 (mayE s r))∧Ext w w':=by
 have F:=hid (fun (W:World) (h:Ext w W)=>planCheck_any W tv bv s (hl.mono h) (hb.mono h))
 have G:=hid (fun (W:World) (h:Ext w W)=>reqCheck_any W tv pv s.Tree r (hl.mono h) (hp.mono h))
 obtain ⟨wb,hwb,HX,HSS,HRR,hszb⟩:=two_boxes w s r tv bv pv
 have HX0:=hid HX
 have HS0:=hid HSS
 have HR0:=hid HRR
 have HWB:=hid hwb
 clear HX HSS HRR hwb
 have HA:=hid (mayE_bad (s:=s) (r:=r))
 have HB:=hid (mayE_req (s:=s) (r:=r))
 have HC:=hid (mayE_late (s:=s) (r:=r))
 have HD:=hid (mayE_ok (s:=s) (r:=r))
 obtain ⟨qa,qc,rfl,_,_,_⟩:=hl.form
 obtain ⟨ba,bc,rfl,_,_,_⟩:=hb.form
 obtain ⟨pa,pc,rfl,_,_,_⟩:=hp.form
 clear hl hb hp
 generalize mayE s r=ae at *
 generalize stateE s=se at *
 generalize reqE s.Tree r=re at *
 generalize s.Tree.length=n at *
 generalize s.Books.length=z at *
 generalize r.Pieces.length=pn at *
 by_cases h0:se=0
 ·subst h0
  by_cases h1:re=0
  ·subst h1
   by_cases h2:r.From < s.Clock
   ·have HR:=hid (HC.out rfl rfl h2)
    clear HA HB HC HD
    go_enter Tryz.func73,Tryz.ntmps73
    go_wp2_with fail
    rw [HWB.out]
    refine (F.out _ HX0.out).mono ?_
    rintro e w2 ⟨rfl,hx2⟩
    obtain ⟨a0,a1,a2,a3⟩:=HS0.out w2 hx2
    obtain ⟨c0,c1,c2,c3,c4⟩:=HR0.out w2 hx2
    go_wp2_with fail
    refine (G.out _ (HX0.out.tr hx2)).mono ?_
    rintro e w3 ⟨rfl,hx3⟩
    clear a0 a1 a2 a3 c0 c1 c2 c3 c4
    obtain ⟨a0,a1,a2,a3⟩:=HS0.out w3 (hx2.tr hx3)
    obtain ⟨c0,c1,c2,c3,c4⟩:=HR0.out w3 (hx2.tr hx3)
    go_wp2_with fail
    go_ret
    exact ⟨ret_int HR.out.symm,HX0.out.tr (hx2.tr hx3)⟩
   ·have HR:=hid (HD.out rfl rfl h2)
    clear HA HB HC HD
    go_enter Tryz.func73,Tryz.ntmps73
    go_wp2_with fail
    rw [HWB.out]
    refine (F.out _ HX0.out).mono ?_
    rintro e w2 ⟨rfl,hx2⟩
    obtain ⟨a0,a1,a2,a3⟩:=HS0.out w2 hx2
    obtain ⟨c0,c1,c2,c3,c4⟩:=HR0.out w2 hx2
    go_wp2_with fail
    refine (G.out _ (HX0.out.tr hx2)).mono ?_
    rintro e w3 ⟨rfl,hx3⟩
    clear a0 a1 a2 a3 c0 c1 c2 c3 c4
    obtain ⟨a0,a1,a2,a3⟩:=HS0.out w3 (hx2.tr hx3)
    obtain ⟨c0,c1,c2,c3,c4⟩:=HR0.out w3 (hx2.tr hx3)
    go_wp2_with fail
    go_ret
    exact ⟨ret_int HR.out.symm,HX0.out.tr (hx2.tr hx3)⟩
  ·have HR:=hid (HB.out rfl h1)
   have hne:=neT h1
   clear HA HB HC HD h1
   go_enter Tryz.func73,Tryz.ntmps73
   go_wp2_with fail
   rw [HWB.out]
   refine (F.out _ HX0.out).mono ?_
   rintro e w2 ⟨rfl,hx2⟩
   obtain ⟨a0,a1,a2,a3⟩:=HS0.out w2 hx2
   obtain ⟨c0,c1,c2,c3,c4⟩:=HR0.out w2 hx2
   go_wp2_with fail
   refine (G.out _ (HX0.out.tr hx2)).mono ?_
   rintro e w3 ⟨rfl,hx3⟩
   clear a0 a1 a2 a3 c0 c1 c2 c3 c4
   go_wp2_with fail
   go_ret
   exact ⟨ret_int HR.out.symm,HX0.out.tr (hx2.tr hx3)⟩
 ·have HR:=hid (HA.out h0)
  have hne:=neT h0
  clear HA HB HC HD h0
  go_enter Tryz.func73,Tryz.ntmps73
  go_wp2_with fail
  rw [HWB.out]
  refine (F.out _ HX0.out).mono ?_
  rintro e w2 ⟨rfl,hx2⟩
  go_wp2_with fail
  go_ret
  exact ⟨ret_int HR.out.symm,HX0.out.tr hx2⟩
theorem right_of {s:State} (h:stateE s=0):TreeOk s.Tree∧s.Books.length≤12∧∀ x∈s.Books,BookOk s.Tree x:=by
 obtain ⟨ok,_,h12,hbok⟩:=booksE_zero (formE_zero (stateE_zero h).1).1
 exact ⟨ok,h12,hbok⟩
theorem room_fine {s:State} (h:stateE s=0) {k:Nat} (hk:k < s.Tree.length):Fine (fold (roomT s.Tree s.Books (k:Int))):=by
 obtain ⟨ok,h12,hbok⟩:=right_of h
 exact fine_fold fun t _=>room_num ok hbok h12 hk t
theorem at_fold (W:World) (u:Value) (x:Nat→Int) (t:Nat) (h:t < 48) (hu:RunsV W u (fold x)) :
  Calls Tryz.prog 177 #[u,.int .i64 (t:Int)] W fun e w'=>e=.returned (.int .i64 (x t))∧Ext W w':=by
 have:=At_any W u _ hu (shape_fold _) (t:Int) (by omega) (by omega)
 rwa [Int.toNat_natCast,sp_fold h] at this
theorem may_of {s:State} {r:Request} (h:mayE s r=0):stateE s=0∧ReqOk r∧0≤r.Queue∧r.Queue < s.Tree.length∧Fine (fold (roomT s.Tree s.Books r.Queue))∧¬ r.From < s.Clock:=by
 obtain ⟨hs,hre,hc⟩:=mayE_zero h
 obtain ⟨_,hrq,g1,g2⟩:=reqE_zero hre
 obtain ⟨k,hk⟩:∃ k:Nat,r.Queue=k:=⟨r.Queue.toNat,by omega⟩
 refine ⟨hs,hrq,g1,g2,?_,hc⟩
 rw [hk]
 exact room_fine hs (by omega)
end Go.Proofs.YtdcndkojmflhnaaGreat
