/- LogDoes, LogRecovers; each theorem names its own conditions. -/
import Derived.Test.YtdcndkojmflhnaaGreatPLogL
set_option linter.unusedVariables false
set_option linter.unusedSimpArgs false
set_option maxRecDepth 100000
set_option maxHeartbeats 8000000
set_option linter.unusedSimpArgs false
set_option linter.unusedVariables false
namespace Go.Proofs.YtdcndkojmflhnaaGreat
open Go.RowKit
open List renaming getElem_toArray→zA,getElem_cons_zero→zB,getElem_cons_succ→zC,setIfInBounds_toArray→zD,set_cons_zero→zE,set_cons_succ→zF
def ActV (w:World) (v:Value) (x:Act1):Prop:=∃ cs,v=.agg cs.toArray∧ActC w cs x
theorem actRow {W:World} {B:Nat} {t:TypeId} {a b c d e f g h:Value} (hh:W.heap[B]?=some (.cells #[a,b,c,d,e,f,g,h] t (0,0))) :
  W.cell? ⟨B,0,none⟩=some a∧W.cell? ⟨B,1,none⟩=some b∧W.cell? ⟨B,2,none⟩=some c∧W.cell? ⟨B,3,none⟩=some d∧W.cell? ⟨B,4,none⟩=some e∧W.cell? ⟨B,5,none⟩=some f∧W.cell? ⟨B,6,none⟩=some g∧W.cell? ⟨B,7,none⟩=some h :=
 ⟨cell_of_row W B 0 _ _ _ hh,cell_of_row W B 1 _ _ _ hh,cell_of_row W B 2 _ _ _ hh,cell_of_row W B 3 _ _ _ hh,cell_of_row W B 4 _ _ _ hh,cell_of_row W B 5 _ _ _ hh,cell_of_row W B 6 _ _ _ hh,cell_of_row W B 7 _ _ _ hh⟩
theorem Do_is {w:World} {tv bv pv cv:Value} {s S:State} {x:Act1} {er:Int} (h:doR s x=(S,er)) (hl:QueuesV w tv s.Tree) (hb:BooksV w bv s.Books) (hp:PiecesV w pv x.Req.Pieces) (hc:RunsV w cv x.Cap) (hI:I64 x.Req.Queue∧I64 x.Req.From∧I64 x.Req.Until∧I64 x.Req.Kind) (hN:I64 x.N) :
  Calls Tryz.prog 13 #[.agg #[.int .i64 s.Clock,.int .i64 s.Next,tv,bv],.agg #[.int .i64 x.Kind,.int .i64 x.N,.int .i64 x.Req.Queue,.int .i64 x.Req.From,.int .i64 x.Req.Until,.int .i64 x.Req.Kind,pv,cv]] w fun e w'=>∃ u v,e=.returned (.tuple #[.agg #[.int .i64 S.Clock,.int .i64 S.Next,u,v],.int .i64 er])∧QueuesV w' u S.Tree∧BooksV w' v S.Books∧Ext w w' :=
 ret2_parts (h▸Do_any w tv bv pv cv s x hl hb hp hc hI hN)
theorem sa_boxes (w:World) (a b c d:Value) (a0 a1 a2 a3 a4 a5 a6 a7:Value):∃ W,(w.alloc (.cells #[a,b,c,d] 25)).alloc (.cells #[a0,a1,a2,a3,a4,a5,a6,a7] 31)=W∧Ext w W ∧
  W.heap[w.heap.size]?=some (.cells #[a,b,c,d] 25 (0,0))∧W.heap[w.heap.size+1]?=some (.cells #[a0,a1,a2,a3,a4,a5,a6,a7] 31 (0,0))∧W.heap.size=w.heap.size+2:=by
 have h:=heap_alloc_new (w.alloc (.cells #[a,b,c,d] 25)) (.cells #[a0,a1,a2,a3,a4,a5,a6,a7] 31)
 rw [World.size_alloc] at h
 exact ⟨_,rfl,((Ext.rf w).al _).al _,blk_ext (heap_alloc_new w _) ((Ext.rf _).al _),h,by simp⟩
theorem recov_box {wa:World} {S:State} {ua va:Option Addr} {ca da:Nat}:∀ V,Ext (wa.alloc (.cells #[.int .i64 S.Clock,.int .i64 S.Next,.slice ua S.Tree.length ca,.slice va S.Books.length da] 25)) V →
  V.cell? ⟨wa.heap.size,0,none⟩=some (.int .i64 S.Clock)∧V.cell? ⟨wa.heap.size,1,none⟩=some (.int .i64 S.Next)∧V.cell? ⟨wa.heap.size,2,none⟩=some (.slice ua S.Tree.length ca)∧V.cell? ⟨wa.heap.size,3,none⟩=some (.slice va S.Books.length da):=fun V h=>newState h
theorem logReplays_any (w:World) (av:Value) (x:Act1) (T:ByteArray) (ha:ActV w av x) (hsm:x.Req.Pieces.length+x.Cap.length≤4000000) :
  Calls Tryz.prog 5 #[av,.string T] w fun e w'=>e=.returned (.bool true)∧Ext w w':=by
 obtain ⟨t,rfl⟩:∃ t,str t=T:=⟨_,str_of T⟩
 obtain ⟨ds,rfl,pv,cv,rfl,hp,hc,hI,hK,hN⟩:=ha
 obtain ⟨⟨acts,cnt,code⟩,hr⟩:∃ q,replayR t=q:=⟨_,rfl⟩
 obtain ⟨⟨B,c⟩,hwr⟩:∃ q,writeR x=q:=⟨_,rfl⟩
 have WR:=hid (fun (W:World) (h:Ext w W)=>Write_is hwr (hp.mono h) (hc.mono h) hI hK hN)
 have AB:=hid (fun (W:World) (h:Ext w W)=>show Calls _ _ _ W (fun e w'=>e=.returned (.tuple #[.string B,.int .i64 c])∧Ext W w') from by
  have:=ActBytes_any W pv cv x (hp.mono h) (hc.mono h) hI hK hN hsm
  rwa [hwr] at this)
 have RA:=hid (fun (W:World)=>show Calls _ _ _ W (RetActs W (acts,cnt,code)) from hr▸Replay_any W t)
 have RP:=hid (fun (W:World)=>show Calls _ _ _ W (RetActs W (acts,cnt,code)) from hr▸ReplayOf_any W t)
 have BG:=hid (fun (W:World)=>logBegun_true W)
 have e1:(B.toList == B.toList)=true:=by simp
 have e2:(c == c)=true:=by simp
 have e3:(cnt == cnt)=true:=by simp
 have e4:(code == code)=true:=by simp
 clear hr hwr
 obtain ⟨pa,pc,rfl,_,_,_⟩:=hp.form
 obtain ⟨ca,cc,rfl,_,_,_⟩:=hc.form
 clear hp hc
 generalize str t=T at *
 generalize x.Req.Pieces.length=pn at *
 generalize x.Cap.length=cn at *
 have X0:=hid ((Ext.rf w).al (.cells #[.int .i64 x.Kind,.int .i64 x.N,.int .i64 x.Req.Queue,.int .i64 x.Req.From,.int .i64 x.Req.Until,.int .i64 x.Req.Kind,.slice pa pn pc,.slice ca cn cc] 31))
 have HBA:=hid (heap_alloc_new w (.cells #[.int .i64 x.Kind,.int .i64 x.N,.int .i64 x.Req.Queue,.int .i64 x.Req.From,.int .i64 x.Req.Until,.int .i64 x.Req.Kind,.slice pa pn pc,.slice ca cn cc] 31))
 go_enter Tryz.func5,Tryz.ntmps5
 go_wp2_with fail
 refine (WR.out _ X0.out).mono ?_
 rintro e wa ⟨rfl,hxa⟩
 obtain ⟨k0,k1,k2,k3,k4,k5,k6,k7⟩:=actRow (blk_ext HBA.out hxa)
 have Xa:=hid (X0.out.tr hxa)
 clear hxa
 go_wp2_with fail
 clear k0 k1 k2 k3 k4 k5 k6 k7
 refine (AB.out _ Xa.out).mono ?_
 rintro e wb ⟨rfl,hxb⟩
 go_wp2_with fail
 refine (RA.out _).mono ?_
 rintro e wc ⟨lv,rfl,hl,hxc⟩
 obtain ⟨la,lc,rfl,_,_,_⟩:=hl.form
 have HL:=hid hl
 have Xc:=hid (Xa.out.tr (hxb.tr hxc))
 clear hl hxb hxc
 go_wp2_with fail
 refine (RP.out _).mono ?_
 rintro e wd ⟨mv,rfl,hm,hxd⟩
 obtain ⟨ma,mc,rfl,_,_,_⟩:=hm.form
 have HM:=hid hm
 have HL2:=hid (HL.out.mono hxd)
 have Xd:=hid (Xc.out.tr hxd)
 clear hm hxd HL
 go_wp2_with fail
 refine (BG.out _).mono ?_
 rintro e we ⟨rfl,hxe⟩
 have SA:=hid (sameActs_yes we _ _ acts (HL2.out.mono hxe) (HM.out.mono hxe))
 have Xe:=hid (Xd.out.tr hxe)
 clear hxe
 go_wp2_with fail
 refine SA.out.mono ?_
 rintro e wf ⟨rfl,hx⟩
 go_wp2_with fail
 go_ret
 exact ⟨rfl,Xe.out.tr hx⟩
end Go.Proofs.YtdcndkojmflhnaaGreat
