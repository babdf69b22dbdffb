/- log.Recover; each theorem names its own conditions. -/
import Derived.Test.YtdcndkojmflhnaaGreatPLogG
set_option linter.unusedVariables false
set_option linter.unusedSimpArgs false
set_option maxRecDepth 100000
set_option maxHeartbeats 8000000
set_option linter.unusedSimpArgs false
set_option linter.unusedVariables false
namespace Go.Proofs.YtdcndkojmflhnaaGreat
open Go.RowKit
open List renaming getElem_toArray→zA,getElem_cons_zero→zB,getElem_cons_succ→zC,setIfInBounds_toArray→zD,set_cons_zero→zE,set_cons_succ→zF
theorem acts_at {w:World} {a:Option Addr} {n cp k:Nat} {l:List Act1} {x:Act1} (h:ActsV w (.slice a n cp) l) (hk:l[k]?=some x) :
  ∃ b off pv cv,a=some ⟨b,off,none⟩∧b < w.heap.size∧PiecesV w pv x.Req.Pieces∧RunsV w cv x.Cap∧(I64 x.Req.Queue∧I64 x.Req.From∧I64 x.Req.Until∧I64 x.Req.Kind)∧I64 x.Kind∧I64 x.N ∧
   w.cell? ⟨b,off+k*8,none⟩=some (.int .i64 x.Kind)∧w.cell? ⟨b,off+k*8+1,none⟩=some (.int .i64 x.N)∧w.cell? ⟨b,off+k*8+2,none⟩=some (.int .i64 x.Req.Queue)∧w.cell? ⟨b,off+k*8+3,none⟩=some (.int .i64 x.Req.From) ∧
   w.cell? ⟨b,off+k*8+4,none⟩=some (.int .i64 x.Req.Until)∧w.cell? ⟨b,off+k*8+5,none⟩=some (.int .i64 x.Req.Kind)∧w.cell? ⟨b,off+k*8+6,none⟩=some pv∧w.cell? ⟨b,off+k*8+7,none⟩=some cv:=by
 rcases h with ⟨rfl,_⟩ | ⟨b,off,cap,e,h1,h2,h3,h4,h5⟩
 ·simp at hk
 ·cases e
  obtain ⟨cs,⟨pv,cv,rfl,hp,hc,hi,h6,h7⟩,hcs⟩:=h5 k x hk
  exact ⟨b,off,pv,cv,rfl,h4,hp,hc,hi,h6,h7,hcs 0 _ rfl,hcs 1 _ rfl,hcs 2 _ rfl,hcs 3 _ rfl,hcs 4 _ rfl,hcs 5 _ rfl,hcs 6 _ rfl,hcs 7 _ rfl⟩
noncomputable def doneS (s:State) (x:Act1):State:=if (doR s x).2=0 then (doR s x).1 else s
noncomputable def doneR (s:State) (l:List Act1):State:=l.foldl doneS s
theorem doneR_take {s:State} {l:List Act1} {k:Nat} {x:Act1} (h:l[k]?=some x):doneR s (l.take (k+1))=doneS (doneR s (l.take k)) x:=by
 unfold doneR
 rw [List.take_add_one,h]
 simp [List.foldl_append]
@[irreducible] noncomputable def recoverR (l:List Queue) (q:List Act1 × Int × Int):State × Int × Int :=
 if checkT l≠0 then (noneS,0,checkT l) else if q.2.2≠0 then (noneS,0,q.2.2) else (doneR ⟨0,0,l,[]⟩ q.1,(q.1.length:Int),0)
theorem recoverR_tree {l:List Queue} {q:List Act1 × Int × Int} (h:checkT l≠0):recoverR l q=(noneS,0,checkT l):=by unfold recoverR;rw [if_pos h]
theorem recoverR_many {l:List Queue} {q:List Act1 × Int × Int} (h:checkT l=0) (h2:q.2.2≠0):recoverR l q=(noneS,0,q.2.2):=by unfold recoverR;rw [if_neg (fun e=>e h),if_pos h2]
theorem recoverR_ok {l:List Queue} {q:List Act1 × Int × Int} (h:checkT l=0) (h2:q.2.2=0):recoverR l q=(doneR ⟨0,0,l,[]⟩ q.1,(q.1.length:Int),0):=by unfold recoverR;rw [if_neg (fun e=>e h),if_neg (fun e=>e h2)]
def RetRec (w:World) (x:State × Int × Int) (e:Ending) (w':World):Prop :=
 ∃ u v,e=.returned (.tuple #[.agg #[.int .i64 x.1.Clock,.int .i64 x.1.Next,u,v],.int .i64 x.2.1,.int .i64 x.2.2])∧QueuesV w' u x.1.Tree∧BooksV w' v x.1.Books∧Ext w w'
theorem retRec_of {w w':World} {x:State × Int × Int} {s:State} {n m:Int} {u v:Value} (h:x=(s,n,m)) (h1:QueuesV w' u s.Tree) (h2:BooksV w' v s.Books) (hx:Ext w w'):RetRec w x (.returned (.tuple #[.agg #[.int .i64 s.Clock,.int .i64 s.Next,u,v],.int .i64 n,.int .i64 m])) w':=by
 subst h;exact ⟨u,v,rfl,h1,h2,hx⟩
theorem StS.sink {B B2:Nat} {W:World} {u v:Value} {S:State} (h:StS B W u v S) (hb:B2≤B):StS B2 W u v S:=by
 rcases h with h | h
 ·exact .inl (h.low hb (fun r hr=>by cases hr))
 ·exact .inr h
structure BoxS (B:Nat) (W:World) (g:Nat) (s:State) (tv bv:Value):Prop where
 box:W.heap[g]?=some (.cells #[.int .i64 s.Clock,.int .i64 s.Next,tv,bv] 25 (0,0))
 st:StS B W tv bv s
theorem BoxS.ext {B:Nat} {W W':World} {g:Nat} {s:State} {tv bv:Value} (h:BoxS B W g s tv bv) (hx:Ext W W'):BoxS B W' g s tv bv:=⟨blk_ext h.box hx,h.st.later hx⟩
theorem st_row {B g cap:Nat} {W:World} {l:List Queue} (hq:QRow (List.range B) W g l) (hc1:l.length≤cap) (hc2:cap≤9223372036854775807) (hg:B≤g) (ok:TreeOk l):StS B W (.slice (some ⟨g,0,none⟩) l.length cap) (.slice none 0 0) ⟨0,0,l,[]⟩:=by
 obtain ⟨vs,h1,h2⟩:=hq
 have hB:OwnB (g::([]++List.range B)) B W (.slice none 0 0) []:=⟨[],World.ownsRow_nil _ _ _ _,⟨rfl,fun k cs x h=>by simp at h⟩,(fun cs h=>by cases h),(fun g h=>by cases h)⟩
 exact .inl ⟨g,cap,rfl,hc1,hc2,ok.n5,by simp,hg,h1.lt,by simp,(fun x hx=>by cases hx),treeOk_caps ok,hB,(fun r h=>by cases h),⟨vs,h1,h2⟩⟩
theorem Begin_st (w:World) (v:Value) (l:List Queue) (hv:QueuesV w v l) (h0:checkT l=0) :
  Calls Tryz.prog 64 #[v] w fun e w'=>∃ u,e=.returned (.tuple #[.agg #[.int .i64 0,.int .i64 0,u,.slice none 0 0],.int .i64 0])∧StS w.heap.size w' u (.slice none 0 0) ⟨0,0,l,[]⟩∧Ext w w':=by
 have C:=hid (fun (W:World) (h:Ext w W)=>treeCheck_any W v l (hv.mono h))
 have H0:=hid (heap_alloc_new w (.cells #[.int .i64 0,.int .i64 0,.slice none 0 0,.slice none 0 0] 25))
 have ok:=checkT_ok h0
 rw [h0] at C
 have O:=hid (fun (W:World) (h:Ext w W) (hb:w.heap.size < W.heap.size)=>planOwnTree_any [w.heap.size] w W v l hv h ok (fun r hr=>by have:=List.mem_singleton.1 hr;omega))
 have OK:=hid ok
 obtain ⟨a,cap,rfl,_,_,_⟩:=hv.form
 clear hv ok h0
 generalize hln:l.length=n at *
 go_enter Tryz.func64,Tryz.ntmps64
 go_wp2_with fail
 refine (C.out _ ((Ext.rf w).al _)).mono ?_
 rintro e w1 ⟨rfl,hx1⟩
 go_wp2_with fail
 refine (O.out _ (((Ext.rf w).al _).tr hx1) (by have:=hx1.size;simp at this;omega)).mono ?_
 rintro e w2 ⟨g,uc,rfl,hc1,hc2,hg,hQ,hN,hx2⟩
 have hs1:w.heap.size+1≤w1.heap.size:=by have:=hx1.size;simpa using this
 have hgw:g≠w.heap.size:=by omega
 have HB:=hid (show w2.heap[w.heap.size]?=some (.cells #[.int .i64 0,.int .i64 0,.slice none 0 0,.slice none 0 0] 25 (0,0)) from ((hx1.tr hx2).block _ (by simp)).trans H0.out)
 have hX:Ext w (w2.setRow w.heap.size #[.int .i64 0,.int .i64 0,.slice (some ⟨g,0,none⟩) n uc,.slice none 0 0]):=((((Ext.rf w).al _).tr hx1).tr hx2).sr (Nat.le_refl _) _
 go_wp2_with (refine wpList_store_row rfl 25 _ _ rfl w.heap.size #[.int .i64 0,.int .i64 0,.slice (some ⟨g,0,none⟩) n uc,.slice none 0 0] rfl rfl 25 #[.int .i64 0,.int .i64 0,.slice none 0 0,.slice none 0 0] HB.out Tryz.size25 rfl (by simp [Value.oneCell']) ?_)
 have HB2:=setRow_heap w2 w.heap.size _ #[.int .i64 0,.int .i64 0,.slice (some ⟨g,0,none⟩) n uc,.slice none 0 0] _ _ HB.out
 have hgr:=grown_srow w2 w.heap.size #[.int .i64 0,.int .i64 0,.slice (some ⟨g,0,none⟩) n uc,.slice none 0 0]
 have hQ2:=hQ.kept hgr (List.mem_singleton.2 rfl) hgw
 have hN2:=(hN.kept hgr hgw).less (l:=l.length) (b2:=w.heap.size) (by omega) (by omega)
 have hQ3:=(hQ2.fresh (cs:=List.range w.heap.size) hN2 (fun r hr=>by have:=List.mem_range.1 hr;omega)).less (cs:=List.range w.heap.size) (fun r hr=>List.mem_append_right _ hr)
 have hS:=st_row (cap:=uc) hQ3 (by rw [hln];exact hc1) hc2 (by omega) OK.out
 rw [hln] at hS
 exact bodyPost_ret (results_row_tmp rfl _ _ w.heap.size 25 #[.int .i64 0,.int .i64 0,.slice (some ⟨g,0,none⟩) n uc,.slice none 0 0] (0,0) _ rfl HB2 Tryz.underlying25 rfl Tryz.size25) rfl ⟨_,rfl,hS,hX⟩
theorem stateRow {W:World} {B:Nat} {t:TypeId} {a b c d:Value} (h:W.heap[B]?=some (.cells #[a,b,c,d] t (0,0))) :
  W.cell? ⟨B,0,none⟩=some a∧W.cell? ⟨B,1,none⟩=some b∧W.cell? ⟨B,2,none⟩=some c∧W.cell? ⟨B,3,none⟩=some d :=
 ⟨cell_of_row W B 0 _ _ _ h,cell_of_row W B 1 _ _ _ h,cell_of_row W B 2 _ _ _ h,cell_of_row W B 3 _ _ _ h⟩
theorem Recover_any (w:World) (v:Value) (l:List Queue) (t:List UInt8) (hv:QueuesV w v l) :
  Calls Tryz.prog 25 #[v,.string (str t)] w (RetRec w (recoverR l (replayR t))):=by
 have TC:=hid (fun (W:World) (h:Ext w W)=>treeCheck_any W v l (hv.mono h))
 have RP:=hid (fun (W:World)=>Replay_any W t)
 have BG:=hid (fun (W:World) (h:Ext w W) (h0:checkT l=0)=>Begin_st W v l (hv.mono h) h0)
 have H0:=hid (heap_alloc_new w (.cells #[.int .i64 0,.int .i64 0,.slice none 0 0,.slice none 0 0] 25))
 have HX0:=hid ((Ext.rf w).al (.cells #[.int .i64 0,.int .i64 0,.slice none 0 0,.slice none 0 0] 25))
 obtain ⟨va,vc,rfl,_,_,_⟩:=hv.form
 clear hv
 by_cases h0:checkT l=0
 ·rw [h0] at TC
  have BG:=hid (fun (W:World) (h:Ext w W)=>BG.out W h h0)
  have HR:=hid (fun h2=>recoverR_ok (q:=replayR t) h0 h2)
  have HM:=hid (fun h2=>recoverR_many (q:=replayR t) h0 h2)
  clear h0
  generalize replayR t=q at *
  obtain ⟨acts,cnt,code⟩:=q
  generalize str t=T at *
  generalize l.length=n at *
  go_enter Tryz.func25,Tryz.ntmps25
  go_wp2_with fail
  refine (TC.out _ HX0.out).mono ?_
  rintro e w1 ⟨rfl,hx1⟩
  go_wp2_with fail
  refine (RP.out w1).mono ?_
  rintro e w2 ⟨av,rfl,hacts,hx2⟩
  obtain ⟨aa,ac,rfl,_,_,_⟩:=hacts.form
  by_cases hc:code=0
  ·subst hc
   have HDO:=hid (fun (W:World) (tv bv pv cv:Value) (s:State) (x:Act1) hl hb hp hc hI hN=>Do_any W tv bv pv cv s x hl hb hp hc hI hN)
   go_wp2_with fail
   refine (BG.out w2 ((HX0.out.tr hx1).tr hx2)).mono ?_
   rintro e w3 ⟨u,rfl,hu,hx3⟩
   obtain ⟨ua,uc,_,_,rfl,_⟩:=hu.forms
   have HBX:=hid (show BoxS (w.heap.size+1) (w3.alloc (.cells #[.int .i64 0,.int .i64 0,.slice ua l.length uc,.slice none 0 0] 25)) w3.heap.size ⟨0,0,l,[]⟩ (.slice ua l.length uc) (.slice none 0 0) from ⟨heap_alloc_new w3 _,(hu.sink (by have:=(hx1.tr hx2).size;simpa using this)).later ((Ext.rf w3).al _)⟩)
   have HAV:=hid (fun (W:World) (h:Ext w3 W)=>(hacts.mono hx3).mono h)
   have HX3:=hid (((HX0.out.tr hx1).tr hx2).tr hx3)
   have HZ:=hid (blk_ext (blk_ext (blk_ext H0.out hx1) hx2) hx3)
   have hsz3:w.heap.size+1≤w3.heap.size:=by have:=((hx1.tr hx2).tr hx3).size;simpa using this
   have HS3:=hid hsz3
   have HRR:=hid (HR.out trivial)
   clear hu hx1 hx2 hx3 hacts TC RP BG HM HR hsz3
   generalize hz:acts.length=z at *
   have HZL:=hid hz
   clear hz
   go_wp2_with fail
   go_loopw [40] (fun c wr=>∃ (k:Nat) (tv bv:Value),c=.int .i64 k∧k≤z∧Hid (BoxS (w.heap.size+1) wr w3.heap.size (doneR ⟨0,0,l,[]⟩ (acts.take k)) tv bv)∧Ext w3 wr) (fun c _=>z - (intOf c).toNat)
   case atStart=>exact ⟨0,_,_,rfl,Nat.zero_le _,HBX,(Ext.rf w3).al _⟩
   case round =>
    obtain ⟨k,tv,bv,rfl,hk,HB,hx⟩:=hrel
    by_cases hlt:k < z
    ·have hlt':(k:Int) < (z:Int):=by omega
     have hdl:=deT hlt'
     obtain ⟨x,hxk⟩:=getA (f:=acts) (k:=k) (by rw [HZL.out];exact hlt)
     obtain ⟨b,off,pv,cv,rfl,hbl,hp,hc,hI,hK,hN,e0,e1,e2,e3,e4,e5,e6,e7⟩:=acts_at (HAV.out wr hx) hxk
     have HDK:=hid (doneR_take (s:=⟨0,0,l,[]⟩) hxk)
     generalize doneR ⟨0,0,l,[]⟩ (acts.take k)=S at *
     have hl:=HB.out.st.tree
     have hb:=HB.out.st.books
     obtain ⟨ta,tc,rfl,_,_,_⟩:=hl.form
     obtain ⟨ba,bc,rfl,_,_,_⟩:=hb.form
     obtain ⟨pa,pc,rfl,_,_,_⟩:=hp.form
     obtain ⟨ca,cc,rfl,_,_,_⟩:=hc.form
     obtain ⟨n0,n1,n2,n3⟩:=stateRow HB.out.box
     have hxb:=(Ext.rf wr).al (.cells #[.int .i64 x.Kind,.int .i64 x.N,.int .i64 x.Req.Queue,.int .i64 x.Req.From,.int .i64 x.Req.Until,.int .i64 x.Req.Kind,.slice pa x.Req.Pieces.length pc,.slice ca x.Cap.length cc] 31)
     have DO:=hid (HDO.out _ _ _ _ _ S x (hl.mono hxb) (hb.mono hxb) (hp.mono hxb) (hc.mono hxb) hI hN)
     have hg3:w3.heap.size < wr.heap.size:=(Array.getElem?_eq_some_iff.1 HB.out.box).1
     obtain ⟨S',er,hd⟩:∃ S' er,doR S x=(S',er):=⟨_,_,rfl⟩
     rw [hd] at DO
     have HD1:=hid (fun (h:er=0)=>(show doneS S x=S' from by unfold doneS;rw [hd,if_pos h]))
     have HD2:=hid (fun (h:er≠0)=>(show doneS S x=S from by unfold doneS;rw [hd,if_neg h]))
     have HSX:=hid (hx.tr hxb)
     have HXB:=hid hxb
     have hszb:=hxb.size
     have HSZB:=hid hszb
     clear hd hszb
     clear hp hc hl hb
     go_wp2_with fail
     refine DO.out.mono ?_
     rintro e w5 ⟨u5,v5,rfl,hS5,hx5⟩
     obtain ⟨fa,fc,ga,gc,rfl,rfl⟩:=hS5.forms
     have hxc:=(Ext.rf w5).al (.cells #[.int .i64 S'.Clock,.int .i64 S'.Next,.slice fa S'.Tree.length fc,.slice ga S'.Books.length gc] 25)
     have HS6:=hid (hS5.later hxc)
     have HX6:=hid ((HSX.out.tr hx5).tr hxc)
     have HX66:=hid ((HXB.out.tr hx5).tr hxc)
     clear hS5 hx5 hxc hxb hx DO
     by_cases hz0:er=0
     ·subst hz0
      have HB6:=hid (blk_ext HB.out.box HX66.out)
      have HP:=hid (HS6.out.put (r:=w3.heap.size) (B2:=w.heap.size+1) (by have:=HSZB.out;omega) (by have:=HSZB.out;have:=HS3.out;omega) #[.int .i64 S'.Clock,.int .i64 S'.Next,.slice fa S'.Tree.length fc,.slice ga S'.Books.length gc])
      have HR6:=hid (setRow_heap _ w3.heap.size _ #[.int .i64 S'.Clock,.int .i64 S'.Next,.slice fa S'.Tree.length fc,.slice ga S'.Books.length gc] _ _ HB6.out)
      go_wp2_with (refine wpList_store_row rfl 25 _ _ rfl w3.heap.size #[.int .i64 S'.Clock,.int .i64 S'.Next,.slice fa S'.Tree.length fc,.slice ga S'.Books.length gc] rfl rfl 25 _ HB6.out Tryz.size25 rfl (by simp [Value.oneCell']) ?_)
      go_roundw
      case rel=>exact ⟨k+1,_,_,by go_num,by omega,hid (by rw [HDK.out,HD1.out trivial];exact ⟨HR6.out,HP.out⟩),HX6.out.sr (Nat.le_refl _) _⟩
      case measure=>simp [intOf];omega
     ·have hne:=neT hz0
      have hz0':=eqF hz0
      have HB6:=hid (HB.out.ext HX66.out)
      go_wp2_with fail
      go_roundw
      case rel=>exact ⟨k+1,_,_,by go_num,by omega,hid (by rw [HDK.out,HD2.out hz0];exact HB6.out),HX6.out⟩
      case measure=>simp [intOf];omega
    ·obtain rfl:k=z:=by omega
     have hno:¬ (k:Int) < (k:Int):=by omega
     have hdl:=deF hno
     have hkt:acts.take k=acts:=by rw [← HZL.out,List.take_length]
     rw [hkt] at HB
     have HTK:=hid hkt
     clear hkt
     generalize doneR ⟨0,0,l,[]⟩ acts=S at *
     have hl:=HB.out.st.tree
     have hb:=HB.out.st.books
     obtain ⟨ta,tc,rfl,_,_,_⟩:=hl.form
     obtain ⟨ba,bc,rfl,_,_,_⟩:=hb.form
     obtain ⟨n0,n1,n2,n3⟩:=stateRow HB.out.box
     have HZE:=hid (blk_ext HZ.out hx)
     have HXE:=hid ((HX3.out.tr hx).sr (b:=w.heap.size) (Nat.le_refl _) #[.int .i64 S.Clock,.int .i64 S.Next,.slice ta S.Tree.length tc,.slice ba S.Books.length bc])
     have HRE:=hid (setRow_heap wr w.heap.size _ #[.int .i64 S.Clock,.int .i64 S.Next,.slice ta S.Tree.length tc,.slice ba S.Books.length bc] _ _ HZE.out)
     have HPE:=hid (HB.out.st.put (r:=w.heap.size) (B2:=w.heap.size) (by omega) (by omega) #[.int .i64 S.Clock,.int .i64 S.Next,.slice ta S.Tree.length tc,.slice ba S.Books.length bc])
     clear hl hb
     go_wp2_with (refine wpList_store_row rfl 25 _ _ rfl w.heap.size #[.int .i64 S.Clock,.int .i64 S.Next,.slice ta S.Tree.length tc,.slice ba S.Books.length bc] rfl rfl 25 _ HZE.out Tryz.size25 rfl (by simp [Value.oneCell']) ?_)
     exact bodyPost_ret (results_row_two (u1:=5) (u2:=6) rfl _ _ w.heap.size 25 #[.int .i64 S.Clock,.int .i64 S.Next,.slice ta S.Tree.length tc,.slice ba S.Books.length bc] (0,0) _ rfl HRE.out Tryz.underlying25 rfl Tryz.size25) rfl (retRec_of HRR.out HPE.out.tree HPE.out.books HXE.out)
  ·have hne:=neT hc
   have HB:=hid (blk_ext (blk_ext H0.out hx1) hx2)
   have HXE:=hid (((HX0.out.tr hx1).tr hx2).sr (b:=w.heap.size) (Nat.le_refl _) #[.int .i64 0,.int .i64 0,.slice none 0 0,.slice none 0 0])
   have HB2:=hid (setRow_heap w2 w.heap.size _ #[.int .i64 0,.int .i64 0,.slice none 0 0,.slice none 0 0] _ _ HB.out)
   go_wp2_with (refine wpList_store_row rfl 25 _ _ rfl w.heap.size #[.int .i64 0,.int .i64 0,.slice none 0 0,.slice none 0 0] rfl rfl 25 #[.int .i64 0,.int .i64 0,.slice none 0 0,.slice none 0 0] HB.out Tryz.size25 rfl (by simp [Value.oneCell']) ?_)
   exact bodyPost_ret (results_row_two (u1:=5) (u2:=6) rfl _ _ w.heap.size 25 #[.int .i64 0,.int .i64 0,.slice none 0 0,.slice none 0 0] (0,0) _ rfl HB2.out Tryz.underlying25 rfl Tryz.size25) rfl (retRec_of (s:=noneS) (HM.out hc) SV.nil SV.nil HXE.out)
 ·have HR:=hid (recoverR_tree (q:=replayR t) h0)
  have hne:=neT h0
  clear h0
  generalize replayR t=q at *
  generalize str t=T at *
  generalize l.length=n at *
  generalize checkT l=ce at *
  go_enter Tryz.func25,Tryz.ntmps25
  go_wp2_with fail
  refine (TC.out _ HX0.out).mono ?_
  rintro e w1 ⟨rfl,hx1⟩
  have HB:=hid (blk_ext H0.out hx1)
  have HXE:=hid ((HX0.out.tr hx1).sr (b:=w.heap.size) (Nat.le_refl _) #[.int .i64 0,.int .i64 0,.slice none 0 0,.slice none 0 0])
  have HB2:=hid (setRow_heap w1 w.heap.size _ #[.int .i64 0,.int .i64 0,.slice none 0 0,.slice none 0 0] _ _ HB.out)
  go_wp2_with (refine wpList_store_row rfl 25 _ _ rfl w.heap.size #[.int .i64 0,.int .i64 0,.slice none 0 0,.slice none 0 0] rfl rfl 25 #[.int .i64 0,.int .i64 0,.slice none 0 0,.slice none 0 0] HB.out Tryz.size25 rfl (by simp [Value.oneCell']) ?_)
  exact bodyPost_ret (results_row_two (u1:=5) (u2:=6) rfl _ _ w.heap.size 25 #[.int .i64 0,.int .i64 0,.slice none 0 0,.slice none 0 0] (0,0) _ rfl HB2.out Tryz.underlying25 rfl Tryz.size25) rfl (retRec_of (s:=noneS) (HR.out) SV.nil SV.nil HXE.out)
end Go.Proofs.YtdcndkojmflhnaaGreat
