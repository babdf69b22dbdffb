/- LogMore; each theorem names its own conditions. -/
import Derived.Test.YtdcndkojmflhnaaGreatPLogM
set_option linter.unusedVariables false
set_option linter.unusedSimpArgs false
set_option maxRecDepth 100000
set_option maxHeartbeats 8000000
set_option linter.unusedSimpArgs false
set_option linter.unusedVariables false
namespace Go.Proofs.YtdcndkojmflhnaaGreat
open Go.RowKit
open List renaming getElem_toArray→zA,getElem_cons_zero→zB,getElem_cons_succ→zC,setIfInBounds_toArray→zD,set_cons_zero→zE,set_cons_succ→zF
theorem recoverR_zero {l:List Queue} {q:List Act1 × Int × Int} {S:State} {m:Int} (h:recoverR l q=(S,m,0)):checkT l=0∧q.2.2=0∧S=doneR ⟨0,0,l,[]⟩ q.1∧m=(q.1.length:Int):=by
 by_cases h0:checkT l=0
 ·by_cases h1:q.2.2=0
  ·rw [recoverR_ok h0 h1] at h
   exact ⟨h0,h1,(congrArg (fun p=>p.1) h).symm,(congrArg (fun p=>p.2.1) h).symm⟩
  ·rw [recoverR_many h0 h1] at h
   exact absurd (congrArg (fun p=>p.2.2) h) h1
 ·rw [recoverR_tree h0] at h
  exact absurd (congrArg (fun p=>p.2.2) h) h0
theorem str_app (a b:List UInt8):str a++str b=str (a++b):=by
 apply ByteArray.ext
 rw [ByteArray.data_append]
 unfold str
 simp
theorem recover_more {l:List Queue} {t:List UInt8} {acts:List Act1} {S:State} {m:Int} {x:Act1} {B:ByteArray} (h:recoverR l (acts,(t.length:Int),0)=(S,m,0)) (hr:replayR t=(acts,(t.length:Int),0)) (hw:writeR x=(B,0)) (h60:acts.length < 60) (h4:t.length+B.size≤4096) :
  m=(acts.length:Int)∧B=str (bytesL x)∧recoverR l (replayR (t++bytesL x))=(doneS S x,(acts.length:Int)+1,0):=by
 obtain ⟨g1,_,g3,g4⟩:=recoverR_zero h
 obtain ⟨k1,k2,k3,k4⟩:=writeR_zero (x:=x) (by rw [hw])
 rw [hw] at k4
 have k4':B=str (bytesL x):=k4
 subst k4'
 rw [str_size] at h4
 have hb:=actT_write k1 k2 k3 []
 rw [List.append_nil] at hb
 refine ⟨g4,rfl,?_⟩
 rw [replay_more hr h60 hb h4,recoverR_ok g1 rfl]
 show (doneR _ (acts++[x]),((acts++[x]).length:Int),(0:Int))=_
 rw [doneR_snoc,g3,List.length_append]
 rfl
theorem replay_few {t:List UInt8} {acts:List Act1} {n:Int} (h:replayR t=(acts,n,0)):t.length≤4096:=by
 by_cases hm:4096 < t.length
 ·rw [replayR_many hm] at h
  exact absurd (show (2:Int)=0 from congrArg (fun p=>p.2.2) h) (by decide)
 ·omega
theorem write_few {x:Act1} {B:ByteArray} (h:writeR x=(B,0)):B.size≤200:=by
 obtain ⟨k1,k2,k3,k4⟩:=writeR_zero (x:=x) (by rw [h])
 rw [h] at k4
 have k4':B=str (bytesL x):=k4
 rw [k4',str_size,bytesL_len]
 omega
theorem logMore_any (w:World) (v:Value) (l:List Queue) (T:ByteArray) (av:Value) (x:Act1) (hv:QueuesV w v l) (ha:ActV w av x) :
  Calls Tryz.prog 8 #[v,.string T,av] w fun e w'=>e=.returned (.bool true)∧Ext w w':=by
 obtain ⟨t,rfl⟩:∃ t,str t=T:=⟨_,str_of T⟩
 obtain ⟨ds,rfl,pv,cv,rfl,hp,hc,hI,hK,hN⟩:=ha
 obtain ⟨⟨acts,cnt,code⟩,hr⟩:∃ q,replayR t=q:=⟨_,rfl⟩
 obtain ⟨⟨S,m,c⟩,hrec⟩:∃ q,recoverR l (replayR t)=q:=⟨_,rfl⟩
 obtain ⟨⟨B,f⟩,hwr⟩:∃ q,writeR x=q:=⟨_,rfl⟩
 have RC:=hid (fun (W:World) (h:Ext w W)=>show Calls _ _ _ W (RetRec W (S,m,c)) from hrec▸Recover_any W v l t (hv.mono h))
 have WR:=hid (fun (W:World) (h:Ext w W)=>Write_is hwr (hp.mono h) (hc.mono h) hI hK hN)
 have RA:=hid (fun (W:World)=>show Calls _ _ _ W (RetActs W (acts,cnt,code)) from hr▸Replay_any W t)
 have R2:=hid (fun (W:World) (h:Ext w W) (t2:List UInt8)=>Recover_any W v l t2 (hv.mono h))
 have DO:=hid (fun (W:World) (tv bv:Value) (S X:State) (er:Int) (h:Ext w W) (hd:doR S x=(X,er)) (hl:QueuesV W tv S.Tree) (hb:BooksV W bv S.Books)=>Do_is hd hl hb (hp.mono h) (hc.mono h) hI hN)
 have BG:=hid (fun (W:World)=>logBegun_true W)
 rw [hr] at hrec
 have HSZ:=hid (show (str t).size=t.length from str_size t)
 obtain ⟨pa,pc,rfl,_,_,_⟩:=hp.form
 obtain ⟨ca,cc,rfl,_,_,_⟩:=hc.form
 obtain ⟨qa,qc,rfl,_,_,_⟩:=hv.form
 clear hp hc hv
 have HTT:=hid (show str t=str t from rfl)
 have HR:=hid hr
 have HREC:=hid hrec
 have HWR:=hid hwr
 clear hr hrec hwr
 have HSTR:=hid (fun b=>str_app t b)
 generalize str t=T at *
 generalize x.Req.Pieces.length=pn at *
 generalize x.Cap.length=cn at *
 generalize l.length=ln at *
 have X0:=hid ((Ext.rf w).al (.cells #[.int .i64 x.Kind,.int .i64 x.N,.int .i64 x.Req.Queue,.int .i64 x.Req.From,.int .i64 x.Req.Until,.int .i64 x.Req.Kind,.slice pa pn pc,.slice ca cn cc] 31))
 have HBA:=hid (heap_alloc_new w (.cells #[.int .i64 x.Kind,.int .i64 x.N,.int .i64 x.Req.Queue,.int .i64 x.Req.From,.int .i64 x.Req.Until,.int .i64 x.Req.Kind,.slice pa pn pc,.slice ca cn cc] 31))
 go_enter Tryz.func8,Tryz.ntmps8
 go_wp2_with fail
 refine (RC.out _ X0.out).mono ?_
 rintro e wa ⟨u,v,rfl,hu,hv,hx⟩
 obtain ⟨ua,uc,rfl,_,_,_⟩:=hu.form
 obtain ⟨va,vc,rfl,_,_,_⟩:=hv.form
 have HUa:=hid hu
 have HVa:=hid hv
 have Aa:=hid ((Ext.rf wa).al (.cells #[.int .i64 S.Clock,.int .i64 S.Next,.slice ua S.Tree.length uc,.slice va S.Books.length vc] 25))
 have Xa:=hid (X0.out.tr (hx.tr Aa.out))
 have HBa:=hid (recov_box (wa:=wa) (S:=S) (ua:=ua) (va:=va) (ca:=uc) (da:=vc))
 obtain ⟨k0,k1,k2,k3,k4,k5,k6,k7⟩:=actRow (blk_ext HBA.out hx)
 have hl1:w.heap.size < wa.heap.size:=World.block_lt_of_cell? _ _ k0
 have HBA1:=hid (blk_ext HBA.out (hx.tr Aa.out))
 clear hu hv hx
 go_wp2_with fail
 clear k0 k1 k2 k3 k4 k5 k6 k7 hl1
 refine (WR.out _ Xa.out).mono ?_
 rintro e wb ⟨rfl,hxb⟩
 go_wp2_with fail
 refine (RA.out _).mono ?_
 rintro e wc ⟨lv,rfl,hl,hxc⟩
 obtain ⟨la,lc,rfl,_,_,_⟩:=hl.form
 have Kc:=hid (hxb.tr hxc)
 have Xc:=hid (Xa.out.tr Kc.out)
 clear hl hxb hxc RC WR RA
 generalize hz:acts.length=z at *
 have HZ:=hid hz
 clear hz
 by_cases c1:c=0
 ·subst c1
  by_cases c2:f=0
  ·subst c2
   have c3:code=0:=(recoverR_zero HREC.out).2.1
   subst c3
   by_cases c4:cnt=(T.size:Int)
   ·subst c4
    have c4n:((T.size:Int) != (T.size:Int))=false:=by simp
    have hT4:T.size≤4096:=by rw [HSZ.out];exact replay_few HR.out
    have hB4:=write_few HWR.out
    by_cases c5:(60:Int)≤(z:Int)
    ·have d5:=deT c5
     go_wp2_with fail
     refine (BG.out _).mono ?_
     rintro e we ⟨rfl,hx⟩
     go_wp2_with fail
     go_ret
     exact ⟨rfl,Xc.out.tr hx⟩
    ·have d5:=deF c5
     by_cases c6:(4096:Int) < (T.size:Int)+(B.size:Int)
     ·have d6:=deT c6
      go_wp2_with fail
      refine (BG.out _).mono ?_
      rintro e we ⟨rfl,hx⟩
      go_wp2_with fail
      go_ret
      exact ⟨rfl,Xc.out.tr hx⟩
     ·have d6:=deF c6
      have hz60:z < 60:=by omega
      have HTS:=hid (show (T.size:Int)=(t.length:Int) from by rw [HSZ.out])
      have hm:=recover_more (t:=t) (m:=m) (x:=x) (B:=B) (S:=S) (acts:=acts) (by rw [← HTS.out];exact HREC.out) (by rw [← HTS.out];exact HR.out) HWR.out (by rw [HZ.out];exact hz60) (by have:=HSZ.out;omega)
      obtain ⟨hm1,hm2,hm3⟩:=hm
      rw [HZ.out] at hm1 hm3
      subst hm1
      obtain ⟨⟨X,i⟩,hd⟩:∃ q,doR S x=q:=⟨_,rfl⟩
      obtain ⟨D,hD⟩:∃ D,doneS S x=D:=⟨_,rfl⟩
      rw [hD] at hm3
      have R2:=hid (fun (W:World) (h:Ext w W)=>show Calls Tryz.prog 25 #[.slice qa ln qc,.string (T++B)] W (RetRec W (D,(z:Int)+1,0)) from by
       have:=R2.out W h (t++bytesL x)
       rw [hm3,← HSTR.out,← hm2] at this
       exact this)
      have DO:=hid (fun (W:World) (tv bv:Value) (h:Ext w W) (hl:QueuesV W tv S.Tree) (hb:BooksV W bv S.Books)=>DO.out W tv bv S X i h hd hl hb)
      have HD1:=hid (fun (h:i=0)=>(show D=X from by rw [← hD];unfold doneS;rw [hd,if_pos h]))
      have HD2:=hid (fun (h:i≠0)=>(show D=S from by rw [← hD];unfold doneS;rw [hd,if_neg h]))
      have hadd:=run_string_add_sum (P:=Tryz.prog) wc T B (by omega)
      have e9:(((z:Int)+1 == (z:Int)+1))=true:=by simp
      clear hm2 hm3 hd hD
      go_wp2_with fail
      refine (R2.out _ Xc.out).mono ?_
      rintro e wd ⟨u,v,rfl,hu,hv,hx⟩
      obtain ⟨ud,ucd,rfl,_,_,_⟩:=hu.form
      obtain ⟨vd,vcd,rfl,_,_,_⟩:=hv.form
      have HUd:=hid hu
      have HVd:=hid hv
      have Ad:=hid ((Ext.rf wd).al (.cells #[.int .i64 D.Clock,.int .i64 D.Next,.slice ud D.Tree.length ucd,.slice vd D.Books.length vcd] 25))
      have Kd:=hid (Kc.out.tr (hx.tr Ad.out))
      have Xd:=hid (Xc.out.tr (hx.tr Ad.out))
      have HBd:=hid (recov_box (wa:=wd) (S:=D) (ua:=ud) (va:=vd) (ca:=ucd) (da:=vcd))
      obtain ⟨k0,k1,k2,k3,k4,k5,k6,k7⟩:=actRow (blk_ext HBA1.out (Kc.out.tr hx))
      obtain ⟨n0,n1,n2,n3⟩:=HBa.out wd (Kc.out.tr hx)
      have hl1:w.heap.size < wd.heap.size:=World.block_lt_of_cell? _ _ k0
      have hl2:wa.heap.size < wd.heap.size:=World.block_lt_of_cell? _ _ n0
      have DO:=hid (DO.out _ _ _ Xd.out (HUa.out.mono (Aa.out.tr Kd.out)) (HVa.out.mono (Aa.out.tr Kd.out)))
      clear hu hv hx hadd
      go_wp2_with fail
      clear k0 k1 k2 k3 k4 k5 k6 k7 hl1 hl2 n0 n1 n2 n3
      refine DO.out.mono ?_
      rintro e we ⟨u,v,rfl,hu,hv,hx⟩
      obtain ⟨ue,uce,rfl,_,_,_⟩:=hu.form
      obtain ⟨ve,vce,rfl,_,_,_⟩:=hv.form
      have hal:=(Ext.rf we).al (.cells #[.int .i64 X.Clock,.int .i64 X.Next,.slice ue X.Tree.length uce,.slice ve X.Books.length vce] 25)
      have HBX:=hid (heap_alloc_new we (.cells #[.int .i64 X.Clock,.int .i64 X.Next,.slice ue X.Tree.length uce,.slice ve X.Books.length vce] 25))
      have HUe:=hid (hu.mono hal)
      have HVe:=hid (hv.mono hal)
      have Ke:=hid (hx.tr hal)
      have hws:wa.heap.size≤we.heap.size:=((Aa.out.tr Kd.out).tr hx).size
      have hwd:=hx.size
      clear hu hv hx hal
      by_cases hi:i=0
      ·subst hi
       obtain rfl:=HD1.out rfl
       have HWB:=HBX
       go_wp2_with fail
       refine (BG.out _).mono ?_
       rintro e wg ⟨rfl,hx⟩
       have Kg:=hid hx
       clear hx
       obtain ⟨a0,a1,a2,a3⟩:=HBd.out wg (Ke.out.tr Kg.out)
       obtain ⟨b0,b1,b2,b3⟩:=stateRow (blk_ext HWB.out Kg.out)
       have SS:=hid (fun (W:World) (h:Ext wg W)=>sameStates_yes W D.Clock D.Next (.slice ud D.Tree.length ucd) (.slice vd D.Books.length vcd) (.slice ue D.Tree.length uce) (.slice ve D.Books.length vce) D.Tree D.Books (HUd.out.mono (Ad.out.tr (Ke.out.tr (Kg.out.tr h)))) (HVd.out.mono (Ad.out.tr (Ke.out.tr (Kg.out.tr h)))) (HUe.out.mono (Kg.out.tr h)) (HVe.out.mono (Kg.out.tr h)))
       go_wp2_with fail
       refine (SS.out _ (Ext.rf _)).mono ?_
       rintro e wh ⟨rfl,hx⟩
       go_wp2_with fail
       go_ret
       exact ⟨rfl,(Xd.out.tr Ke.out).tr (Kg.out.tr hx)⟩
      ·have hne:=neT hi
       have h7:=HD2.out hi
       subst h7
       obtain ⟨n0,n1,n2,n3⟩:=HBa.out _ (Kd.out.tr Ke.out)
       have HWB:=hid (setRow_heap _ we.heap.size _ #[.int .i64 D.Clock,.int .i64 D.Next,.slice ua D.Tree.length uc,.slice va D.Books.length vc] _ _ HBX.out)
       have HUe:=hid (HUa.out.mono (((Aa.out.tr (Kd.out.tr Ke.out))).sr (b:=we.heap.size) hws #[.int .i64 D.Clock,.int .i64 D.Next,.slice ua D.Tree.length uc,.slice va D.Books.length vc]))
       have HVe:=hid (HVa.out.mono (((Aa.out.tr (Kd.out.tr Ke.out))).sr (b:=we.heap.size) hws #[.int .i64 D.Clock,.int .i64 D.Next,.slice ua D.Tree.length uc,.slice va D.Books.length vc]))
       have Kf:=hid (Ke.out.sr (b:=we.heap.size) hwd #[.int .i64 D.Clock,.int .i64 D.Next,.slice ua D.Tree.length uc,.slice va D.Books.length vc])
       go_wp2_with (refine wpList_store_row rfl 25 _ _ rfl we.heap.size #[.int .i64 D.Clock,.int .i64 D.Next,.slice ua D.Tree.length uc,.slice va D.Books.length vc] rfl rfl 25 _ HBX.out Tryz.size25 rfl (by simp [Value.oneCell']) ?_)
       refine (BG.out _).mono ?_
       rintro e wg ⟨rfl,hx⟩
       have Kg:=hid hx
       clear hx
       obtain ⟨a0,a1,a2,a3⟩:=HBd.out wg (Kf.out.tr Kg.out)
       obtain ⟨b0,b1,b2,b3⟩:=stateRow (blk_ext HWB.out Kg.out)
       have SS:=hid (fun (W:World) (h:Ext wg W)=>sameStates_yes W D.Clock D.Next (.slice ud D.Tree.length ucd) (.slice vd D.Books.length vcd) (.slice ua D.Tree.length uc) (.slice va D.Books.length vc) D.Tree D.Books (HUd.out.mono (Ad.out.tr (Kf.out.tr (Kg.out.tr h)))) (HVd.out.mono (Ad.out.tr (Kf.out.tr (Kg.out.tr h)))) (HUe.out.mono (Kg.out.tr h)) (HVe.out.mono (Kg.out.tr h)))
       go_wp2_with fail
       refine (SS.out _ (Ext.rf _)).mono ?_
       rintro e wh ⟨rfl,hx⟩
       go_wp2_with fail
       go_ret
       exact ⟨rfl,(Xd.out.tr Kf.out).tr (Kg.out.tr hx)⟩
   ·have d4:=neT c4
    go_wp2_with fail
    refine (BG.out _).mono ?_
    rintro e we ⟨rfl,hx⟩
    go_wp2_with fail
    go_ret
    exact ⟨rfl,Xc.out.tr hx⟩
  ·have d2:=neT c2
   go_wp2_with fail
   refine (BG.out _).mono ?_
   rintro e we ⟨rfl,hx⟩
   go_wp2_with fail
   go_ret
   exact ⟨rfl,Xc.out.tr hx⟩
 ·have d1:=neT c1
  go_wp2_with fail
  refine (BG.out _).mono ?_
  rintro e we ⟨rfl,hx⟩
  go_wp2_with fail
  go_ret
  exact ⟨rfl,Xc.out.tr hx⟩
end Go.Proofs.YtdcndkojmflhnaaGreat
