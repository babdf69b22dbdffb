/- CutFair. -/
import Derived.Test.YtncaoclhlfkdoaaGreatPCutO
set_option linter.unusedVariables false
set_option linter.unusedSimpArgs false
set_option maxRecDepth 100000
set_option maxHeartbeats 8000000
set_option linter.unusedSimpArgs false
set_option linter.unusedVariables false
namespace Go.Proofs.YtncaoclhlfkdoaaGreat
open Go.RowKit
open List renaming getElem_toArray→zA,getElem_cons_zero→zB,getElem_cons_succ→zC,setIfInBounds_toArray→zD,set_cons_zero→zE,set_cons_succ→zF
theorem run_append_none {P:Program} (w:World) (t ty e:TypeId) (i:TypeInfo) (ht:P.underlying t=some (.slice e)) (hi:P.info? e=some i) (a:Addr) (n cap:Nat) (hn:n≤cap) (b:Option Addr) (c:Nat) :
  (Builtin.append_ #[t,t] ty #[.slice (some a) n cap,.slice b 0 c]).run P w=.ok (.slice (some a) n cap) w:=by
 cases b <;> simp [Builtin.append_,run_underlying ht,sizeOf,typeInfo,hi,Builtin.lenOf,Builtin.firstCells,hn,storeCells,loadCells,loadCellsFrom]
theorem wpList_append_none {P:Program} {ops:Array Oper} {rest:List Oper} {o:Oper} {a:Act} {w:World} {Q:Exit→Act→World→Prop} (hgd:o.guard=none) (s x:Operand) (t:TypeId)
  (ho:o.op=.call { callee:=.builtin .append,args:=#[s,x],argTypes:=#[t,t] }) (e:TypeId) (i:TypeInfo) (ht:P.underlying t=some (.slice e)) (hi:P.info? e=some i)
  (ad:Addr) (n cap:Nat) (hs:a.eval s=.slice (some ad) n cap) (b:Option Addr) (c:Nat) (hx:a.eval x=.slice b 0 c) (hn:n≤cap)
  (h:wpList P ops Q rest (a.put o.dst (.slice (some ad) n cap)) w):wpList P ops Q (o::rest) a w :=
 wpList_plain hgd fun _ hK=>by
  have hr:=run_append_none (P:=P) w t o.type e i ht hi ad n cap hn b c
  unfold Oper.wp execOp
  simp only [ho,resolve,invoke,builtin,Sem.run_bind,Sem.run_pure,Result.andThen_ok,List.map_toArray,List.map_cons,List.map_nil,hs,hx,hr]
  exact hK _ _ h
theorem wpList_append_ints {P:Program} {ops:Array Oper} {rest:List Oper} {o:Oper} {a:Act} {w:World} {Q:Exit→Act→World→Prop} (hgd:o.guard=none) (s x:Operand) (t:TypeId)
  (ho:o.op=.call { callee:=.builtin .append,args:=#[s,x],argTypes:=#[t,t] })
  (base:Nat) (e:TypeId) (i:TypeInfo) (z:Value) (bytes:Nat) (ht:P.underlying t=some (.slice e)) (hi:P.info? e=some i) (hz:i.zero=some z)
  (hsize:i.size=1) (hby:i.bytes=bytes) (hzs:z.cells.size=1)
  (g n cap:Nat) (xs:List Int) (hs:a.eval s=.slice (some ⟨g,0,none⟩) n cap) (hown:w.ownsRow base e 1 (.slice (some ⟨g,0,none⟩) n cap) n (xs.map fun n=>Value.int .i64 n)) (hn:n≤cap)
  (xv:Value) (m:List Int) (hx:a.eval x=xv) (hm:IntsV w xv m)
  (h63:n+m.length≤maxLen) (hbytes:(n+m.length)*bytes≤140737488355328) (hbase:base≤w.heap.size)
  (h:∀ g' cap' w',w'.ownsRow base e 1 (.slice (some ⟨g',0,none⟩) (n+m.length) cap') (n+m.length) ((xs++m).map fun n=>Value.int .i64 n)→n+m.length≤cap'→w.grownBy w' (some g)→wpList P ops Q rest (a.put o.dst (.slice (some ⟨g',0,none⟩) (n+m.length) cap')) w'):wpList P ops Q (o::rest) a w:=by
 rcases hm with ⟨rfl,b,c,rfl,_⟩ | ⟨b,off,c,rfl,h1,h2,h3,h4,h5⟩
 ·refine wpList_append_none hgd s x t ho e i ht hi ⟨g,0,none⟩ n cap hs b c hx hn ?_
  have:=h g cap w (by rw [List.append_nil];exact hown) hn (grown_of_ext (Ext.rf w))
  exact this
 ·by_cases h0:m=[]
  ·subst h0
   refine wpList_append_none hgd s x t ho e i ht hi ⟨g,0,none⟩ n cap hs (some ⟨b,off,none⟩) c hx hn ?_
   have:=h g cap w (by rw [List.append_nil];exact hown) hn (grown_of_ext (Ext.rf w))
   exact this
  ·refine wpList_append_own w hgd s x t ho base e i z 1 bytes ht hi hz hsize hby hzs (by omega) _ n _ hs hown ⟨b,off,none⟩ m.length c (m.map fun n=>Value.int .i64 n) hx (by simp) (fun j u hj=>?_) (fun u hu=>?_) h63 hbytes hbase (fun v' w' k1 k2 _=>?_)
   ·rw [List.getElem?_map] at hj
    obtain ⟨y,hy,rfl⟩:=Option.map_eq_some_iff.1 hj
    have:=(h5 j y hy).1
    rw [Nat.mul_one] at this
    rw [addr7]
    exact this
   ·obtain ⟨y,_,rfl⟩:=List.mem_map.1 hu
    rfl
   ·have hp:=List.length_pos_iff.2 h0
    obtain ⟨g',cap',rfl⟩:=own_some7 k1 (by omega)
    refine h g' cap' w' (by rw [List.map_append];exact k1) ?_ k2
    rcases k1.2 with ⟨hv,_⟩ | ⟨g2,cap2,cur,hv,_,_,hnc,_⟩
    ·cases hv
    ·cases hv;exact hnc
theorem fair_told {s S:State} {k:Nat} {f:List Run} {m d:List Int} (h:changeR s (k:Int) f=(S,m,d,0)):∀ id∈m++d,∃ (i:Nat) (x:Book) (t q:Nat),s.Books[i]?=some x∧findB s id=((i:Int),0)∧s.Clock.toNat≤t∧t < 48∧q < s.Tree.length ∧
  sp (cp (setCap s.Tree k f) q) t < takenT (setCap s.Tree k f) s.Books q t∧0 < takenT (setCap s.Tree k f) [x] q t:=by
 obtain ⟨g1,g2,g3,k',hk',hk,rfl,rfl,rfl⟩:=change_right h
 obtain rfl:k=k':=by omega
 intro id hid
 have R:=rel_is (q:=k) g2 g3
 have E:=end_is (q:=k) g2 g3
 obtain ⟨x,hx,rfl⟩:=List.mem_map.1 (E.perm.subset hid)
 obtain ⟨i,hi⟩:=List.mem_iff_getElem?.1 (R.perm.subset (List.mem_append_right _ hx))
 obtain ⟨t,q,h1,h2,h3,h4,h5⟩:=R.fair x hx
 rw [setCap_len] at h3
 refine ⟨i,x,t,q,hi,find_where g2 hi,h1,h2,h3,by unfold leftT at h4;omega,?_⟩
 unfold hitB at h5
 simp only [Bool.and_eq_true,decide_eq_true_eq] at h5
 simp only [takenT]
 rw [if_pos h5.1]
 omega
theorem value_load {l:List Queue} {b:List Book} {q:Nat} (hb:∀ x∈b,BookOk l x) (h12:b.length≤12) {t:Int} (h0:0≤t) (h1:t < 48):valueR (fold (takenT l b q)) t=(takenT l b q t.toNat,0):=by
 have hn:Fine (fold (takenT l b q)):=fine_fold fun t ht=>by
  have:=takenT_num (l:=l) q t b hb
  unfold NumOk
  omega
 rw [valueR_fine hn h0 h1,sp_fold (by omega)]
theorem moved_len {s S:State} {k:Nat} {f:List Run} {m d:List Int} (h:changeR s (k:Int) f=(S,m,d,0)):m.length+d.length≤12:=by
 obtain ⟨g1,g2,g3,k',hk',hk,rfl,rfl,rfl⟩:=change_right h
 obtain rfl:k=k':=by omega
 have R:=rel_is (q:=k) g2 g3
 have E:=end_is (q:=k) g2 g3
 obtain ⟨_,h12,_⟩:=right_of g2
 have h1:=E.perm.length_eq
 have h2:=R.perm.length_eq
 rw [List.length_append] at h1 h2
 rw [List.length_map] at h1
 omega
theorem books_one {s:State} {k i:Nat} {f:List Run} {x:Book} (h:stateE s=0) (hf:CapOk f) (hi:s.Books[i]?=some x):booksE (setCap s.Tree k f) [x]=0:=by
 obtain ⟨h1,_⟩:=formE_zero (stateE_zero h).1
 obtain ⟨_,h0,h12,hbok⟩:=booksE_zero h1
 have hc:=checkT_set (q:=k) h0 hf
 rw [booksE_first hc (by simp)]
 refine firstE_all.2 fun y hy=>?_
 rw [List.mem_singleton.1 hy]
 have hb:=bookOk_set (q:=k) (f:=f).2 (hbok x (List.mem_of_getElem? hi))
 exact ⟨reqE_ok hc hb.req ⟨hb.q0,hb.q1⟩,hb.meets⟩
theorem books_cut {W:World} {b off cap i:Nat} {l:List Book} {x:Book} (hb:b < W.heap.size) (h:∀ k x,l[k]?=some x→EBook W b (off+k*7) x) (hi:l[i]?=some x) (hl:l.length≤cap) (hc:cap≤9223372036854775807):BooksV W (.slice (some ⟨b,off+i*7,none⟩) 1 (cap - i)) [x]:=by
 have hil:=(List.getElem?_eq_some_iff.1 hi).1
 refine .inr ⟨b,off+i*7,cap - i,rfl,?_,by omega,by simp,hb,fun k y hk=>?_⟩
 ·show 1≤cap - i;omega
 ·rcases k with _ | k
  ·cases hk
   rw [Nat.zero_mul,Nat.add_zero]
   exact h i x hi
  ·simp at hk
theorem cutFair_any (w:World) (sv:Value) (s:State) (q:Int) (rv:Value) (f:List Run) (hs:StateV w sv s) (hr:RunsV w rv f) (hq:I64 q) :
  Calls Tryz.prog 6 #[sv,.int .i64 q,rv] w fun e w'=>e=.returned (.bool true)∧Ext w w':=by
 obtain ⟨cs,rfl,tv,bv,rfl,ht,hb,_⟩:=hs
 obtain ⟨⟨⟨sc,sx,T,B⟩,m,d,er⟩,hsr⟩:∃ x,changeR s q f=x:=⟨_,rfl⟩
 have CA:=hid (fun (W:World) (h:Ext w W)=>Change_is hsr (ht.mono h) (hb.mono h) (hr.mono h) hq)
 have BG:=hid (fun (W:World)=>cutBegun_true W)
 have X0:=hid ((Ext.rf w).al (.cells #[.int .i64 s.Clock,.int .i64 s.Next,tv,bv] 25))
 have HS0:=hid (fun (V:World) (h:Ext (w.alloc (.cells #[.int .i64 s.Clock,.int .i64 s.Next,tv,bv] 25)) V)=>newState h)
 by_cases h0:er=0
 ·subst h0
  obtain ⟨g1,g2,g3,k,rfl,hk,gS,gm,gd⟩:=change_right hsr
  obtain ⟨g4,g5,_,_⟩:=cut_told hsr
  have g4':stateE (⟨sc,sx,T,B⟩:State)=0:=g1
  have e1:sc=s.Clock:=congrArg State.Clock gS
  have e2:sx=s.Next:=congrArg State.Next gS
  have e3:B=(endB s k f).1:=congrArg State.Books gS
  subst e1
  subst e2
  obtain ⟨ok,h12,hbok⟩:=right_of g2
  have OW:=hid (fun (W:World) (h:Ext w W)=>OwnState_any W tv bv s (ht.mono h) (hb.mono h) ok h12 hbok)
  obtain ⟨qa,qc,rfl,_,_,_⟩:=ht.form
  have HSC:=hid (fun (w':World) (g qq:Nat) (v:Value) (W:World) (h:OwnS [] W.heap.size w' (.slice (some ⟨g,0,none⟩) s.Tree.length qq) v s.Tree s.Books) (hx:Ext w W) (hx2:Ext W w') (hxx:W.heap.size≤g) (hvv:∀ r,v.ownBlock=some r→W.heap.size≤r) =>
   (h.low (ex2:=[]) (B2:=0) (Nat.zero_le _) (fun r hr=>hr)).setC (k:=k) hk (hr.mono (hx.tr hx2)) (capOk_ne g3) (fun a n c e hm=>by
    have h1:a.block < w.heap.size:=sv2_low hr (capOk_ne g3) a n c e
    have h2:=hx.size
    simp only [List.mem_cons,List.mem_append,List.not_mem_nil,or_false,Option.mem_toList,List.range_zero,List.append_nil] at hm
    rcases hm with hm | hm
    ·omega
    ·have:=hvv _ hm;omega))
  have HQC:=hid (fun (w':World) (g qq:Nat) (v:Value) (W:World) (h:OwnS [] W.heap.size w' (.slice (some ⟨g,0,none⟩) s.Tree.length qq) v s.Tree s.Books)=>h.qcell hk)
  have HK:=hid hk
  have HBV:=hid hb
  have HGM:=hid (And.intro gm (And.intro gd e3))
  have q1:¬ (k:Int) < 0:=by omega
  have q2:¬ ((s.Tree.length:Nat):Int)≤(k:Int):=by omega
  have q3:=deF q1
  have q4:=deF q2
  have q5:=deF (show ¬ s.Tree.length≤k by omega)
  obtain ⟨ba,bc,rfl,_,_,_⟩:=hb.form
  obtain ⟨ra,rc,rfl,_,_,_⟩:=hr.form
  have HFA:=hid (fair_told hsr)
  have LO:=hid (fun (W:World) (a b:Value) (h1:QueuesV W a (setCap s.Tree k f)) (h2:BooksV W b s.Books)=>LoadOf_is (loadsR_ok (books_set g2 g3)) h1 h2)
  have LX:=hid (fun (i:Nat) (x:Book) (hi:s.Books[i]?=some x) (W:World) (a b:Value) (h1:QueuesV W a (setCap s.Tree k f)) (h2:BooksV W b [x])=>LoadOf_is (loadsR_ok (books_one (k:=k) g2 g3 hi)) h1 h2)
  have hok':∀ x∈s.Books,BookOk (setCap s.Tree k f) x:=fun x hx=>bookOk_set.2 (hbok x hx)
  have VT:=hid (fun (q:Nat) (t:Nat) (ht:t < 48)=>value_load (q:=q) (t:=(t:Int)) hok' h12 (by omega) (by omega))
  have VM:=hid (fun (i:Nat) (x:Book) (hi:s.Books[i]?=some x) (q:Nat) (t:Nat) (ht:t < 48)=>value_load (l:=setCap s.Tree k f) (b:=[x]) (q:=q) (t:=(t:Int)) (fun y hy=>by rw [List.mem_singleton.1 hy];exact hok' x (List.mem_of_getElem? hi)) (by simp) (by omega) (by omega))
  have hcaps:∀ q,q < s.Tree.length→CapOk (cp (setCap s.Tree k f) q):=fun q hq'=>(treeOk_set (q:=k) (booksE_zero (formE_zero (stateE_zero g2).1).1).2.1 g3).caps q (by rw [setCap_len];exact hq')
  have VC:=hid (fun (q:Nat) (hq':q < s.Tree.length) (t:Nat) (ht:t < 48)=>valueR_fine (t:=(t:Int)) (hcaps q hq').1 (by omega) (by omega))
  have hcl:=(formE_zero (stateE_zero g2).1).2.1
  have HCL:=hid (show 0≤s.Clock∧s.Clock≤48 from ⟨hcl.1,hcl.2.1⟩)
  have HLL:=hid (setCap_len s.Tree k f)
  have hmd:=moved_len hsr
  have hML:m.length≤12:=by omega
  have PF:=hid (fun (W:World) (h:Ext w W) (id:Int) (i:Nat) (hf:findB s id=((i:Int),0))=>planFind_is hf (ht.mono h) (hb.mono h))
  clear hok' hcaps hcl hsr ht hb hr g1 g2 g3 g4 g5 g4' gS gm gd e3 ok h12 hbok
  generalize f.length=fz at *
  go_enter Tryz.func6,Tryz.ntmps6
  go_wp2_with fail
  refine (CA.out _ X0.out).mono ?_
  rintro e wa ⟨u,v,mv,dv,rfl,hu,hv,hm,hd,hx⟩
  obtain ⟨ua,ca,rfl,_,_,_⟩:=hu.form
  obtain ⟨va,da,rfl,_,_,_⟩:=hv.form
  obtain ⟨ma,mc,rfl,_,_,_⟩:=hm.form
  obtain ⟨na,nc,rfl,_,_,_⟩:=hd.form
  have hal:=(Ext.rf wa).al (.cells #[.int .i64 s.Clock,.int .i64 s.Next,.slice ua T.length ca,.slice va B.length da] 25)
  have HBa:=hid (fun (V:World) (h:Ext (wa.alloc (.cells #[.int .i64 s.Clock,.int .i64 s.Next,.slice ua T.length ca,.slice va B.length da] 25)) V)=>newState h)
  have HMa:=hid hm
  have HDa:=hid hd
  have Aa:=hid hal
  have Ga:=hid (hx.tr hal)
  have Xa:=hid (X0.out.tr Ga.out)
  obtain ⟨b0,b1,b2,b3⟩:=HS0.out _ Ga.out
  clear hu hv hm hd hx hal
  go_wp2_with fail
  clear b0 b1 b2 b3
  refine (OW.out _ Xa.out).mono ?_
  rintro e wb ⟨u7,v7,rfl,hO,hx⟩
  obtain ⟨gq,qc2,rfl,hgB,hgs⟩:=hO.uform
  obtain ⟨oa,oc,rfl,how⟩:=hO.vform
  generalize hVa:wa.alloc (.cells #[.int .i64 s.Clock,.int .i64 s.Next,.slice ua T.length ca,.slice va B.length da] 25)=Va at *
  have hVs:Ext w Va:=Xa.out
  obtain ⟨⟨old,k0⟩,f0⟩:=HQC.out _ _ _ _ _ hO
  have hst:=HSC.out _ _ _ _ _ hO hVs hx hgB (fun r hr=>(how r hr).1)
  have hal:=(Ext.rf (wb.setCell ⟨gq,k*3+2,none⟩ (.slice ra fz rc))).al (.cells #[.int .i64 s.Clock,.int .i64 s.Next,.slice (some ⟨gq,0,none⟩) s.Tree.length qc2,.slice oa s.Books.length oc] 25)
  have HT:=hid (hst.ext hal)
  have GB:=hid ((hx.se (b:=gq) (o:=k*3+2) hgB (.slice ra fz rc)).al (.cells #[.int .i64 s.Clock,.int .i64 s.Next,.slice (some ⟨gq,0,none⟩) s.Tree.length qc2,.slice oa s.Books.length oc] 25))
  have hgn:¬ gq=wb.heap.size:=by omega
  have hgn2:¬ wb.heap.size=gq:=by omega
  have HKa:=hid (hx.se (b:=gq) (o:=k*3+2) hgB (.slice ra fz rc))
  clear hO hx hgB how hst hal
  obtain ⟨ii,ii1,ii2,ii3,ii4⟩:=info_parts Tryz.info3
  have hszs:(wb.setCell ⟨gq,k*3+2,none⟩ (.slice ra fz rc)).heap.size=wb.heap.size:=by simp [World.setCell]
  have HTB:=hid (fun (V:World) (h:Ext ((wb.setCell ⟨gq,k*3+2,none⟩ (.slice ra fz rc)).alloc (.cells #[.int .i64 s.Clock,.int .i64 s.Next,.slice (some ⟨gq,0,none⟩) s.Tree.length qc2,.slice oa s.Books.length oc] 25)) V)=>show V.cell? ⟨wb.heap.size,0,none⟩=some (.int .i64 s.Clock)∧V.cell? ⟨wb.heap.size,1,none⟩=some (.int .i64 s.Next)∧V.cell? ⟨wb.heap.size,2,none⟩=some (.slice (some ⟨gq,0,none⟩) s.Tree.length qc2)∧V.cell? ⟨wb.heap.size,3,none⟩=some (.slice oa s.Books.length oc) from by
   have:=newState h
   rwa [hszs] at this)
  clear hszs
  have HOE:=hid (own_empty ((wb.setCell ⟨gq,k*3+2,none⟩ (.slice ra fz rc)).alloc (.cells #[.int .i64 s.Clock,.int .i64 s.Next,.slice (some ⟨gq,0,none⟩) s.Tree.length qc2,.slice oa s.Books.length oc] 25)) 3 1 (by omega))
  have hsz:((wb.setCell ⟨gq,k*3+2,none⟩ (.slice ra fz rc)).alloc (.cells #[.int .i64 s.Clock,.int .i64 s.Next,.slice (some ⟨gq,0,none⟩) s.Tree.length qc2,.slice oa s.Books.length oc] 25)).heap.size=wb.heap.size+1:=by rw [World.size_alloc];simp [World.setCell]
  rw [hsz] at HOE
  have AE:=hid (Ext.al (Ext.rf ((wb.setCell ⟨gq,k*3+2,none⟩ (.slice ra fz rc)).alloc (.cells #[.int .i64 s.Clock,.int .i64 s.Next,.slice (some ⟨gq,0,none⟩) s.Tree.length qc2,.slice oa s.Books.length oc] 25))) (.cells #[] 3))
  have MV:=hid (HMa.out.mono (Aa.out.tr (GB.out.tr AE.out)))
  have hsz2:wb.heap.size+1≤(((wb.setCell ⟨gq,k*3+2,none⟩ (.slice ra fz rc)).alloc (.cells #[.int .i64 s.Clock,.int .i64 s.Next,.slice (some ⟨gq,0,none⟩) s.Tree.length qc2,.slice oa s.Books.length oc] 25)).alloc (.cells #[] 3)).heap.size:=by rw [World.size_alloc,hsz];omega
  have HZ2:=hid hsz2
  have HSZ:=hid hsz
  clear hsz hsz2
  go_wp2_with (first
   | (at_builtin;refine wpList_append_ints rfl _ _ 27 rfl (wb.heap.size+1) 3 ii _ 8 Tryz.underlying27 ii1 ii2 ii3 ii4 rfl (wb.heap.size+1) 0 0 [] rfl HOE.out (Nat.le_refl _) _ m rfl MV.out (by unfold maxLen;omega) (by omega) HZ2.out ?_;intro g1 cp1 W3 hown1 hcap1 hgrow1;rw [Nat.zero_add,List.nil_append] at hown1;rw [Nat.zero_add] at hcap1;have HX3:=hid (AE.out.gr (v:=.slice (some ⟨wb.heap.size+1,0,none⟩) 0 0) hgrow1 (fun r hr=>by have e1:=Option.some.inj hr;have e2:wb.heap.size+1=r:=e1;rw [HSZ.out];omega)))
   | (at_builtin;refine wpList_append_ints rfl _ _ 27 rfl (wb.heap.size+1) 3 ii _ 8 Tryz.underlying27 ii1 ii2 ii3 ii4 rfl g1 m.length cp1 m rfl hown1 hcap1 _ d rfl (HDa.out.mono (Aa.out.tr (GB.out.tr HX3.out))) (by unfold maxLen;omega) (by omega) (by have:=HX3.out.size;rw [HSZ.out] at this;exact this) ?_;intro g2 cp2 W4 hown2 hcap2 hgrow2;have HX4:=hid (HX3.out.gr (v:=.slice (some ⟨g1,0,none⟩) m.length cp1) hgrow2 (fun r hr=>by have e1:=Option.some.inj hr;have e2:g1=r:=e1;have e3:=own_lt hown1 g1 rfl;rw [HSZ.out];omega));obtain ⟨c0,c1,c2,c3⟩:=HTB.out W4 HX4.out))
  have HT4:=hid (HT.out.ext HX4.out)
  have C:=hid (LO.out _ _ _ HT4.out.tree HT4.out.books)
  have hAW:∀ (j:Nat) (id:Int),(m++d)[j]?=some id→W4.cell? ⟨g2,j,none⟩=some (.int .i64 id):=fun j id hj=>by
   have:=hown2.cells (g:=g2) rfl j (.int .i64 id) (by rw [List.getElem?_map,hj];rfl)
   rwa [addr7,Nat.zero_add] at this
  have HAW:=hid hAW
  have X4:=hid (Xa.out.tr (GB.out.tr HX4.out))
  obtain ⟨oa',oc',eo,ho1,ho2,ho3,hoE⟩:=books_at HT4.out.books
  cases eo
  have HOB:=hid hoE
  have HQE:=hid (show ∀ n y,(setCap s.Tree k f)[n]?=some y→EQueue W4 gq (0+n*3) y from fun n y hy=>by
   obtain ⟨a1,c1,e1,_,_,_,hE⟩:=sv_at HT4.out.tree
   simp only [Value.slice.injEq] at e1
   obtain ⟨rfl,_,rfl⟩:=e1
   obtain ⟨b1,o1,e2,_,hE2⟩:=hE (by have:=(List.getElem?_eq_some_iff.1 hy).1;omega)
   cases e2
   exact hE2 n y hy)
  clear hown1 hown2 hcap1 hcap2 hgrow1 hgrow2 c0 c1 c2 c3 hAW hoE
  refine C.out.mono ?_
  rintro e w5 ⟨u5,rfl,hu5,hx5⟩
  obtain ⟨la,lc,rfl,hl1,hl2,hl3,hlE⟩:=loads_at hu5
  have hlen:∀ b,(loadsL (setCap s.Tree k f) b).length=s.Tree.length:=fun b=>by unfold loadsL;rw [List.length_map,List.length_range];exact HLL.out
  rw [hlen] at hl1 hlE ⊢
  have HLEN:=hid hlen
  have HLE:=hid hlE
  have HX45:=hid hx5
  have HX5:=hid (HX4.out.tr hx5)
  have X5:=hid (X4.out.tr hx5)
  obtain ⟨c0,c1,c2,c3⟩:=HTB.out w5 HX5.out
  clear hu5 hx5 hlE hlen C
  generalize hMD:m.length+d.length=MD at *
  have HMD:=hid (show (m++d).length=MD from by rw [List.length_append];exact hMD)
  clear hMD
  go_wp2_with fail
  clear c0 c1 c2 c3
  go_loopw [15] (fun c wr=>∃ i:Nat,c=.int .i64 i∧i≤MD∧Ext w5 wr) (fun c _=>MD - (intOf c).toNat)
  case atStart=>exact ⟨0,rfl,Nat.zero_le _,Ext.rf _⟩
  case round =>
   obtain ⟨i,rfl,hi,hx⟩:=hrel
   have HX:=hid hx
   clear hx
   by_cases hlt:i < MD
   ·have hlt':(i:Int) < (MD:Int):=by omega
    obtain ⟨id,hid'⟩:=getA (f:=m++d) (k:=i) (by rw [HMD.out];exact hlt)
    obtain ⟨j,x,t0,q0,hj,hfind,ht1,ht2,hq0,hbig,hmine⟩:=HFA.out id (List.mem_of_getElem? hid')
    have hjN:=(List.getElem?_eq_some_iff.1 hj).1
    obtain ⟨ob,oo,rfl,hob,hoe⟩:=HOB.out (by omega)
    have e0:=(HX45.out.tr HX.out).ce' (HAW.out i id hid')
    obtain ⟨b0,b1,b2,b3⟩:=HS0.out wr (Ga.out.tr (GB.out.tr (HX5.out.tr HX.out)))
    have ML1:=hid (fun p:Later wr=>later_of p (v:=.tuple #[.int .i64 (j:Int),.int .i64 0]) (PF.out p.v (X5.out.tr (HX.out.tr p.h)) id j hfind))
    have t1:=deF (show ¬ (i:Int) < 0 by omega)
    have t2:=deF (show ¬ (MD:Int)≤(i:Int) by omega)
    have t3:=deF (show ¬ MD≤i by omega)
    have HJ:=hid hj
    have HBIG:=hid hbig
    have HMINE:=hid hmine
    have HOE2:=hid hoe
    have HT0:=hid (And.intro ht1 (And.intro ht2 hq0))
    clear hid' hj hfind hbig hmine hoe ht1 ht2 hq0
    go_wp2_with fail
    replace b0:=fun p:Later wr=>p.cell b0
    replace b1:=fun p:Later wr=>p.cell b1
    replace b2:=fun p:Later wr=>p.cell b2
    replace b3:=fun p:Later wr=>p.cell b3
    replace e0:=fun p:Later wr=>p.cell e0
    refine region_later (by kernel_rfl) (by kernel_rfl) ?_
    repeat (go_big_quiet_step (first | with_reducible exact ML1.out _))
    refine wpQuiet_nil ?_
    rintro w' ⟨p,rfl⟩
    have HX6:=hid (HX.out.tr p.h)
    clear ML1 b0 b1 b2 b3 e0
    generalize p.v=w6 at *
    obtain ⟨b0,b1,b2,b3⟩:=HS0.out w6 (Ga.out.tr (GB.out.tr (HX5.out.tr HX6.out)))
    have u1:=deF (show ¬ (j:Int) < 0 by omega)
    have u2:=deF (show ¬ ((s.Books.length:Nat):Int)≤(j:Int) by omega)
    have u3:¬ ((s.Books.length:Nat):Int)≤(j:Int):=by omega
    go_wp2_with fail
    clear b0 b1 b2 b3
    have k2:w6.cell? ⟨wb.heap.size,2,none⟩=some (.slice (some ⟨gq,0,none⟩) s.Tree.length qc2):=(HTB.out w6 (HX5.out.tr HX6.out)).2.2.1
    have k3:w6.cell? ⟨wb.heap.size,3,none⟩=some (.slice (some ⟨ob,oo,none⟩) s.Books.length oc):=(HTB.out w6 (HX5.out.tr HX6.out)).2.2.2
    have LXI:=hid (fun (W:World) (h:Ext w6 W)=>LX.out j x HJ.out W _ _ (HT4.out.tree.mono (HX45.out.tr (HX6.out.tr h))) (books_cut (Nat.lt_of_lt_of_le hob (HX45.out.tr (HX6.out.tr h)).size) (fun k y hk=>EBook.mono W4 W ob _ y (HX45.out.tr (HX6.out.tr h)) (HOE2.out k y hk)) HJ.out ho1 ho2))
    have v1:¬ oc=j:=by omega
    have v5:(0:Int)≤(j:Int):=by omega
    have v7:(j:Int)≤(j:Int)+1:=by omega
    have v11:(j:Int)+1≤((oc:Nat):Int):=by omega
    have v10:IntKind.i64.wrap ((j:Int)+1)=(j:Int)+1:=by rw [IntKind.wrap_i64];omega
    go_region_held3 (fun w'=>(w'.cell? ⟨wb.heap.size,2,none⟩=some (.slice (some ⟨gq,0,none⟩) s.Tree.length qc2)∧w'.cell? ⟨wb.heap.size,3,none⟩=some (.slice (some ⟨ob,oo,none⟩) s.Books.length oc)))
     (first
      | go_keep
      | (
        go_split_ands
        exact ⟨hxk.ce' (by assumption),hxk.ce' (by assumption)⟩))
     ((go_at_call 30;refine (LXI.out _ (Ext.rf w6).dr).mono ?_;rintro e W7 ⟨u7,rfl,hu7,hxk⟩))
    obtain ⟨lma,lmc,rfl,_,_,_,hmE⟩:=loads_at hu7
    rw [HLEN.out] at hmE ⊢
    have HME:=hid hmE
    have HX7:=hid (HX6.out.tr ((Ext.rf w6).dr.tr hxk))
    clear v1 v5 v7 v10 v11 k2 k3 hu7 hxk LXI hmE
    obtain ⟨c0,c1,c2,c3⟩:=HTB.out W7 (HX5.out.tr HX7.out)
    obtain ⟨b0,b1,b2,b3⟩:=HS0.out W7 (Ga.out.tr (GB.out.tr (HX5.out.tr HX7.out)))
    go_wp2_with fail
    clear c0 c1 c2 c3 b0 b1 b2 b3
    go_loopw [20,21] (fun is ax wr=>∃ (b:Bool) (a:Nat),is=.bool b∧ax=.int .i64 a∧a≤48∧Hid (b=true∨a≤t0)∧Ext W7 wr) (fun _ ax _=>48 - (intOf ax).toNat)
    case atStart=>exact ⟨false,s.Clock.toNat,rfl,by rw [Int.toNat_of_nonneg HCL.out.1],by have:=HCL.out;omega,hid (.inr HT0.out.1),Ext.rf _⟩
    case round =>
     obtain ⟨b,a,rfl,rfl,ha1,HB,hx⟩:=hrel
     have HXA:=hid hx
     clear hx
     by_cases hal:a < 48
     ·have hal':(a:Int) < 48:=by omega
      go_wp2_with fail
      generalize wr=wa2 at *
      go_loopw [20,22] (fun is nx wr=>∃ (b2:Bool) (n:Nat),is=.bool b2∧nx=.int .i64 n∧n≤s.Tree.length∧Hid (b2=true∨a < t0∨(a=t0∧n≤q0))∧Ext W7 wr) (fun _ nx _=>s.Tree.length - (intOf nx).toNat)
      case atStart=>exact ⟨b,0,rfl,rfl,Nat.zero_le _,hid (by
                                     rcases HB.out with h | h
                                     ·exact .inl h
                                     ·omega),HXA.out⟩
      case round =>
       obtain ⟨b2,n,rfl,rfl,hn,HB2,hx⟩:=hrel
       have HXB:=hid hx
       obtain ⟨c0,c1,c2,c3⟩:=HTB.out wr (HX5.out.tr (HX7.out.tr hx))
       clear hx
       by_cases hnl:n < s.Tree.length
       ·have hnl':(n:Int) < ((s.Tree.length:Nat):Int):=by omega
        obtain ⟨lb,lo,rfl,_,hle⟩:=HLE.out (by omega)
        obtain ⟨ub,uo,rfl,_,hme⟩:=HME.out (by omega)
        have hln:∀ b,(loadsL (setCap s.Tree k f) b)[n]?=some (fold (takenT (setCap s.Tree k f) b n)):=fun b=>by
         unfold loadsL
         rw [List.getElem?_map,List.getElem?_range (by rw [HLL.out];exact hnl)]
         rfl
        obtain ⟨uc,k1,hr1⟩:=hle n _ (hln s.Books)
        obtain ⟨um,k3,hr3⟩:=hme n _ (hln [x])
        obtain ⟨ql,hql⟩:=getA (f:=setCap s.Tree k f) (k:=n) (by rw [HLL.out];exact hnl)
        have hcq:cp (setCap s.Tree k f) n=ql.Cap:=(at_some hql).2.2
        obtain ⟨_,_,_,_,cv,k2,hr2⟩:=HQE.out n ql hql
        rw [Nat.zero_add] at k2
        have e1:=VT.out n a hal
        have e2:=VC.out n hnl a hal
        have e3:=VM.out j x HJ.out n a hal
        rw [Int.toNat_natCast] at e1 e2 e3
        rw [hcq] at e2
        have V1:=hid (fun (W:World) (h:Ext W7 W)=>show Calls Tryz.prog 31 #[uc,.int .i64 (a:Int)] W (fun e w'=>e=.returned (.tuple #[.int .i64 (takenT (setCap s.Tree k f) s.Books n a),.int .i64 0])∧Ext W w') from by
         have:=Value_any W uc _ (a:Int) (hr1.mono (HX7.out.tr h))
         rw [e1] at this
         exact this)
        have V2:=hid (fun (W:World) (h:Ext W7 W)=>show Calls Tryz.prog 31 #[cv,.int .i64 (a:Int)] W (fun e w'=>e=.returned (.tuple #[.int .i64 (sp ql.Cap a),.int .i64 0])∧Ext W w') from by
         have:=Value_any W cv _ (a:Int) (hr2.mono (HX45.out.tr (HX7.out.tr h)))
         rw [e2] at this
         exact this)
        have V3:=hid (fun (W:World) (h:Ext W7 W)=>show Calls Tryz.prog 31 #[um,.int .i64 (a:Int)] W (fun e w'=>e=.returned (.tuple #[.int .i64 (takenT (setCap s.Tree k f) [x] n a),.int .i64 0])∧Ext W w') from by
         have:=Value_any W um _ (a:Int) (hr3.mono h)
         rw [e3] at this
         exact this)
        have HHIT:=hid (show a=t0→n=q0→sp ql.Cap a < takenT (setCap s.Tree k f) s.Books n a∧0 < takenT (setCap s.Tree k f) [x] n a from fun h1 h2=>by
         rw [← hcq,h1,h2]
         exact ⟨HBIG.out,HMINE.out⟩)
        have K1:=hid k1
        have K2:=hid k2
        have K3:=hid k3
        have z1:=deF (show ¬ (n:Int) < 0 by omega)
        have z2:=deF (show ¬ ((s.Tree.length:Nat):Int)≤(n:Int) by omega)
        have z3:=deF (show ¬ s.Tree.length≤n by omega)
        clear hle hme hln hql hcq e1 e2 e3 hr1 hr2 hr3 k1 k2 k3
        generalize takenT (setCap s.Tree k f) s.Books n a=ta at *
        generalize sp ql.Cap a=tc at *
        generalize takenT (setCap s.Tree k f) [x] n a=tm at *
        have k1:=(HX7.out.tr HXB.out).ce' K1.out
        go_wp2_with fail
        clear k1 c0 c1 c2 c3
        refine (V1.out _ HXB.out).mono ?_
        rintro e wv1 ⟨rfl,hx⟩
        have HV1:=hid (HXB.out.tr hx)
        clear hx
        obtain ⟨c0,c1,c2,c3⟩:=HTB.out wv1 (HX5.out.tr (HX7.out.tr HV1.out))
        have k2:=(HX45.out.tr (HX7.out.tr HV1.out)).ce' K2.out
        go_wp2_with fail
        clear k2 c0 c1 c2 c3
        refine (V2.out _ HV1.out).mono ?_
        rintro e wv2 ⟨rfl,hx⟩
        have HV2:=hid (HV1.out.tr hx)
        clear hx
        have k3:=HV2.out.ce' K3.out
        go_wp2_with fail
        clear k3
        refine (V3.out _ HV2.out).mono ?_
        rintro e wv3 ⟨rfl,hx⟩
        have HV3:=hid (HV2.out.tr hx)
        clear hx
        have hB2:=HB2.out
        have hHIT:=HHIT.out
        clear V1 V2 V3 HB2 HHIT
        cases b2 with
        | true =>
         clear hB2 hHIT
         go_wp2_with fail
         go_roundw
         case rel=>exact ⟨true,n+1,rfl,by go_num,by omega,hid (.inl rfl),HV3.out⟩
         case measure=>simp [intOf];omega
        | false =>
         by_cases h1:tc < ta
         ·by_cases h2:0 < tm
          ·clear hB2 hHIT
           go_wp2_with fail
           go_roundw
           case rel=>exact ⟨true,n+1,rfl,by go_num,by omega,hid (.inl rfl),HV3.out⟩
           case measure=>simp [intOf];omega
          ·have H3:=hid (show (false:Bool)=true∨a < t0∨(a=t0∧n+1≤q0) from by
            rcases hB2 with h | h | ⟨h,h'⟩
            ·cases h
            ·exact .inr (.inl h)
            ·refine .inr (.inr ⟨h,?_⟩)
             by_cases hq:n=q0
             ·exact absurd (hHIT h hq).2 h2
             ·omega)
           clear hB2 hHIT
           have hdd:=deF h2
           go_wp2_with fail
           go_roundw
           case rel=>exact ⟨false,n+1,rfl,by go_num,by omega,hid (H3.out),HV3.out⟩
           case measure=>simp [intOf];omega
         ·have H3:=hid (show (false:Bool)=true∨a < t0∨(a=t0∧n+1≤q0) from by
           rcases hB2 with h | h | ⟨h,h'⟩
           ·cases h
           ·exact .inr (.inl h)
           ·refine .inr (.inr ⟨h,?_⟩)
            by_cases hq:n=q0
            ·exact absurd (hHIT h hq).1 h1
            ·omega)
          clear hB2 hHIT
          go_wp2_with fail
          go_roundw
          case rel=>exact ⟨false,n+1,rfl,by go_num,by omega,hid (H3.out),HV3.out⟩
          case measure=>simp [intOf];omega
       ·obtain rfl:n=s.Tree.length:=by omega
        have hno:¬ ((s.Tree.length:Nat):Int) < ((s.Tree.length:Nat):Int):=by omega
        have H3:=hid (show b2=true∨a+1≤t0 from by
         have:=HT0.out.2.2
         rcases HB2.out with h | h | ⟨h,h'⟩
         ·exact .inl h
         ·exact .inr h
         ·omega)
        clear hnl
        go_wp2_with fail
        go_roundw
        case rel=>exact ⟨b2,a+1,rfl,by go_num,by omega,H3,HXB.out⟩
        case measure=>simp [intOf];omega
     ·obtain rfl:a=48:=by omega
      have hb:b=true:=by
       have:=HT0.out.2.1
       rcases HB.out with h | h
       ·exact h
       ·omega
      subst hb
      clear hal
      go_wp2_with fail
      go_roundw
      case rel=>exact ⟨i+1,by go_num,by omega,HX7.out.tr HXA.out⟩
      case measure=>simp [intOf];omega
   ·obtain rfl:i=MD:=by omega
    have hno:¬ (i:Int) < (i:Int):=by omega
    clear hlt
    go_wp2_with fail
    refine (BG.out _).mono ?_
    rintro e wz ⟨rfl,hz⟩
    go_wp2_with fail
    go_ret
    exact ⟨rfl,X5.out.tr (HX.out.tr hz)⟩
 ·have e1:=neT h0
  obtain ⟨qa,qc,rfl,_,_,_⟩:=ht.form
  obtain ⟨ba,bc,rfl,_,_,_⟩:=hb.form
  obtain ⟨ra,rc,rfl,_,_,_⟩:=hr.form
  clear hsr ht hb hr
  generalize s.Tree.length=sn at *
  generalize s.Books.length=sz at *
  generalize f.length=fz at *
  go_enter Tryz.func6,Tryz.ntmps6
  go_wp2_with fail
  refine (CA.out _ X0.out).mono ?_
  rintro e wa ⟨u,v,mv,dv,rfl,hu,hv,hm,hd,hx⟩
  obtain ⟨ua,ca,rfl,_,_,_⟩:=hu.form
  obtain ⟨va,da,rfl,_,_,_⟩:=hv.form
  obtain ⟨ma,mc,rfl,_,_,_⟩:=hm.form
  obtain ⟨na,nc,rfl,_,_,_⟩:=hd.form
  have hal:=(Ext.rf wa).al (.cells #[.int .i64 sc,.int .i64 sx,.slice ua T.length ca,.slice va B.length da] 25)
  have Xa:=hid (X0.out.tr (hx.tr hal))
  clear hu hv hm hd hx hal
  go_wp2_with fail
  refine (BG.out _).mono ?_
  rintro e wz ⟨rfl,hz⟩
  go_wp2_with fail
  go_ret
  exact ⟨rfl,Xa.out.tr hz⟩
end Go.Proofs.YtncaoclhlfkdoaaGreat
