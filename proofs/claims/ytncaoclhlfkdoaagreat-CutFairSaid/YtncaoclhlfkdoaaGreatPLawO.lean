/- laws; data that come in -/
import Derived.Test.YtncaoclhlfkdoaaGreatPRoomP
import Derived.Test.YtncaoclhlfkdoaaGreatPLoadR
import Derived.Test.YtncaoclhlfkdoaaGreatPFind
import Derived.Test.YtncaoclhlfkdoaaGreatPRunsZ
import Derived.Test.YtncaoclhlfkdoaaGreatPOverD
import Derived.Test.YtncaoclhlfkdoaaGreatProg
import Derived.Test.YtncaoclhlfkdoaaGreatPCore
import Derived.WalkSpells
import Derived.StillTactics
import Derived.Tactics2
import Derived.Deep.RegionHeld3
import Derived.Deep.Slices
import Derived.ChangeSame
import Derived.SizedLaws
import Derived.Deep.Strs
import Derived.ChangeArms
/- The laws of load and room. -/
/- The laws on room: roomBegun is true; RoomFirst. -/
set_option linter.unusedVariables false
set_option maxRecDepth 100000
set_option maxHeartbeats 8000000
set_option linter.unusedSimpArgs false
set_option linter.unusedVariables false
namespace Go.Proofs.YtncaoclhlfkdoaaGreat
open Go.RowKit
open List renaming getElem_toArray→zA,getElem_cons_zero→zB,getElem_cons_succ→zC,setIfInBounds_toArray→zD,set_cons_zero→zE,set_cons_succ→zF
theorem sameRuns_is {w:World} {vf vg:Value} {f g:List Run} {b:Bool} (h:decide (f=g)=b) (hf:RunsV w vf f) (hg:RunsV w vg g) :
  Calls Tryz.prog 28 #[vf,vg] w fun e w'=>e=.returned (.bool b)∧Ext w w':=by
 have:=SameRuns_any w vf vg f g hf hg;rw [h] at this;exact this
theorem least_nat {P:Nat→Prop} (h:∃ n,P n):∃ n,P n∧∀ m,m < n→¬ P m:=by
 obtain ⟨n,hn⟩:=h
 induction n using Nat.strongRecOn with
 | ind n ih =>
  by_cases h:∃ m,m < n∧P m
  ·obtain ⟨m,hm,hp⟩:=h
   exact ih m hm hp
  ·exact ⟨n,hn,fun m hm hp=>h ⟨m,hm,hp⟩⟩
theorem over_some {l:List Queue} {b:List Book} {f:Nat} (h:¬ FitsT l b f):∃ t q,OverIs l b f t q:=by
 have h1:∃ t,f≤t∧t < 48∧∃ q,q < l.length∧leftT l b q t < 0:=by
  apply Classical.byContradiction
  intro hn
  refine h (fun s h1 h2 p hp=>?_)
  apply Classical.byContradiction
  intro h3
  exact hn ⟨s,h1,h2,p,hp,by omega⟩
 obtain ⟨t,⟨a1,a2,a3⟩,a4⟩:=least_nat h1
 obtain ⟨q,⟨b1,b2⟩,b3⟩:=least_nat a3
 refine ⟨t,q,a1,a2,b1,b2,fun s h1 h2 p hp=>?_,fun p hp=>?_⟩
 ·apply Classical.byContradiction
  intro h3
  exact a4 s h2 ⟨h1,by omega,p,hp,by omega⟩
 ·apply Classical.byContradiction
  intro h3
  exact b3 p hp ⟨by omega,by omega⟩
theorem too_yes {l:List Queue} {b:List Book} {f:Nat} (h:¬ FitsT l b f):(tooR l b f).2.2=true:=by
 obtain ⟨t,q,h⟩:=over_some h
 rw [tooR_is h]
theorem too_no {l:List Queue} {b:List Book} {f:Nat} (h:FitsT l b f):(tooR l b f).2.2=false:=by rw [tooR_no h]
theorem LoadOf_is {w:World} {v bv:Value} {l:List Queue} {b:List Book} {f:List (List Run)} {n:Int} (h:loadsR l b=(f,n)) (hl:QueuesV w v l) (hb:BooksV w bv b) :
  Calls Tryz.prog 30 #[v,bv] w fun e w'=>∃ u,e=.returned (.tuple #[u,.int .i64 n])∧LoadsV w' u f∧Ext w w':=by
 have:=LoadOf_go w v bv l b hl hb;rw [h] at this;exact this
theorem Fits_is {w:World} {v bv:Value} {l:List Queue} {b:List Book} {f:Int} {a:Bool} {n:Int} (h:fitsR l b f=(a,n)) (hl:QueuesV w v l) (hb:BooksV w bv b) :
  Calls Tryz.prog 26 #[v,bv,.int .i64 f] w fun e w'=>e=.returned (.tuple #[.bool a,.int .i64 n])∧Ext w w':=by
 have:=loadFits_any w v bv l b f hl hb;rw [h] at this;exact this
theorem upd_self (x:Nat→Int) (t:Nat):upd x t (x t)=x:=by
 funext s;unfold upd;split
 ·rename_i h;rw [h]
 ·rfl
theorem upd_upd (x:Nat→Int) (t:Nat) (a b:Int):upd (upd x t a) t b=upd x t b:=by
 funext s;unfold upd;split <;> simp_all
theorem minTo_step (g:Nat→Int) (ks:List Nat) (k:Nat) {i:Nat} (h:ks[k]?=some i):minTo g (ks.take (k+1))=if k=0 then g i else min (minTo g (ks.take k)) (g i):=by
 have hk:=(List.getElem?_eq_some_iff.1 h).1
 have e:ks.take (k+1)=ks.take k++[i]:=by rw [List.take_add_one,h];rfl
 rw [e]
 by_cases h0:k=0
 ·subst h0;rw [if_pos rfl];rfl
 ·rw [if_neg h0]
  exact minTo_snoc g i (fun e=>by
   have h2:(ks.take k).length=0:=by rw [e];rfl
   rw [List.length_take] at h2
   omega)
theorem LineOf_new (w:World) (v:Value) (l:List Queue) (q:Int) (hv:QueuesV w v l) (hp:ParsOk l) (h5:l.length≤5) (hq1:0≤q) (hq2:q < l.length) :
  Calls Tryz.prog 124 #[v,.int .i64 q] w fun e w'=>∃ v,e=.returned v∧IntsV w' v ((lineL l q).map fun k:Nat=>(k:Int))∧(∀ a n c,v=.slice (some a) n c→w.heap.size≤a.block)∧Ext w w':=by
 obtain ⟨ii,ii1,ii2,ii3,ii4⟩:=info_parts Tryz.info3
 obtain ⟨b,off,cap,rfl,hcap,hc9,hb,hE⟩:=queues_at hv (by omega)
 have HI:=hid (line_ints hp hq2 h5)
 have hl5:=lineL_five hp hq2 h5
 have Hp:=hid hp
 have HE:=hid hE
 clear hv hp hE
 generalize hn:l.length=n at *
 have Hn:=hid hn
 clear hn
 go_enter Tryz.func124,Tryz.ntmps124
 go_wp2_with fail
 go_loopw [1,5] (fun c v wr=>∃ (pre:List Nat) (x:Int),c=.int .i64 x∧-1≤x∧x < n∧Hid (pre++lineL l x=lineL l q)∧Hid (wr.ownsRow w.heap.size 3 1 v pre.length (nums pre))∧Ext w wr) (fun c _ _=>(intOf c+1).toNat)
 case atStart=>exact ⟨[],q,rfl,by omega,by omega,hid rfl,World.ownsRow_nil _ _ _ _,Ext.rf _⟩
 case round =>
  obtain ⟨pre,x,rfl,hx1,hx2,HL,Hown,hx⟩:=hrel
  have hlen:pre.length+(lineL l x).length=(lineL l q).length:=by rw [← HL.out,List.length_append]
  have hsz:=hx.size
  by_cases h:0≤x
  ·obtain ⟨k,rfl⟩:∃ k:Nat,x=k:=⟨x.toNat,by omega⟩
   have hkl:k < l.length:=by rw [Hn.out];omega
   obtain ⟨y,hyk⟩:=getQ (l:=l) (k:=k) hkl
   obtain ⟨_,e2,_⟩:=at_some hyk
   have hpk:=Hp.out k hkl
   rw [e2] at hpk
   obtain ⟨hpk1,hpk2⟩:=hpk
   have HS:=hid (show (pre++[k])++lineL l y.Parent=lineL l q from by rw [← HL.out,lineL_pos Hp.out hkl,e2];simp)
   have hcell:=(EQueue.mono w wr b _ y hx (HE.out k y hyk)).2.2.1
   have HC:=hid (EQueue.mono w wr b _ y hx (HE.out k y hyk)).2.2.1
   have hpl:pre.length+1≤5:=by
    have:1≤(lineL l (k:Int)).length:=by rw [lineL_pos Hp.out hkl];simp
    omega
   have hown:=Hown.out
   have hbw:b < wr.heap.size:=by omega
   have HX:=hid hyk
   clear e2 hyk HL hlen
   go_wp2_with (at_builtin;refine wpList_append_own _ rfl _ _ 27 rfl w.heap.size 3 ii _ 1 8 Tryz.underlying27 ii1 ii2 ii3 ii4 rfl (by decide) _ _ _ rfl (hown.alloc _) ⟨wr.heap.size,0,none⟩ 1 1 [.int .i64 (k:Int)] rfl rfl (new1 _ rfl _ _) (one1 _ _) (by unfold maxLen;omega) (by omega) (by simp;omega) ?_)
   intro v2 W2 hown2 hgrow2 hnil2
   have hx2':=(hx.al (.cells #[.int .i64 (k:Int)] 3)).gr hgrow2 (fun k hk=>own_lt hown k hk)
   have hcell2:=(EQueue.mono w W2 b _ y hx2' (HE.out k y HX.out)).2.2.1
   go_wp2_with fail
   go_roundw
   case rel=>exact ⟨pre++[k],y.Parent,rfl,hpk1,by omega,HS,hid (by rw [nums_snoc,List.length_append];exact hown2),hx2'⟩
   case measure=>simp [intOf];omega
  ·have HF:=hid (own_fresh Hown.out)
   have hL:=hid (show pre=lineL l q from by rw [← HL.out,lineL_neg (by omega),List.append_nil])
   clear HL
   go_wp2_with fail
   go_ret
   refine ⟨_,rfl,ints_of_owns (by rw [← hL.out];exact Hown.out) HI.out.1 HI.out.2,HF.out,hx⟩
theorem roomRef_any (w:World) (v bv:Value) (l:List Queue) (b:List Book) (q:Nat) (hq:q < l.length) (hl:QueuesV w v l) (hb:BooksV w bv b) (ok:TreeOk l) (hok:∀ x∈b,BookOk l x) (hb12:b.length≤12) :
  Calls Tryz.prog 61 #[v,bv,.int .i64 (q:Int)] w (RetTab w (roomT l b q)):=by
 have LO:=hid (fun (W:World) (h:Ext w W)=>LineOf_new W v l (q:Int) (hl.mono h) ok.pars ok.n5 (by omega) (by omega))
 have TK:=hid (fun (W:World) (h:Ext w W) (q t:Nat)=>taken_any W v bv l b q t (hl.mono h) (hb.mono h) ok.pars ok.n5 hok hb12)
 have SP:=hid (fun (W:World) (u:Value) (x:List Run) (hs:Shape x) (hu:RunsV W u x)=>spread_any W u x hu hs)
 have CS:=hid (fun k (hk:k < l.length)=>(ok.caps k hk).1.1)
 have LN:=hid (fun k t (hk:k < l.length)=>left_num ok hok hb12 k t hk)
 have LL:=hid (fun k t=>show leftT l b k t=sp (cp l k) t - takenT l b k t from rfl)
 have LT:=hid (fun k (hk:k∈lineL l (q:Int))=>(lineL_lt ok.pars l.length (q:Int) (by omega) (by omega) k hk).1)
 have RT:=hid (fun t=>show roomT l b q t=minTo (fun k=>leftT l b k t) (lineL l (q:Int)) from rfl)
 have LNE:=hid (show lineL l (q:Int)≠[] by rw [lineL_pos ok.pars hq];simp)
 have R0:=hid (fun t=>show minTo (fun k=>leftT l b k t) ((lineL l (q:Int)).take 0)=0 from rfl)
 obtain ⟨qb,qo,qc,rfl,_,_,hqb,hqE⟩:=queues_at hl ok.n1
 obtain ⟨ba,bc,rfl,hbc,hbc9,hbl⟩:=hb.form
 have HQE:=hid hqE
 have hL5:=lineL_five ok.pars (q:=(q:Int)) (by omega) ok.n5
 have hn1:=ok.n1
 have hn5:=ok.n5
 clear hl hb hok ok hqE
 generalize hR:roomT l b q=R at *
 clear hR
 generalize hG:leftT l b=G at *
 clear hG
 generalize hLi:lineL l (q:Int)=li at *
 clear hLi
 generalize hnn:l.length=n at *
 have Hn:=hid hnn
 clear hnn
 generalize b.length=z at *
 go_enter Tryz.func61,Tryz.ntmps61
 go_wp2_with fail
 rw [tab_zero]
 have HA0:=hid (show TabAt 104 ((w.alloc (.cells (tab fun _=>0) 104)).alloc (.cells (tab fun _=>0) 104)) w.heap.size (fun _=>0) from (TabAt.new w (fun _=>0)).ext ((Ext.rf _).al _))
 have HB0:=hid (show TabAt 104 ((w.alloc (.cells (tab fun _=>0) 104)).alloc (.cells (tab fun _=>0) 104)) (w.heap.size+1) (fun _=>0) by
  have:=TabAt.new (T:=104) (w.alloc (.cells (tab fun _=>0) 104)) (fun _=>0)
  simpa using this)
 refine (LO.out _ (((Ext.rf w).al _).al _)).mono ?_
 rintro e w1 ⟨lv,rfl,hlv,hlf,hx1⟩
 have HA1:=hid (HA0.out.ext hx1)
 have HB1:=hid (HB0.out.ext hx1)
 have X1:=hid (show Ext w w1 from (((Ext.rf w).al _).al _).tr hx1)
 clear hx1 HA0 HB0 LO
 obtain ⟨lb,lo,lc,rfl,_,hlb,hlE⟩:∃ b off cap,lv=.slice (some ⟨b,off,none⟩) li.length cap∧li.length≤cap∧b < w1.heap.size∧∀ k (i:Nat),li[k]?=some i→w1.cell? ⟨b,off+k,none⟩=some (.int .i64 (i:Int)):=by
  rcases hlv with ⟨he,_⟩ | ⟨b,off,cap,rfl,h1,h2,h3,h4,hE⟩
  ·have:li=[]:=by simpa using he
   exact absurd this LNE.out
  ·rw [List.length_map] at h1 ⊢
   refine ⟨b,off,cap,rfl,h1,h4,fun k i hk=>?_⟩
   have:=(hE k (i:Int) (by rw [List.getElem?_map,hk];rfl)).1
   rwa [Nat.mul_one] at this
 have hlb2:w.heap.size+1+1≤lb:=by have:=hlf _ _ _ rfl;simpa using this
 have HLE:=hid hlE
 clear hlv hlE hlf
 generalize hmm:li.length=m at *
 have Hm:=hid hmm
 clear hmm
 go_wp2_with fail
 go_loopw [9] (fun c wr=>∃ t:Nat,c=.int .i64 t∧t≤48∧Hid (TabAt 104 wr (w.heap.size+1) (mixT R (fun _=>0) t))∧Hid (TabAt 104 wr w.heap.size (fun _=>0))∧Hid (∀ k (i:Nat),li[k]?=some i→wr.cell? ⟨lb,lo+k,none⟩=some (.int .i64 (i:Int)))∧Ext w wr) (fun c _=>48 - (intOf c).toNat)
 case atStart=>exact ⟨0,rfl,by omega,by rw [mixT_zero];exact HB1,HA1,HLE,X1.out⟩
 case round =>
  obtain ⟨t,rfl,ht,HT,HO,HC,hx⟩:=hrel
  by_cases htl:t < 48
  ·have htl':(t:Int) < 48:=by omega
   have HX:=hid hx
   clear hx
   generalize wr=w0 at *
   go_wp2_with fail
   go_loopw [10] (fun c wr=>∃ k:Nat,c=.int .i64 k∧k≤m∧Hid (TabAt 104 wr (w.heap.size+1) (upd (mixT R (fun _=>0) t) t (minTo (fun j=>G j t) (li.take k))))∧Hid (TabAt 104 wr w.heap.size (fun _=>0))∧Hid (∀ k (i:Nat),li[k]?=some i→wr.cell? ⟨lb,lo+k,none⟩=some (.int .i64 (i:Int)))∧Ext w wr) (fun c _=>m - (intOf c).toNat)
   case atStart=>exact ⟨0,rfl,by omega,hid (by
    rw [R0.out t]
    have e:=upd_self (mixT R (fun _=>0) t) t
    rw [mixT_at] at e
    rw [e]
    exact HT.out),HO,HC,HX.out⟩
   case round =>
    clear HT HO HC HX
    obtain ⟨k,rfl,hk,HT,HO,HC,hx⟩:=hrel
    by_cases hlt:k < m
    ·have hlt':(k:Int) < (m:Int):=by omega
     obtain ⟨j,hjk⟩:=getA (f:=li) (k:=k) (by rw [Hm.out];exact hlt)
     have c0:=HC.out k j hjk
     have hjn:=LT.out j (List.mem_of_getElem? hjk)
     obtain ⟨x,hxk⟩:=getA (f:=l) (k:=j) (by rw [Hn.out];exact hjn)
     obtain ⟨_,_,_,_,u,c1,hu⟩:=EQueue.mono w wr qb _ x hx (HQE.out j x hxk)
     have ecp:=(at_some hxk).2.2
     have hsh:=CS.out j hjn
     rw [ecp] at hsh
     have hll:=LL.out j t
     rw [ecp] at hll
     have hln:=LN.out j t hjn
     have hms:=minTo_step (fun j=>G j t) li k hjk
     have HMS:=hid hms
     have TL:=hid (fun p:Later wr=>later_of p (TK.out p.v (hx.tr p.h) j t))
     have SL:=hid (fun p:Later wr=>later_of p (SP.out p.v u x.Cap hsh (hu.mono p.h)))
     obtain ⟨ua,uc,rfl,_,_,_⟩:=hu.form
     have hg:=fun w=>run_index_tab (sp x.Cap) t htl w
     have t1:=deF (show ¬ (j:Int) < 0 by omega)
     have t2:=deF (show ¬ (n:Int)≤(j:Int) by omega)
     have t3:=deF (show ¬ n≤j by omega)
     have hw:IntKind.i64.wrap (sp x.Cap t - takenT l b j t)=G j t:=by rw [IntKind.wrap_i64,hll] <;> omega
     have HXX:=hid hx
     clear hu hxk hsh ecp hjk hms hll hln hx
     generalize hgj:G j t=gj at *
     clear hgj
     generalize sp x.Cap=sc at *
     generalize x.Cap.length=xn at *
     generalize takenT l b j t=tk at *
     replace c0:=fun p:Later wr=>p.cell c0
     replace c1:=fun p:Later wr=>p.cell c1
     go_wp2_with fail
     refine region_later (by kernel_rfl) (by kernel_rfl) ?_
     repeat (go_big_quiet_step (first | with_reducible exact TL.out _ | with_reducible exact SL.out _))
     refine wpQuiet_nil ?_
     rintro w' ⟨p,rfl⟩
     have H2:=hid (HXX.out.tr p.h)
     have HC2:=hid (fun k i hk=>p.h.ce' (HC.out k i hk))
     have HT2:=hid (HT.out.ext p.h)
     have HO2:=hid (HO.out.ext p.h)
     clear TL SL c1 c0 hg HXX HT HO HC
     generalize p.v=W at *
     have hcl:=HT2.out.cell htl
     rw [upd_same] at hcl
     have hfr:=HT2.out.free t
     have hlb2:=HT2.out.lt
     by_cases hk0:k=0
     ·have hz0:=eqT (a:=(k:Int)) (b:=0) (by omega)
      have hS:=HT2.out.set htl gj
      rw [upd_upd] at hS
      have hm:=HMS.out
      rw [if_pos hk0] at hm
      have HN:=hid (show TabAt 104 (W.setCell ⟨w.heap.size+1,t,none⟩ (.int .i64 gj)) (w.heap.size+1) (upd (mixT R (fun _=>0) t) t (minTo (fun j=>G j t) (li.take (k+1)))) by rw [hm];exact hS)
      clear hS hm hk0
      go_wp2_with fail
      go_roundw
      case rel=>exact ⟨k+1,by go_num,by omega,HN,hid (HO2.out.other (by omega) _),hid (fun k i hk=>(grown_set W (w.heap.size+1) t _).cell (HC2.out k i hk) (fun e=>by have e2:lb=w.heap.size+1:=Option.some.inj e;omega)),H2.out.se (by omega) _⟩
      case measure=>simp [intOf];omega
     ·have hz0:=eqF (a:=(k:Int)) (b:=0) (by omega)
      have hm:=HMS.out
      rw [if_neg hk0] at hm
      generalize hcu:minTo (fun j=>G j t) (li.take k)=cu at *
      by_cases hlt2:gj < cu
      ·have hS:=HT2.out.set htl gj
       rw [upd_upd] at hS
       have HN:=hid (show TabAt 104 (W.setCell ⟨w.heap.size+1,t,none⟩ (.int .i64 gj)) (w.heap.size+1) (upd (mixT R (fun _=>0) t) t (minTo (fun j=>G j t) (li.take (k+1)))) by rw [hm,show min cu gj=gj by omega];exact hS)
       clear hS hm hcu HMS
       go_wp2_with fail
       go_roundw
       case rel=>exact ⟨k+1,by go_num,by omega,HN,hid (HO2.out.other (by omega) _),hid (fun k i hk=>(grown_set W (w.heap.size+1) t _).cell (HC2.out k i hk) (fun e=>by have e2:lb=w.heap.size+1:=Option.some.inj e;omega)),H2.out.se (by omega) _⟩
       case measure=>simp [intOf];omega
      ·have HN:=hid (show TabAt 104 W (w.heap.size+1) (upd (mixT R (fun _=>0) t) t (minTo (fun j=>G j t) (li.take (k+1)))) by rw [hm,show min cu gj=cu by omega];exact HT2.out)
       clear hm hcu HMS
       go_wp2_with fail
       go_roundw
       case rel=>exact ⟨k+1,by go_num,by omega,HN,HO2,HC2,H2.out⟩
       case measure=>simp [intOf];omega
    ·obtain rfl:k=m:=by omega
     have hlt':¬ (k:Int) < (k:Int):=by omega
     have HN:=hid (show TabAt 104 wr (w.heap.size+1) (mixT R (fun _=>0) (t+1)) by
      have h:=HT.out
      rw [List.take_of_length_le (by rw [Hm.out];exact Nat.le_refl _),← RT.out t,mixT_step] at h
      exact h)
     go_wp2_with fail
     go_roundw
     case rel=>exact ⟨t+1,by go_num,by omega,HN,HO,HC,hx⟩
     case measure=>simp [intOf];omega
  ·obtain rfl:t=48:=by omega
   have htl':¬ (48:Int) < 48:=by omega
   have hT:TabAt 104 wr (w.heap.size+1) R:=HT.out.congr (mixT_all _ _)
   go_wp2_with (first
    | (refine wpList_load_row rfl 104 _ rfl (w.heap.size+1) rfl 104 (tab R) (0,0) _ hT Tryz.underlying104 rfl (by rw [tab_size];exact Tryz.size104) ?_)
    | (refine wpList_store_row rfl 104 _ _ rfl w.heap.size (tab R) rfl rfl 104 (tab fun _=>0) HO.out (by rw [tab_size];exact Tryz.size104) (by rw [tab_size,tab_size]) (tab_one _) ?_))
   refine bodyPost_ret (v:=.agg (tab R)) (results_cell_row rfl _ _ w.heap.size 104 (tab R) (0,0) _ rfl (HO.out.row _) Tryz.underlying104 rfl (by rw [tab_size];exact Tryz.size104)) rfl ⟨rfl,hx.sr (Nat.le_refl _) _⟩
theorem sameRuns_yes {w:World} {vf vg:Value} {f:List Run} (hf:RunsV w vf f) (hg:RunsV w vg f) :
  Calls Tryz.prog 28 #[vf,vg] w fun e w'=>e=.returned (.bool true)∧Ext w w':=by
 have:=SameRuns_any w vf vg f f hf hg;rw [deT rfl] at this;exact this
theorem firstE_all {l:List Queue}:∀ {b:List Book},firstE l b=0↔∀ x∈b,reqE l x.Req=0∧meetsR x.Req x.Bites=true
 | []=>by simp [firstE]
 | y::b=>by
  by_cases h1:reqE l y.Req=0
  ·by_cases h2:meetsR y.Req y.Bites=true
   ·rw [firstE_ok h1 h2,firstE_all]
    constructor
    ·intro h x hx
     rcases List.mem_cons.1 hx with rfl | hx
     ·exact ⟨h1,h2⟩
     ·exact h x hx
    ·exact fun h x hx=>h x (List.mem_cons_of_mem _ hx)
   ·constructor
    ·intro h;rw [firstE_form h1 (by simpa using h2)] at h;omega
    ·intro h;exact absurd (h y (List.mem_cons_self ..)).2 h2
  ·constructor
   ·intro h;rw [firstE_bad h1] at h;exact absurd h h1
   ·intro h;exact absurd (h y (List.mem_cons_self ..)).1 h1
open Go.RowKit Go.ChangeShapes Go.WideShapes Go.Deep
section
variable {H:Type} {P:Program} {enc:TypeId × Value→H} {W:World} {base:Nat} {spare:Nat→Bool} {held:Bool}
def Opens {α:Type} (P:Program) (enc:TypeId × Value→H) (W:World) (base:Nat) (spare:Nat→Bool) (held:Bool) (e:TypeId) (sz:Nat) (E:World→Nat→Nat→α→Prop):Prop :=
 ∀ (fuel:Nat) (cs:List Value) (x:DataW H × List MemPlace),DataW.trod enc P W base spare held fuel e cs=some x→(∀ n∈x.1.weights P e,n≤reachBytes) →
  ∀ b o,(∀ j,j < sz→W.cell? ⟨b,o+j,none⟩=cs[j]?)→∃ y:α,E W b o y
theorem addr_add (b o j:Nat):(⟨b,o,none⟩:Addr).add j=⟨b,o+j,none⟩:=by
 unfold Addr.add
 split <;> simp_all
theorem weightsAll_mem {e:TypeId}:∀ {l:List (DataW H)} {d:DataW H},d∈l→∀ n∈d.weights P e,n∈DataW.weightsAll P e l
 | a::l,d,hd,n,hn=>by
  simp only [DataW.weightsAll,List.mem_append]
  rcases List.mem_cons.1 hd with rfl | hd
  ·exact .inl hn
  ·exact .inr (weightsAll_mem hd n hn)
theorem open_sv {α:Type} [Inhabited α] {t e:TypeId} {sz:Nat} {E:World→Nat→Nat→α→Prop} (ht:P.underlying t=some (.slice e)) (hc:P.cellsOf e=sz) (hsz:0 < sz) (hby:8≤P.bytesOf e)
  (hE:Opens P enc W base spare held e sz E) {fuel:Nat} {v:Value} {x:DataW H × List MemPlace} (h:DataW.trod enc P W base spare held fuel t [v]=some x) (hw:∀ n∈x.1.weights P t,n≤reachBytes) :
  ∃ xs,SV sz E W v xs:=by
 rcases open_slice ht h with ⟨hv,_⟩ | ⟨a,len,cap,m,n,D,Pl,hv,hb,hl,hm,hmm,rfl,hx⟩
 ·obtain rfl:v=.slice none 0 0:=by simpa using hv
  exact ⟨[],SV.nil⟩
 ·obtain rfl:v=.slice (some a) len cap:=by simpa using hv
  by_cases h0:len=0
  ·subst h0
   exact ⟨[],.inl ⟨rfl,some a,cap,rfl,by unfold maxLen at hm;omega⟩⟩
  ·have hlm:len≤m:=by rw [hmm];split <;> omega
   have hbig:len*8≤reachBytes:=by
    have h1:=hw ((len+(m - len))*P.bytesOf e) (by simp [DataW.weights,ht])
    have h2:len*8≤(len+(m - len))*P.bytesOf e:=Nat.mul_le_mul (by omega) hby
    omega
   have cells:∀ i,i < m→∃ cs',DataW.trod enc P W base spare held n e cs'=some (D i,Pl i)∧∀ j,j < sz→W.cell? ((a.add (i*sz)).add j)=cs'[j]?∧cs'.length=sz:=by
    intro i hi
    obtain ⟨cs',h1,h2⟩:=hx i hi
    rw [hc] at h1
    obtain ⟨_,h3,h4⟩:=World.cells?_some h1
    exact ⟨cs',h2,fun j hj=>⟨h4 j hj,h3⟩⟩
   obtain ⟨cs0,_,h1⟩:=cells 0 (by omega)
   obtain ⟨h2,h3⟩:=h1 0 hsz
   have h4:W.cell? ((a.add (0*sz)).add 0)=some (cs0[0]'(by omega)):=by rw [h2,List.getElem?_eq_getElem]
   have hspot:=World.cell?_spot h4
   have hblk:=World.block_lt_of_cell? W _ h4
   obtain ⟨b,off,spot⟩:=a
   obtain rfl:spot=none:=by simpa [Addr.add] using hspot
   have hb2:b < W.heap.size:=by simpa [Addr.add] using hblk
   have each:∀ i,i < len→∃ y:α,E W b (off+i*sz) y:=by
    intro i hi
    obtain ⟨cs',h5,h6⟩:=cells i (by omega)
    refine hE n cs' _ h5 (fun k hk=>hw k ?_) b _ (fun j hj=>by have:=(h6 j hj).1;rw [addr_add,addr_add] at this;exact this)
    simp only [DataW.weights,ht,List.mem_cons,List.mem_append]
    exact .inr (.inl (weightsAll_mem (List.mem_map.2 ⟨i,List.mem_range.2 hi,rfl⟩) k hk))
   obtain ⟨f,hf⟩:=choose_lt (α:=α) (p:=fun i y=>E W b (off+i*sz) y) each
   refine ⟨(List.range len).map f,.inr ⟨b,off,cap,by simp,by simpa using hl,by unfold maxLen at hm;omega,by simp;unfold reachBytes at hbig;omega,hb2,fun k y hk=>?_⟩⟩
   rw [List.getElem?_map] at hk
   by_cases hkl:k < len
   ·rw [List.getElem?_range hkl] at hk
    simp at hk
    subst hk
    exact hf k hkl
   ·rw [List.getElem?_eq_none (by simpa using hkl)] at hk
    cases hk
end
theorem cells70_is:Tryz.prog.cellsOf 70=2:=by kernel_rfl
theorem bytes70_is:8≤Tryz.prog.bytesOf 70:=of_decide_eq_true (by kernel_rfl)
theorem cells3_is:Tryz.prog.cellsOf 3=1:=by kernel_rfl
section
variable {H:Type} {enc:TypeId × Value→H} {W:World} {base:Nat} {spare:Nat→Bool} {held:Bool}
theorem opens_run:Opens Tryz.prog enc W base spare held 70 2 ERun:=by
 intro fuel cs x h hw b o hcell
 obtain ⟨y0,y1,n,rfl,hl,h0,h1⟩:=trod_struct2 Tryz.underlying70 h
 rw [cells70_is] at hl
 match cs,hl with
 | [c0,c1],_ =>
  simp only [cells3_is,List.drop_zero,List.drop_succ_cons,List.take_succ_cons,List.take_zero] at h0 h1
  obtain ⟨n0,e0,_,w0⟩:=DataW.trod_int Tryz.underlying3 h0
  obtain ⟨n1,e1,_,w1⟩:=DataW.trod_int Tryz.underlying3 h1
  simp only [List.cons.injEq,and_true] at e0 e1
  subst e0 e1
  exact ⟨⟨n0,n1⟩,hcell 0 (by omega),hcell 1 (by omega),I64.of_wf w0,I64.of_wf w1⟩
theorem open_runs {fuel:Nat} {v:Value} {x:DataW H × List MemPlace} (h:DataW.trod enc Tryz.prog W base spare held fuel 26 [v]=some x) (hw:∀ n∈x.1.weights Tryz.prog 26,n≤reachBytes):∃ xs,RunsV W v xs :=
 open_sv Tryz.underlying26 cells70_is (by omega) bytes70_is opens_run h hw
end
open Go.RowKit Go.ChangeShapes Go.WideShapes Go.Deep
theorem cells52_is:Tryz.prog.cellsOf 52=3:=by kernel_rfl
theorem bytes52_is:8≤Tryz.prog.bytesOf 52:=of_decide_eq_true (by kernel_rfl)
theorem cells9_is:Tryz.prog.cellsOf 9=1:=by kernel_rfl
theorem cells26_is:Tryz.prog.cellsOf 26=1:=by kernel_rfl
section
variable {H:Type} {enc:TypeId × Value→H} {W:World} {base:Nat} {spare:Nat→Bool} {held:Bool}
theorem opens_queue:Opens Tryz.prog enc W base spare held 52 3 EQueue:=by
 intro fuel cs x h hw b o hcell
 obtain ⟨y0,y1,y2,n,rfl,hl,h0,h1,h2⟩:=trod_struct3 Tryz.underlying52 h
 rw [cells52_is] at hl
 match cs,hl with
 | [c0,c1,c2],_ =>
  simp only [cells3_is,cells9_is,cells26_is,List.drop_zero,List.drop_succ_cons,List.take_succ_cons,List.take_zero] at h0 h1 h2
  obtain ⟨s,e0,_,w0⟩:=DataW.trod_string Tryz.underlying9 h0
  obtain ⟨n1,e1,_,w1⟩:=DataW.trod_int Tryz.underlying3 h1
  simp only [List.cons.injEq,and_true] at e0 e1
  subst e0 e1
  obtain ⟨xs,hxs⟩:=open_runs h2 (fun k hk=>hw k (by
   simp only [DataW.weights,Tryz.underlying52,List.map_cons,List.map_nil,DataW.weightsEach,List.mem_append]
   exact .inr (.inr (.inl hk))))
  exact ⟨⟨s,n1,xs⟩,hcell 0 (by omega),w0,hcell 1 (by omega),I64.of_wf w1,_,hcell 2 (by omega),hxs⟩
theorem open_queues {fuel:Nat} {v:Value} {x:DataW H × List MemPlace} (h:DataW.trod enc Tryz.prog W base spare held fuel 22 [v]=some x) (hw:∀ n∈x.1.weights Tryz.prog 22,n≤reachBytes):∃ xs,QueuesV W v xs :=
 open_sv Tryz.underlying22 cells52_is (by omega) bytes52_is opens_queue h hw
end
open Go.RowKit Go.ChangeShapes Go.WideShapes Go.Deep
theorem cells68_is:Tryz.prog.cellsOf 68=2:=by kernel_rfl
theorem bytes68_is:8≤Tryz.prog.bytesOf 68:=of_decide_eq_true (by kernel_rfl)
theorem cells49_is:Tryz.prog.cellsOf 49=2:=by kernel_rfl
theorem bytes49_is:8≤Tryz.prog.bytesOf 49:=of_decide_eq_true (by kernel_rfl)
theorem cells40_is:Tryz.prog.cellsOf 40=5:=by kernel_rfl
theorem cells38_is:Tryz.prog.cellsOf 38=1:=by kernel_rfl
section
variable {H:Type} {P:Program} {enc:TypeId × Value→H} {w:World} {base:Nat} {spare:Nat→Bool} {held:Bool}
theorem trod_struct5 {t:TypeId} {f0 f1 f2 f3 f4:Field} {fuel:Nat} {cs:List Value} {x:DataW H × List MemPlace} (ht:P.underlying t=some (.struct #[f0,f1,f2,f3,f4])) (h:DataW.trod enc P w base spare held fuel t cs=some x) :
  ∃ y0 y1 y2 y3 y4 n,x=(.agg [y0.1,y1.1,y2.1,y3.1,y4.1],y0.2++(y1.2++(y2.2++(y3.2++y4.2))))∧cs.length=P.cellsOf t∧DataW.trod enc P w base spare held n f0.type ((cs.drop f0.offset).take (P.cellsOf f0.type))=some y0 ∧
   DataW.trod enc P w base spare held n f1.type ((cs.drop f1.offset).take (P.cellsOf f1.type))=some y1∧DataW.trod enc P w base spare held n f2.type ((cs.drop f2.offset).take (P.cellsOf f2.type))=some y2 ∧
   DataW.trod enc P w base spare held n f3.type ((cs.drop f3.offset).take (P.cellsOf f3.type))=some y3∧DataW.trod enc P w base spare held n f4.type ((cs.drop f4.offset).take (P.cellsOf f4.type))=some y4:=by
 obtain ⟨xs,n,_,rfl,hl,hlen,hf⟩:=DataW.trod_struct ht h
 match xs,hlen with
 | [y0,y1,y2,y3,y4],_=>exact ⟨y0,y1,y2,y3,y4,n,by simp,hl,by simpa using hf 0 f0 rfl,by simpa using hf 1 f1 rfl,by simpa using hf 2 f2 rfl,by simpa using hf 3 f3 rfl,by simpa using hf 4 f4 rfl⟩
end
section
variable {H:Type} {enc:TypeId × Value→H} {W:World} {base:Nat} {spare:Nat→Bool} {held:Bool}
theorem opens_piece:Opens Tryz.prog enc W base spare held 68 2 EPiece:=by
 intro fuel cs x h hw b o hcell
 obtain ⟨y0,y1,n,rfl,hl,h0,h1⟩:=trod_struct2 Tryz.underlying68 h
 rw [cells68_is] at hl
 match cs,hl with
 | [c0,c1],_ =>
  simp only [cells3_is,List.drop_zero,List.drop_succ_cons,List.take_succ_cons,List.take_zero] at h0 h1
  obtain ⟨n0,e0,_,w0⟩:=DataW.trod_int Tryz.underlying3 h0
  obtain ⟨n1,e1,_,w1⟩:=DataW.trod_int Tryz.underlying3 h1
  simp only [List.cons.injEq,and_true] at e0 e1
  subst e0 e1
  exact ⟨⟨n0,n1⟩,hcell 0 (by omega),hcell 1 (by omega),I64.of_wf w0,I64.of_wf w1⟩
theorem opens_bite:Opens Tryz.prog enc W base spare held 49 2 EBite:=by
 intro fuel cs x h hw b o hcell
 obtain ⟨y0,y1,n,rfl,hl,h0,h1⟩:=trod_struct2 Tryz.underlying49 h
 rw [cells49_is] at hl
 match cs,hl with
 | [c0,c1],_ =>
  simp only [cells3_is,List.drop_zero,List.drop_succ_cons,List.take_succ_cons,List.take_zero] at h0 h1
  obtain ⟨n0,e0,_,w0⟩:=DataW.trod_int Tryz.underlying3 h0
  obtain ⟨n1,e1,_,w1⟩:=DataW.trod_int Tryz.underlying3 h1
  simp only [List.cons.injEq,and_true] at e0 e1
  subst e0 e1
  exact ⟨⟨n0,n1⟩,hcell 0 (by omega),hcell 1 (by omega),I64.of_wf w0,I64.of_wf w1⟩
theorem open_pieces {fuel:Nat} {v:Value} {x:DataW H × List MemPlace} (h:DataW.trod enc Tryz.prog W base spare held fuel 38 [v]=some x) (hw:∀ n∈x.1.weights Tryz.prog 38,n≤reachBytes):∃ xs,PiecesV W v xs :=
 open_sv Tryz.underlying38 cells68_is (by omega) bytes68_is opens_piece h hw
theorem open_bites {fuel:Nat} {v:Value} {x:DataW H × List MemPlace} (h:DataW.trod enc Tryz.prog W base spare held fuel 41 [v]=some x) (hw:∀ n∈x.1.weights Tryz.prog 41,n≤reachBytes):∃ xs,BitesV W v xs :=
 open_sv Tryz.underlying41 cells49_is (by omega) bytes49_is opens_bite h hw
theorem open_reqC {fuel:Nat} {cs:List Value} {x:DataW H × List MemPlace} (h:DataW.trod enc Tryz.prog W base spare held fuel 40 cs=some x) (hw:∀ n∈x.1.weights Tryz.prog 40,n≤reachBytes):∃ r,ReqC W cs r:=by
 obtain ⟨y0,y1,y2,y3,y4,n,rfl,hl,h0,h1,h2,h3,h4⟩:=trod_struct5 Tryz.underlying40 h
 rw [cells40_is] at hl
 match cs,hl with
 | [c0,c1,c2,c3,c4],_ =>
  simp only [cells3_is,cells38_is,List.drop_zero,List.drop_succ_cons,List.take_succ_cons,List.take_zero] at h0 h1 h2 h3 h4
  obtain ⟨n0,e0,_,w0⟩:=DataW.trod_int Tryz.underlying3 h0
  obtain ⟨n1,e1,_,w1⟩:=DataW.trod_int Tryz.underlying3 h1
  obtain ⟨n2,e2,_,w2⟩:=DataW.trod_int Tryz.underlying3 h2
  obtain ⟨n3,e3,_,w3⟩:=DataW.trod_int Tryz.underlying3 h3
  simp only [List.cons.injEq,and_true] at e0 e1 e2 e3
  subst e0 e1 e2 e3
  obtain ⟨xs,hxs⟩:=open_pieces h4 (fun k hk=>hw k (by
   simp only [DataW.weights,Tryz.underlying40,List.map_cons,List.map_nil,DataW.weightsEach,List.mem_append]
   exact .inr (.inr (.inr (.inr (.inl hk))))))
  exact ⟨⟨n0,n1,n2,n3,xs⟩,_,rfl,hxs,I64.of_wf w0,I64.of_wf w1,I64.of_wf w2,I64.of_wf w3⟩
end
open Go.RowKit Go.ChangeShapes Go.WideShapes Go.Deep
theorem cells43_is:Tryz.prog.cellsOf 43=7:=by kernel_rfl
theorem bytes43_is:8≤Tryz.prog.bytesOf 43:=of_decide_eq_true (by kernel_rfl)
theorem cells41_is:Tryz.prog.cellsOf 41=1:=by kernel_rfl
section
variable {H:Type} {enc:TypeId × Value→H} {W:World} {base:Nat} {spare:Nat→Bool} {held:Bool}
theorem opens_book:Opens Tryz.prog enc W base spare held 43 7 EBook:=by
 intro fuel cs x h hw b o hcell
 obtain ⟨y0,y1,y2,n,rfl,hl,h0,h1,h2⟩:=trod_struct3 Tryz.underlying43 h
 rw [cells43_is] at hl
 match cs,hl with
 | [c0,c1,c2,c3,c4,c5,c6],_ =>
  simp only [cells3_is,cells40_is,cells41_is,List.drop_zero,List.drop_succ_cons,List.take_succ_cons,List.take_zero] at h0 h1 h2
  obtain ⟨n0,e0,_,w0⟩:=DataW.trod_int Tryz.underlying3 h0
  simp only [List.cons.injEq,and_true] at e0
  subst e0
  obtain ⟨r,hr⟩:=open_reqC h1 (fun k hk=>hw k (by
   simp only [DataW.weights,Tryz.underlying43,List.map_cons,List.map_nil,DataW.weightsEach,List.mem_append]
   exact .inr (.inl hk)))
  obtain ⟨xs,hxs⟩:=open_bites h2 (fun k hk=>hw k (by
   simp only [DataW.weights,Tryz.underlying43,List.map_cons,List.map_nil,DataW.weightsEach,List.mem_append]
   exact .inr (.inr (.inl hk))))
  refine ⟨⟨n0,r,xs⟩,_,⟨_,c6,rfl,hr,hxs,I64.of_wf w0⟩,fun j u hj=>?_⟩
  have hlt:j < 7:=by have:=(List.getElem?_eq_some_iff.1 hj).1;simpa using this
  rw [hcell j hlt]
  exact hj
theorem open_books {fuel:Nat} {v:Value} {x:DataW H × List MemPlace} (h:DataW.trod enc Tryz.prog W base spare held fuel 23 [v]=some x) (hw:∀ n∈x.1.weights Tryz.prog 23,n≤reachBytes):∃ xs,BooksV W v xs :=
 open_sv Tryz.underlying23 cells43_is (by omega) bytes43_is opens_book h hw
end
end Go.Proofs.YtncaoclhlfkdoaaGreat
