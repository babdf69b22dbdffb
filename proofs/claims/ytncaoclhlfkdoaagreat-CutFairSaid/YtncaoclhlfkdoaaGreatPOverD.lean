/- what is over -/
import Derived.Test.YtncaoclhlfkdoaaGreatPLoadR
import Derived.Test.YtncaoclhlfkdoaaGreatPRoomP
import Derived.Test.YtncaoclhlfkdoaaGreatPRunsX
import Derived.Test.YtncaoclhlfkdoaaGreatPLoadB
/- The soonest time at which too much is taken: over, FitsOf, load.Too, load.Fits. -/
/- The soonest time at which too much is taken; walk of the reference's over and FitsOf. -/
set_option linter.unusedVariables false
set_option maxRecDepth 100000
set_option maxHeartbeats 8000000
set_option linter.unusedSimpArgs false
set_option linter.unusedVariables false
namespace Go.Proofs.YtncaoclhlfkdoaaGreat
open Go.RowKit
open List renaming getElem_toArray→zA,getElem_cons_zero→zB,getElem_cons_succ→zC,setIfInBounds_toArray→zD,set_cons_zero→zE,set_cons_succ→zF
def OverIs (l:List Queue) (b:List Book) (f t q:Nat):Prop :=
 f≤t∧t < 48∧q < l.length∧leftT l b q t < 0∧(∀ s,f≤s→s < t→∀ p,p < l.length→0≤leftT l b p s)∧∀ p,p < q→0≤leftT l b p t
def FitsT (l:List Queue) (b:List Book) (f:Nat):Prop:=∀ s,f≤s→s < 48→∀ p,p < l.length→0≤leftT l b p s
theorem OverIs.uniq {l:List Queue} {b:List Book} {f t q t' q':Nat} (h:OverIs l b f t q) (h':OverIs l b f t' q'):t=t'∧q=q':=by
 obtain ⟨a1,a2,a3,a4,a5,a6⟩:=h
 obtain ⟨b1,b2,b3,b4,b5,b6⟩:=h'
 have e:t=t':=by
  rcases Nat.lt_trichotomy t t' with h | h | h
  ·have:=b5 t a1 h q a3;omega
  ·exact h
  ·have:=a5 t' b1 h q' b3;omega
 subst e
 refine ⟨rfl,?_⟩
 rcases Nat.lt_trichotomy q q' with h | h | h
 ·have:=b6 q h;omega
 ·exact h
 ·have:=a6 q' h;omega
theorem FitsT.not {l:List Queue} {b:List Book} {f t q:Nat} (h:FitsT l b f) (h':OverIs l b f t q):False:=by
 obtain ⟨b1,b2,b3,b4,b5,b6⟩:=h'
 have:=h t b1 b2 q b3
 omega
@[irreducible] noncomputable def tooR (l:List Queue) (b:List Book) (f:Nat):Int × Int × Bool:=open Classical in
 if h:∃ p:Nat × Nat,OverIs l b f p.1 p.2 then ((h.choose.1:Int),(h.choose.2:Int),true) else (0,0,false)
theorem tooR_is {l:List Queue} {b:List Book} {f t q:Nat} (h:OverIs l b f t q):tooR l b f=((t:Int),(q:Int),true):=by
 have hx:∃ p:Nat × Nat,OverIs l b f p.1 p.2:=⟨(t,q),h⟩
 unfold tooR
 rw [dif_pos hx]
 obtain ⟨e1,e2⟩:=hx.choose_spec.uniq h
 rw [e1,e2]
theorem tooR_no {l:List Queue} {b:List Book} {f:Nat} (h:FitsT l b f):tooR l b f=(0,0,false):=by
 unfold tooR
 rw [dif_neg (fun ⟨p,hp⟩=>h.not hp)]
theorem left_pos {l:List Queue} {b:List Book} {k t:Nat}:(sp (cp l k) t < takenT l b k t)↔leftT l b k t < 0:=by unfold leftT;omega
def RetToo (w:World) (r:Int × Int × Bool) (e:Ending) (w':World):Prop:=e=.returned (.tuple #[.int .i64 r.1,.int .i64 r.2.1,.bool r.2.2])∧Ext w w'
theorem retToo_of {w w':World} {r:Int × Int × Bool} {a b:Int} {c:Bool} (h:r=(a,b,c)) (hx:Ext w w'):RetToo w r (.returned (.tuple #[.int .i64 a,.int .i64 b,.bool c])) w':=by subst h;exact ⟨rfl,hx⟩
theorem tooRef_any (w:World) (v bv:Value) (l:List Queue) (b:List Book) (f:Nat) (hf:f≤48) (hl:QueuesV w v l) (hb:BooksV w bv b) (ok:TreeOk l) (hok:∀ x∈b,BookOk l x) (hb12:b.length≤12) :
  Calls Tryz.prog 56 #[v,bv,.int .i64 (f:Int)] w (RetToo w (tooR l b f)):=by
 have TK:=hid (fun (W:World) (h:Ext w W) (q t:Nat)=>taken_any W v bv l b q t (hl.mono h) (hb.mono h) ok.pars ok.n5 hok hb12)
 have SP:=hid (fun (W:World) (u:Value) (x:List Run) (hs:Shape x) (hu:RunsV W u x)=>spread_any W u x hu hs)
 have CS:=hid (fun k (hk:k < l.length)=>(ok.caps k hk).1.1)
 obtain ⟨qb,qo,qc,rfl,_,_,hqb,hqE⟩:=queues_at hl ok.n1
 obtain ⟨ba,bc,rfl,hbc,hbc9,hbl⟩:=hb.form
 have HQE:=hid hqE
 have YES:=hid (fun t q (h:OverIs l b f t q)=>tooR_is h)
 have NO:=hid (fun (h:FitsT l b f)=>tooR_no h)
 have hn1:=ok.n1
 have hn5:=ok.n5
 have LP:=hid (fun k t=>(left_pos (l:=l) (b:=b) (k:=k) (t:=t)))
 clear hl hb hok ok hqE
 generalize hnn:l.length=n at *
 have Hn:=hid hnn
 clear hnn
 generalize b.length=z at *
 go_enter Tryz.func56,Tryz.ntmps56
 go_wp2_with fail
 go_loopw [9] (fun c wr=>∃ t:Nat,c=.int .i64 t∧t≤48∧f≤t∧Hid (∀ s,f≤s→s < t→∀ p,p < n→0≤leftT l b p s)∧Ext w wr) (fun c _=>48 - (intOf c).toNat)
 case atStart=>exact ⟨f,rfl,hf,Nat.le_refl _,hid (fun s h1 h2=>by omega),Ext.rf w⟩
 case round =>
  obtain ⟨t,rfl,ht,hft,HB,hx⟩:=hrel
  by_cases htl:t < 48
  ·have htl':(t:Int) < 48:=by omega
   have HX:=hid hx
   clear hx
   generalize wr=w0 at *
   go_wp2_with fail
   go_loopw [10] (fun c wr=>∃ k:Nat,c=.int .i64 k∧k≤n∧Hid (∀ p,p < k→0≤leftT l b p t)∧Ext w wr) (fun c _=>n - (intOf c).toNat)
   case atStart=>exact ⟨0,rfl,by omega,hid (fun p h=>by omega),HX.out⟩
   case round =>
    obtain ⟨k,rfl,hk,HK,hx⟩:=hrel
    by_cases hlt:k < n
    ·have hlt':(k:Int) < (n:Int):=by omega
     obtain ⟨x,hxk⟩:=getA (f:=l) (k:=k) (by rw [Hn.out];exact hlt)
     obtain ⟨_,_,_,_,u,c1,hu⟩:=EQueue.mono w wr qb _ x hx (HQE.out k x hxk)
     have ecp:=(at_some hxk).2.2
     have hsh:=CS.out k hlt
     rw [ecp] at hsh
     have hlp:=LP.out k t
     rw [ecp] at hlp
     have HLP:=hid hlp
     have TL:=hid (fun p:Later wr=>later_of p (TK.out p.v (hx.tr p.h) k t))
     have SL:=hid (fun p:Later wr=>later_of p (SP.out p.v u x.Cap hsh (hu.mono p.h)))
     replace c1:=fun p:Later wr=>p.cell c1
     obtain ⟨ua,uc,rfl,_,_,_⟩:=hu.form
     have hg:=fun w=>run_index_tab (sp x.Cap) t htl w
     clear hu hxk hsh hlp ecp
     generalize sp x.Cap=sc at *
     generalize x.Cap.length=xn at *
     generalize takenT l b k t=tk at *
     by_cases g:sc t < tk
     ·have hd:=deT g
      have hR:=YES.out t k ⟨hft,htl,by rw [Hn.out];exact hlt,HLP.out.1 g,by rw [Hn.out];exact HB.out,HK.out⟩
      have HR:=hid hR
      clear hR g
      go_wp2_with fail
      refine region_later (by kernel_rfl) (by kernel_rfl) ?_
      repeat (go_big_quiet_step (first | with_reducible exact TL.out _ | with_reducible exact SL.out _))
      refine wpQuiet_nil ?_
      rintro w' ⟨p,rfl⟩
      have HX2:=hid (hx.tr p.h)
      clear TL SL c1
      generalize p.v=W at *
      go_wp2_with fail
      go_ret3
      exact retToo_of HR.out HX2.out
     ·have hd:=deF g
      have HN:=hid (show ∀ p,p < k+1→0≤leftT l b p t from fun p hp=>by
       by_cases e:p=k
       ·subst e;have:=mt HLP.out.2 g;omega
       ·exact HK.out p (by omega))
      clear g
      go_wp2_with fail
      refine region_later (by kernel_rfl) (by kernel_rfl) ?_
      repeat (go_big_quiet_step (first | with_reducible exact TL.out _ | with_reducible exact SL.out _))
      refine wpQuiet_nil ?_
      rintro w' ⟨p,rfl⟩
      have HX2:=hid (hx.tr p.h)
      clear TL SL c1
      generalize p.v=W at *
      go_wp2_with fail
      go_roundw
      case rel=>exact ⟨k+1,by go_num,by omega,HN,HX2.out⟩
      case measure=>simp [intOf];omega
    ·obtain rfl:k=n:=by omega
     have hlt':¬ (k:Int) < (k:Int):=by omega
     have HN:=hid (show ∀ s,f≤s→s < t+1→∀ p,p < k→0≤leftT l b p s from fun s h1 h2 p hp=>by
      by_cases e:s=t
      ·subst e;exact HK.out p hp
      ·exact HB.out s h1 (by omega) p hp)
     go_wp2_with fail
     go_roundw
     case rel=>exact ⟨t+1,by go_num,by omega,by omega,HN,hx⟩
     case measure=>simp [intOf];omega
  ·obtain rfl:t=48:=by omega
   have htl':¬ (48:Int) < 48:=by omega
   have HR:=hid (NO.out (fun s h1 h2 p hp=>HB.out s h1 h2 p (by rw [← Hn.out];exact hp)))
   go_wp2_with fail
   go_ret3
   exact retToo_of HR.out hx
def SeenT (q c t p:Nat):Prop:=p < q∨(p=q∧t < c)
def Best (l:List Queue) (b:List Book) (f q c:Nat) (time queue:Int) (is:Bool):Prop :=
 (is=false∧time=48∧queue=0∧∀ t p,SeenT q c t p→p < l.length→f≤t→t < 48→0≤leftT l b p t) ∨
 (is=true∧∃ T Q:Nat,time=T∧queue=Q∧f≤T∧T < 48∧Q≤q∧Q < l.length∧leftT l b Q T < 0∧∀ t p,SeenT q c t p→p < l.length→f≤t→(t < T→0≤leftT l b p t)∧(t=T→p < Q→0≤leftT l b p t))
section
variable {l:List Queue} {b:List Book} {f q c e:Nat} {time queue:Int} {is:Bool}
theorem Best.start:Best l b f 0 0 48 0 false:=.inl ⟨rfl,rfl,rfl,fun t p h=>by unfold SeenT at h;omega⟩
theorem Best.next (h:Best l b f q 48 time queue is):Best l b f (q+1) 0 time queue is:=by
 rcases h with ⟨h1,h2,h3,h4⟩ | ⟨h1,T,Q,h2,h3,h4,h5,h6,h7,h8,h9⟩
 ·exact .inl ⟨h1,h2,h3,fun t p hs hp hf ht=>h4 t p (by unfold SeenT at *;omega) hp hf ht⟩
 ·refine .inr ⟨h1,T,Q,h2,h3,h4,h5,by omega,h7,h8,fun t p hs hp hf=>⟨fun ht=>?_,fun ht hq=>?_⟩⟩
  ·exact (h9 t p (by unfold SeenT at *;omega) hp hf).1 ht
  ·exact (h9 t p (by unfold SeenT at *;omega) hp hf).2 ht hq
theorem Best.keep (h:Best l b f q c time queue is) (hk:∀ t,c≤t→t < e→f≤t→0≤leftT l b q t):Best l b f q e time queue is:=by
 have key:∀ t p,SeenT q e t p→SeenT q c t p∨(p=q∧c≤t∧t < e):=fun t p hs=>by unfold SeenT at *;omega
 rcases h with ⟨h1,h2,h3,h4⟩ | ⟨h1,T,Q,h2,h3,h4,h5,h6,h7,h8,h9⟩
 ·refine .inl ⟨h1,h2,h3,fun t p hs hp hf ht=>?_⟩
  rcases key t p hs with hs | ⟨rfl,a,a'⟩
  ·exact h4 t p hs hp hf ht
  ·exact hk t a a' hf
 ·refine .inr ⟨h1,T,Q,h2,h3,h4,h5,h6,h7,h8,fun t p hs hp hf=>?_⟩
  rcases key t p hs with hs | ⟨rfl,a,a'⟩
  ·exact h9 t p hs hp hf
  ·exact ⟨fun _=>hk t a a' hf,fun _ _=>hk t a a' hf⟩
theorem Best.late (h:Best l b f q c time queue is) (he:e≤48) (h1:max c f < e) (h2:time≤((max c f:Nat):Int)):Best l b f q e time queue is:=by
 rcases h with ⟨g1,g2,g3,g4⟩ | ⟨g1,T,Q,g2,g3,g4,g5,g6,g7,g8,g9⟩
 ·omega
 ·refine .inr ⟨g1,T,Q,g2,g3,g4,g5,g6,g7,g8,fun t p hs hp hf=>?_⟩
  by_cases hs':SeenT q c t p
  ·exact g9 t p hs' hp hf
  ·have:p=q∧c≤t:=by unfold SeenT at *;omega
   exact ⟨fun h=>by omega,fun h h'=>by omega⟩
theorem Best.new (h:Best l b f q c time queue is) (hq:q < l.length) (he:e≤48) (h1:max c f < e) (h2:((max c f:Nat):Int) < time) (hn:∀ t,c≤t→t < e→leftT l b q t < 0):Best l b f q e ((max c f:Nat):Int) (q:Int) true:=by
 refine .inr ⟨rfl,max c f,q,rfl,rfl,by omega,by omega,by omega,hq,hn _ (by omega) h1,fun t p hs hp hf=>?_⟩
 by_cases hs':SeenT q c t p
 ·rcases h with ⟨g1,g2,g3,g4⟩ | ⟨g1,T,Q,g2,g3,g4,g5,g6,g7,g8,g9⟩
  ·exact ⟨fun h=>g4 t p hs' hp hf (by omega),fun h _=>g4 t p hs' hp hf (by omega)⟩
  ·exact ⟨fun h=>(g9 t p hs' hp hf).1 (by omega),fun h _=>(g9 t p hs' hp hf).1 (by omega)⟩
 ·have:p=q∧c≤t:=by unfold SeenT at *;omega
  exact ⟨fun h=>by omega,fun h h'=>by omega⟩
theorem Best.done_no (h:Best l b f l.length 0 time queue false):FitsT l b f:=by
 rcases h with ⟨h1,h2,h3,h4⟩ | ⟨h1,_⟩
 ·exact fun s h1 h2 p hp=>h4 s p (.inl hp) hp h1 h2
 ·cases h1
theorem Best.done_is (h:Best l b f l.length 0 time queue true):tooR l b f=(time,queue,true):=by
 rcases h with ⟨h1,_⟩ | ⟨h1,T,Q,h2,h3,h4,h5,h6,h7,h8,h9⟩
 ·cases h1
 ·rw [h2,h3]
  exact tooR_is ⟨h4,h5,h7,h8,fun s h h' p hp=>(h9 s p (.inl hp) hp h).1 h',fun p hp=>(h9 T p (.inl (by omega)) (by omega) h4).2 rfl hp⟩
end
def cutAt (g:List Run) (k:Nat):Nat:=if k < g.length then (curAt g k).toNat else 48
theorem cut_zero (x:Nat→Int):cutAt (fold x) 0=0:=by
 have h:=shape_zero (shape_fold x)
 unfold cutAt
 rw [if_pos h.1,h.2];rfl
theorem cut_end (g:List Run):cutAt g g.length=48:=by unfold cutAt;rw [if_neg (Nat.lt_irrefl _)]
theorem run_cut {x:Nat→Int} {k:Nat} {r:Run} (h:(fold x)[k]?=some r):r.At=(cutAt (fold x) k:Int)∧cutAt (fold x) (k+1)≤48∧cutAt (fold x) k < cutAt (fold x) (k+1)∧(∀ t,cutAt (fold x) k≤t→t < cutAt (fold x) (k+1)→x t=r.N) ∧
  ∀ r',(fold x)[k+1]?=some r'→r'.At=(cutAt (fold x) (k+1):Int):=by
 have hk:=(List.getElem?_eq_some_iff.1 h).1
 obtain ⟨s1,s2,s3,s4⟩:=shape_idx (shape_fold x) hk
 have e1:=curAt_some h
 have e2:=curN_some h
 have c1:(cutAt (fold x) k:Int)=curAt (fold x) k:=by unfold cutAt;rw [if_pos hk];omega
 have c2:(cutAt (fold x) (k+1):Int)=nextAt (fold x) k:=by
  unfold cutAt
  by_cases hk1:k+1 < (fold x).length
  ·rw [if_pos hk1,nextAt_lt hk1]
   have:=(shape_idx (shape_fold x) hk1).1
   omega
  ·rw [if_neg hk1,nextAt_end hk1];rfl
 refine ⟨by omega,by omega,by omega,fun t h1 h2=>?_,fun r' h'=>?_⟩
 ·rw [← sp_fold (x:=x) (t:=t) (by omega),s4 t (by omega) (by omega),e2]
 ·rw [← curAt_some h',c2,nextAt_lt (List.getElem?_eq_some_iff.1 h').1]
theorem too1 (a b:Int) (w:World) (ha:-1000000000≤a) (ha':a≤1000000000) (hb:-1000000000≤b) (hb':b≤1000000000):Calls Tryz.prog 118 #[.int .i64 a,.int .i64 b] w fun e w'=>e=.returned (.int .i64 (a - b))∧w'=w:=by
 go_enter Tryz.func118,Tryz.ntmps118
 go_wp2
 go_ret
 exact ⟨rfl,rfl⟩
theorem runs_some {w:World} {v:Value} {f:List Run} (h:RunsV w v f) (hf:f≠[]):∃ b off cap,v=.slice (some ⟨b,off,none⟩) f.length cap∧f.length≤17592186044416∧b < w.heap.size∧∀ k x,f[k]?=some x→E2 Run.At Run.N w b (off+k*2) x:=by
 rcases h with ⟨rfl,_⟩ | ⟨b,off,cap,rfl,h1,h2,hl,h3,h4⟩
 ·exact absurd rfl hf
 ·exact ⟨b,off,cap,rfl,hl,h3,h4⟩
theorem loadToo_any (w:World) (v bv:Value) (l:List Queue) (b:List Book) (f:Nat) (hf:f≤48) (hl:QueuesV w v l) (hb:BooksV w bv b) (ok:TreeOk l) (hok:∀ x∈b,BookOk l x) (hb12:b.length≤12) :
  Calls Tryz.prog 53 #[v,bv,.int .i64 (f:Int)] w (RetToo w (tooR l b f)):=by
 have TA:=hid (show Calls Tryz.prog 71 #[v,bv] w (fun e w'=>∃ u,e=.returned u∧LoadsV w' u (loadsL l b)∧Ext w w') from Taken_any w v bv l b hl hb ok.pars ok.n5 hok hb12 ok.n1)
 have ZL:=hid (fun (W:World) (vf vg:Value) (k:Nat) (hk:k < l.length) (h1:RunsV W vf (cp l k)) (h2:RunsV W vg (fold (takenT l b k)))=>zip_left 118 (enters_of Tryz.func118 (by kernel_rfl) rfl) (fun a b w h1 h2 h3 h4=>too1 a b w h1 h2 h3 h4) W vf vg l b k hk ok hok hb12 h1 h2)
 have hLL:(loadsL l b).length=l.length:=by simp [loadsL]
 have hLK:∀ k,k < l.length→(loadsL l b)[k]?=some (fold (takenT l b k)):=fun k hk=>by simp [loadsL,hk]
 have BD:=hid (fun tm qu=>Best.done_is (l:=l) (b:=b) (f:=f) (time:=tm) (queue:=qu))
 have BF:=hid (fun tm qu (h:Best l b f l.length 0 tm qu false)=>tooR_no h.done_no)
 have LN:=hid (fun q t (hq:q < l.length)=>left_num ok hok hb12 q t hq)
 obtain ⟨qb,qo,qc,rfl,_,_,hqb,hqE⟩:=queues_at hl ok.n1
 obtain ⟨ba,bc,rfl,hbc,hbc9,hbl⟩:=hb.form
 have HQE:=hid hqE
 have HLK:=hid hLK
 have hn1:=ok.n1
 have hn5:=ok.n5
 clear hl hb hok ok hqE hLK
 generalize hnn:l.length=n at *
 have Hn:=hid hnn
 clear hnn
 generalize b.length=z at *
 go_enter Tryz.func53,Tryz.ntmps53
 go_wp2_with fail
 refine TA.out.mono ?_
 rintro e w1 ⟨u,rfl,hu,hx1⟩
 obtain ⟨ua,uc,rfl,_,_,_,huE⟩:=loads_at hu
 have HUE:=hid huE
 rw [hLL]
 clear hu huE
 go_wp2_with fail
 go_loopw [9,10,11,23] (fun s1 s2 s3 s4 wr=>∃ (q:Nat) (tm qu:Int) (is:Bool),s1=.int .i64 tm∧s2=.int .i64 qu∧s3=.bool is∧s4=.int .i64 q∧q≤n∧Hid (Best l b f q 0 tm qu is)∧Ext w1 wr) (fun _ _ _ s4 _=>n - (intOf s4).toNat)
 case atStart=>exact ⟨0,48,0,false,rfl,rfl,rfl,rfl,by omega,hid Best.start,Ext.rf _⟩
 case round =>
  obtain ⟨q,tm,qu,is,rfl,rfl,rfl,rfl,hq,HB,hx⟩:=hrel
  by_cases hqn:q < n
  ·have hqn':(q:Int) < (n:Int):=by omega
   obtain ⟨x,hxk⟩:=getA (f:=l) (k:=q) (by rw [Hn.out];exact hqn)
   obtain ⟨ub,uo,rfl,hub,hue⟩:=HUE.out (by rw [hLL];omega)
   obtain ⟨_,_,_,_,cv,c1,hcv⟩:=EQueue.mono w wr qb _ x (hx1.tr hx) (HQE.out q x hxk)
   obtain ⟨fv,c2,hfv⟩:=hue q _ (HLK.out q hqn)
   replace c2:=hx.ce' c2
   replace hfv:=hfv.mono hx
   have ecp:=(at_some hxk).2.2
   rw [← ecp] at hcv
   have Z1:=hid (ZL.out wr cv fv q hqn hcv hfv)
   obtain ⟨ca,cc,rfl,_,_,_⟩:=hcv.form
   obtain ⟨fa,fc,rfl,_,_,_⟩:=hfv.form
   have HX1:=hid hx1
   clear hcv hfv hxk ecp hue hx1
   generalize (cp l q).length=cn at *
   generalize (fold (takenT l b q)).length=fn at *
   go_wp2_with fail
   refine Z1.out.mono ?_
   rintro e w2 ⟨g,rfl,hg,_,hx2⟩
   obtain ⟨gb,go,gc,rfl,hgl,hgb,hgE⟩:=runs_some hg (fold_ne _)
   have HGE:=hid hgE
   have HX:=hid (hx.tr hx2)
   have C0:=hid (cut_zero (leftT l b q))
   have CE:=hid (cut_end (fold (leftT l b q)))
   have RC:=hid (fun k r=>run_cut (x:=leftT l b q) (k:=k) (r:=r))
   clear hg hgE hx hx2 c1 c2 Z1
   generalize hmm:(fold (leftT l b q)).length=m at *
   have Hm:=hid hmm
   clear hmm
   generalize wr=w0 at *
   go_wp2_with fail
   go_loopw [9,10,11,37] (fun s1 s2 s3 s4 wr=>∃ (k:Nat) (tm qu:Int) (is:Bool),s1=.int .i64 tm∧s2=.int .i64 qu∧s3=.bool is∧s4=.int .i64 k∧k≤m∧Hid (Best l b f q (cutAt (fold (leftT l b q)) k) tm qu is)∧Ext w2 wr) (fun _ _ _ s4 _=>m - (intOf s4).toNat)
   case atStart=>exact ⟨0,tm,qu,is,rfl,rfl,rfl,rfl,by omega,hid (by rw [C0.out];exact HB.out),Ext.rf _⟩
   case round =>
    clear HB
    obtain ⟨k,tm,qu,is,rfl,rfl,rfl,rfl,hk,HB,hx⟩:=hrel
    by_cases hlt:k < m
    ·have hlt':(k:Int) < (m:Int):=by omega
     obtain ⟨r,hr⟩:=getA (f:=fold (leftT l b q)) (k:=k) (by rw [Hm.out];exact hlt)
     obtain ⟨c1,c2,c3,c4⟩:=HGE.out k r hr
     replace c1:=hx.ce' c1
     replace c2:=hx.ce' c2
     obtain ⟨r1,r2,r3,r4,r5⟩:=RC.out k r hr
     have HR4:=hid r4
     generalize hc:cutAt (fold (leftT l b q)) k=c at *
     generalize he:cutAt (fold (leftT l b q)) (k+1)=e at *
     have HCE:=hid (And.intro hc he)
     rw [r1] at c1
     have hgw:gb < wr.heap.size:=Nat.lt_of_lt_of_le hgb hx.size
     have HLQ:=hid (show q < l.length by rw [Hn.out];exact hqn)
     clear r4 c3 c4 hc he
     by_cases hk1:k+1 < m
     ·have hk1':(k:Int)+1 < (m:Int):=by omega
      obtain ⟨r',hr'⟩:=getA (f:=fold (leftT l b q)) (k:=k+1) (by rw [Hm.out];exact hk1)
      obtain ⟨d1,_,_,_⟩:=HGE.out (k+1) r' hr'
      replace d1:=hx.ce' d1
      rw [r5 r' hr'] at d1
      clear r5 hr hr' r1
      by_cases hcf:c < f
      ·have hcf':(c:Int) < (f:Int):=by omega
       have HM:=hid (show max c f=f by omega)
       by_cases gN:r.N < 0
       ·by_cases ge:(f:Int) < (e:Int)
        ·by_cases gt:(f:Int) < tm
         ·have HN:=hid (show Best l b f q e (f:Int) (q:Int) true from (by have h:=HB.out.new HLQ.out r2 (by have:=HM.out;omega) (by have:=HM.out;omega) (fun t h1 h2=>by rw [HR4.out t h1 h2];exact gN);rw [HM.out] at h;exact h))
          rw [← HCE.out.2] at HN
          clear HR4 HLQ
          go_wp2_with fail
          go_roundw
          case rel=>exact ⟨k+1,(f:Int),(q:Int),true,rfl,rfl,rfl,by go_num,by omega,HN,hx.al _⟩
          case measure=>simp [intOf];omega
         ·have HN:=hid (show Best l b f q e tm qu is from HB.out.late r2 (by have:=HM.out;omega) (by have:=HM.out;omega))
          rw [← HCE.out.2] at HN
          clear HR4 HLQ
          go_wp2_with fail
          go_roundw
          case rel=>exact ⟨k+1,tm,qu,is,rfl,rfl,rfl,by go_num,by omega,HN,hx.al _⟩
          case measure=>simp [intOf];omega
        ·have HN:=hid (show Best l b f q e tm qu is from HB.out.keep (fun t h1 h2 h3=>by omega))
         rw [← HCE.out.2] at HN
         clear HR4 HLQ
         go_wp2_with fail
         go_roundw
         case rel=>exact ⟨k+1,tm,qu,is,rfl,rfl,rfl,by go_num,by omega,HN,hx.al _⟩
         case measure=>simp [intOf];omega
       ·have HN:=hid (show Best l b f q e tm qu is from HB.out.keep (fun t h1 h2 h3=>by rw [HR4.out t h1 h2];omega))
        rw [← HCE.out.2] at HN
        clear HR4 HLQ
        go_wp2_with fail
        go_roundw
        case rel=>exact ⟨k+1,tm,qu,is,rfl,rfl,rfl,by go_num,by omega,HN,hx.al _⟩
        case measure=>simp [intOf];omega
      ·have hcf':¬ (c:Int) < (f:Int):=by omega
       have HM:=hid (show max c f=c by omega)
       by_cases gN:r.N < 0
       ·by_cases ge:(c:Int) < (e:Int)
        ·by_cases gt:(c:Int) < tm
         ·have HN:=hid (show Best l b f q e (c:Int) (q:Int) true from (by have h:=HB.out.new HLQ.out r2 (by have:=HM.out;omega) (by have:=HM.out;omega) (fun t h1 h2=>by rw [HR4.out t h1 h2];exact gN);rw [HM.out] at h;exact h))
          rw [← HCE.out.2] at HN
          clear HR4 HLQ
          go_wp2_with fail
          go_roundw
          case rel=>exact ⟨k+1,(c:Int),(q:Int),true,rfl,rfl,rfl,by go_num,by omega,HN,hx.al _⟩
          case measure=>simp [intOf];omega
         ·have HN:=hid (show Best l b f q e tm qu is from HB.out.late r2 (by have:=HM.out;omega) (by have:=HM.out;omega))
          rw [← HCE.out.2] at HN
          clear HR4 HLQ
          go_wp2_with fail
          go_roundw
          case rel=>exact ⟨k+1,tm,qu,is,rfl,rfl,rfl,by go_num,by omega,HN,hx.al _⟩
          case measure=>simp [intOf];omega
        ·exact absurd (by omega) ge
       ·have HN:=hid (show Best l b f q e tm qu is from HB.out.keep (fun t h1 h2 h3=>by rw [HR4.out t h1 h2];omega))
        rw [← HCE.out.2] at HN
        clear HR4 HLQ
        go_wp2_with fail
        go_roundw
        case rel=>exact ⟨k+1,tm,qu,is,rfl,rfl,rfl,by go_num,by omega,HN,hx.al _⟩
        case measure=>simp [intOf];omega
     ·have hk1':¬ (k:Int)+1 < (m:Int):=by omega
      obtain rfl:e=48:=by
       have h1:=HCE.out.2
       have h2:k+1=m:=by omega
       rw [h2,CE.out] at h1
       exact h1.symm
      clear r5 hr r1
      by_cases hcf:c < f
      ·have hcf':(c:Int) < (f:Int):=by omega
       have HM:=hid (show max c f=f by omega)
       by_cases gN:r.N < 0
       ·by_cases ge:(f:Int) < 48
        ·by_cases gt:(f:Int) < tm
         ·have HN:=hid (show Best l b f q 48 (f:Int) (q:Int) true from (by have h:=HB.out.new HLQ.out r2 (by have:=HM.out;omega) (by have:=HM.out;omega) (fun t h1 h2=>by rw [HR4.out t h1 h2];exact gN);rw [HM.out] at h;exact h))
          rw [← HCE.out.2] at HN
          clear HR4 HLQ
          go_wp2_with fail
          go_roundw
          case rel=>exact ⟨k+1,(f:Int),(q:Int),true,rfl,rfl,rfl,by go_num,by omega,HN,hx.al _⟩
          case measure=>simp [intOf];omega
         ·have HN:=hid (show Best l b f q 48 tm qu is from HB.out.late r2 (by have:=HM.out;omega) (by have:=HM.out;omega))
          rw [← HCE.out.2] at HN
          clear HR4 HLQ
          go_wp2_with fail
          go_roundw
          case rel=>exact ⟨k+1,tm,qu,is,rfl,rfl,rfl,by go_num,by omega,HN,hx.al _⟩
          case measure=>simp [intOf];omega
        ·have HN:=hid (show Best l b f q 48 tm qu is from HB.out.keep (fun t h1 h2 h3=>by omega))
         rw [← HCE.out.2] at HN
         clear HR4 HLQ
         go_wp2_with fail
         go_roundw
         case rel=>exact ⟨k+1,tm,qu,is,rfl,rfl,rfl,by go_num,by omega,HN,hx.al _⟩
         case measure=>simp [intOf];omega
       ·have HN:=hid (show Best l b f q 48 tm qu is from HB.out.keep (fun t h1 h2 h3=>by rw [HR4.out t h1 h2];omega))
        rw [← HCE.out.2] at HN
        clear HR4 HLQ
        go_wp2_with fail
        go_roundw
        case rel=>exact ⟨k+1,tm,qu,is,rfl,rfl,rfl,by go_num,by omega,HN,hx.al _⟩
        case measure=>simp [intOf];omega
      ·have hcf':¬ (c:Int) < (f:Int):=by omega
       have HM:=hid (show max c f=c by omega)
       by_cases gN:r.N < 0
       ·by_cases ge:(c:Int) < 48
        ·by_cases gt:(c:Int) < tm
         ·have HN:=hid (show Best l b f q 48 (c:Int) (q:Int) true from (by have h:=HB.out.new HLQ.out r2 (by have:=HM.out;omega) (by have:=HM.out;omega) (fun t h1 h2=>by rw [HR4.out t h1 h2];exact gN);rw [HM.out] at h;exact h))
          rw [← HCE.out.2] at HN
          clear HR4 HLQ
          go_wp2_with fail
          go_roundw
          case rel=>exact ⟨k+1,(c:Int),(q:Int),true,rfl,rfl,rfl,by go_num,by omega,HN,hx.al _⟩
          case measure=>simp [intOf];omega
         ·have HN:=hid (show Best l b f q 48 tm qu is from HB.out.late r2 (by have:=HM.out;omega) (by have:=HM.out;omega))
          rw [← HCE.out.2] at HN
          clear HR4 HLQ
          go_wp2_with fail
          go_roundw
          case rel=>exact ⟨k+1,tm,qu,is,rfl,rfl,rfl,by go_num,by omega,HN,hx.al _⟩
          case measure=>simp [intOf];omega
        ·exact absurd (by omega) ge
       ·have HN:=hid (show Best l b f q 48 tm qu is from HB.out.keep (fun t h1 h2 h3=>by rw [HR4.out t h1 h2];omega))
        rw [← HCE.out.2] at HN
        clear HR4 HLQ
        go_wp2_with fail
        go_roundw
        case rel=>exact ⟨k+1,tm,qu,is,rfl,rfl,rfl,by go_num,by omega,HN,hx.al _⟩
        case measure=>simp [intOf];omega
    ·obtain rfl:k=m:=by omega
     have hlt':¬ (k:Int) < (k:Int):=by omega
     have HB':=hid (show Best l b f (q+1) 0 tm qu is from Best.next (by have:=HB.out;rw [CE.out] at this;exact this))
     go_wp2_with fail
     go_roundw
     case rel=>exact ⟨q+1,tm,qu,is,rfl,rfl,rfl,by go_num,by omega,HB',HX.out.tr hx⟩
     case measure=>simp [intOf];omega
  ·obtain rfl:q=n:=by omega
   have hqn':¬ (q:Int) < (q:Int):=by omega
   cases is with
   | false =>
    have HR:=hid (BF.out tm qu HB.out)
    go_wp2_with fail
    go_ret3
    exact retToo_of HR.out (hx1.tr hx)
   | true =>
    have HR:=hid (BD.out tm qu HB.out)
    go_wp2_with fail
    go_ret3
    exact retToo_of HR.out (hx1.tr hx)
@[irreducible] noncomputable def fitsR (l:List Queue) (b:List Book) (f:Int):Bool × Int :=
 if booksE l b≠0 then (false,booksE l b) else if 0≤f∧f≤48 then (!(tooR l b f.toNat).2.2,0) else (false,3)
theorem fitsR_bad {l:List Queue} {b:List Book} {f:Int} (h:booksE l b≠0):fitsR l b f=(false,booksE l b):=by unfold fitsR;rw [if_pos h]
theorem fitsR_out {l:List Queue} {b:List Book} {f:Int} (h:booksE l b=0) (hf:¬ (0≤f∧f≤48)):fitsR l b f=(false,3):=by unfold fitsR;rw [if_neg (by simp [h]),if_neg hf]
theorem fitsR_ok {l:List Queue} {b:List Book} {f:Int} (h:booksE l b=0) (hf:0≤f∧f≤48):fitsR l b f=(!(tooR l b f.toNat).2.2,0):=by unfold fitsR;rw [if_neg (by simp [h]),if_pos hf]
def RetFits (w:World) (r:Bool × Int) (e:Ending) (w':World):Prop:=e=.returned (.tuple #[.bool r.1,.int .i64 r.2])∧Ext w w'
theorem retFits_of {w w':World} {r:Bool × Int} {a:Bool} {b:Int} (h:r=(a,b)) (hx:Ext w w'):RetFits w r (.returned (.tuple #[.bool a,.int .i64 b])) w':=by subst h;exact ⟨rfl,hx⟩
theorem loadFits_any (w:World) (v bv:Value) (l:List Queue) (b:List Book) (f:Int) (hl:QueuesV w v l) (hb:BooksV w bv b) :
  Calls Tryz.prog 26 #[v,bv,.int .i64 f] w (RetFits w (fitsR l b f)):=by
 have C:=hid (loadCheck_any w v bv l b hl hb)
 by_cases h:booksE l b=0
 ·obtain ⟨ok,_,h12,hbok⟩:=booksE_zero h
  rw [h] at C
  have TO:=hid (fun (W:World) (hx:Ext w W) (k:Nat) (hk:k≤48)=>loadToo_any W v bv l b k hk (hl.mono hx) (hb.mono hx) ok hbok h12)
  obtain ⟨a,cap,rfl,_,_,hl5⟩:=hl.form
  obtain ⟨ba,bc,rfl,_,_,_⟩:=hb.form
  by_cases hf:0≤f∧f≤48
  ·obtain ⟨k,rfl⟩:=Int.eq_ofNat_of_zero_le hf.1
   have Hr:=hid (fitsR_ok h hf)
   have hk:k≤48:=by omega
   have T1:=hid (fun (W:World) (hx:Ext w W)=>TO.out W hx k hk)
   have t1:¬ (k:Int) < 0:=by omega
   have t2:¬ (48:Int) < (k:Int):=by omega
   clear hl hb h ok hbok hf
   generalize fitsR l b (Int.ofNat k)=R at *
   generalize l.length=n at *
   generalize b.length=z at *
   go_enter Tryz.func26,Tryz.ntmps26
   go_wp2_with fail
   refine C.out.mono ?_
   rintro e w1 ⟨rfl,hx⟩
   go_wp2_with fail
   refine (T1.out _ hx).mono ?_
   rintro e w2 ⟨rfl,hx2⟩
   go_wp2_with fail
   go_ret2
   exact retFits_of Hr.out (hx.tr hx2)
  ·have Hr:=hid (fitsR_out h hf)
   by_cases t1:f < 0
   ·clear hl hb h ok hbok hf
    generalize fitsR l b f=R at *
    generalize l.length=n at *
    generalize b.length=z at *
    go_enter Tryz.func26,Tryz.ntmps26
    go_wp2_with fail
    refine C.out.mono ?_
    rintro e w1 ⟨rfl,hx⟩
    go_wp2_with fail
    go_ret2
    exact retFits_of Hr.out hx
   ·have t2:48 < f:=by omega
    clear hl hb h ok hbok hf
    generalize fitsR l b f=R at *
    generalize l.length=n at *
    generalize b.length=z at *
    go_enter Tryz.func26,Tryz.ntmps26
    go_wp2_with fail
    refine C.out.mono ?_
    rintro e w1 ⟨rfl,hx⟩
    go_wp2_with fail
    go_ret2
    exact retFits_of Hr.out hx
 ·have Hr:=hid (fitsR_bad (f:=f) h)
  have hne:=neT h
  obtain ⟨a,cap,rfl,_,_,hl5⟩:=hl.form
  obtain ⟨ba,bc,rfl,_,_,_⟩:=hb.form
  clear hl hb h
  generalize fitsR l b f=R at *
  generalize booksE l b=be at *
  generalize l.length=n at *
  generalize b.length=z at *
  go_enter Tryz.func26,Tryz.ntmps26
  go_wp2_with fail
  refine C.out.mono ?_
  rintro e w1 ⟨rfl,hx⟩
  go_wp2_with fail
  go_ret2
  exact retFits_of Hr.out hx
theorem valueR_fine {f:List Run} {t:Int} (hf:Fine f) (h0:0≤t) (h1:t < 48):valueR f t=(sp f t.toNat,0):=by
 unfold valueR;rw [if_pos hf,if_pos ⟨h0,h1⟩]
end Go.Proofs.YtncaoclhlfkdoaaGreat
