/- what is over; each theorem names its own conditions. -/
import Derived.Test.YtdcndkojmflhnaaGreatPLoadR
import Derived.Test.YtdcndkojmflhnaaGreatPRoomP
import Derived.Test.YtdcndkojmflhnaaGreatPRunsX
import Derived.Test.YtdcndkojmflhnaaGreatPLoadB
/- The soonest time at which too much is taken: over, FitsOf, load.Too, load.Fits. -/
/- The soonest time at which too much is taken; walk of the reference's over and FitsOf. -/
set_option linter.unusedVariables false
set_option maxRecDepth 100000
set_option maxHeartbeats 8000000
set_option linter.unusedSimpArgs false
set_option linter.unusedVariables false
namespace Go.Proofs.YtdcndkojmflhnaaGreat
open Go.RowKit
open List renaming getElem_toArray→zA,getElem_cons_zero→zB,getElem_cons_succ→zC,setIfInBounds_toArray→zD,set_cons_zero→zE,set_cons_succ→zF
def OverIs (l:List Queue) (b:List Book) (f t q:Nat):Prop :=
 f≤t∧t < 48∧q < l.length∧leftT l b q t < 0∧(∀ s,f≤s→s < t→∀ p,p < l.length→0≤leftT l b p s)∧∀ p,p < q→0≤leftT l b p t
def FitsT (l:List Queue) (b:List Book) (f:Nat):Prop:=∀ s,f≤s→s < 48→∀ p,p < l.length→0≤leftT l b p s
theorem OverIs.uniq {l:List Queue} {b:List Book} {f t q t' q':Nat} (h:OverIs l b f t q) (h':OverIs l b f t' q'):t=t'∧q=q':=by
 obtain ⟨a1,a2,a3,a4,a5,a6⟩:=h
 obtain ⟨b1,b2,b3,b4,b5,b6⟩:=h'
 have e:t=t':=by
  rcases Nat.lt_trichotomy t t' with h | h | h
  ·have:=b5 t a1 h q a3;omega
  ·exact h
  ·have:=a5 t' b1 h q' b3;omega
 subst e
 refine ⟨rfl,?_⟩
 rcases Nat.lt_trichotomy q q' with h | h | h
 ·have:=b6 q h;omega
 ·exact h
 ·have:=a6 q' h;omega
theorem FitsT.not {l:List Queue} {b:List Book} {f t q:Nat} (h:FitsT l b f) (h':OverIs l b f t q):False:=by
 obtain ⟨b1,b2,b3,b4,b5,b6⟩:=h'
 have:=h t b1 b2 q b3
 omega
@[irreducible] noncomputable def tooR (l:List Queue) (b:List Book) (f:Nat):Int × Int × Bool:=open Classical in
 if h:∃ p:Nat × Nat,OverIs l b f p.1 p.2 then ((h.choose.1:Int),(h.choose.2:Int),true) else (0,0,false)
theorem tooR_is {l:List Queue} {b:List Book} {f t q:Nat} (h:OverIs l b f t q):tooR l b f=((t:Int),(q:Int),true):=by
 have hx:∃ p:Nat × Nat,OverIs l b f p.1 p.2:=⟨(t,q),h⟩
 unfold tooR
 rw [dif_pos hx]
 obtain ⟨e1,e2⟩:=hx.choose_spec.uniq h
 rw [e1,e2]
theorem tooR_no {l:List Queue} {b:List Book} {f:Nat} (h:FitsT l b f):tooR l b f=(0,0,false):=by
 unfold tooR
 rw [dif_neg (fun ⟨p,hp⟩=>h.not hp)]
def RetToo (w:World) (r:Int × Int × Bool) (e:Ending) (w':World):Prop:=e=.returned (.tuple #[.int .i64 r.1,.int .i64 r.2.1,.bool r.2.2])∧Ext w w'
theorem retToo_of {w w':World} {r:Int × Int × Bool} {a b:Int} {c:Bool} (h:r=(a,b,c)) (hx:Ext w w'):RetToo w r (.returned (.tuple #[.int .i64 a,.int .i64 b,.bool c])) w':=by subst h;exact ⟨rfl,hx⟩
def SeenT (q c t p:Nat):Prop:=p < q∨(p=q∧t < c)
def Best (l:List Queue) (b:List Book) (f q c:Nat) (time queue:Int) (is:Bool):Prop :=
 (is=false∧time=48∧queue=0∧∀ t p,SeenT q c t p→p < l.length→f≤t→t < 48→0≤leftT l b p t) ∨
 (is=true∧∃ T Q:Nat,time=T∧queue=Q∧f≤T∧T < 48∧Q≤q∧Q < l.length∧leftT l b Q T < 0∧∀ t p,SeenT q c t p→p < l.length→f≤t→(t < T→0≤leftT l b p t)∧(t=T→p < Q→0≤leftT l b p t))
section
variable {l:List Queue} {b:List Book} {f q c e:Nat} {time queue:Int} {is:Bool}
theorem Best.start:Best l b f 0 0 48 0 false:=.inl ⟨rfl,rfl,rfl,fun t p h=>by unfold SeenT at h;omega⟩
theorem Best.next (h:Best l b f q 48 time queue is):Best l b f (q+1) 0 time queue is:=by
 rcases h with ⟨h1,h2,h3,h4⟩ | ⟨h1,T,Q,h2,h3,h4,h5,h6,h7,h8,h9⟩
 ·exact .inl ⟨h1,h2,h3,fun t p hs hp hf ht=>h4 t p (by unfold SeenT at *;omega) hp hf ht⟩
 ·refine .inr ⟨h1,T,Q,h2,h3,h4,h5,by omega,h7,h8,fun t p hs hp hf=>⟨fun ht=>?_,fun ht hq=>?_⟩⟩
  ·exact (h9 t p (by unfold SeenT at *;omega) hp hf).1 ht
  ·exact (h9 t p (by unfold SeenT at *;omega) hp hf).2 ht hq
theorem Best.keep (h:Best l b f q c time queue is) (hk:∀ t,c≤t→t < e→f≤t→0≤leftT l b q t):Best l b f q e time queue is:=by
 have key:∀ t p,SeenT q e t p→SeenT q c t p∨(p=q∧c≤t∧t < e):=fun t p hs=>by unfold SeenT at *;omega
 rcases h with ⟨h1,h2,h3,h4⟩ | ⟨h1,T,Q,h2,h3,h4,h5,h6,h7,h8,h9⟩
 ·refine .inl ⟨h1,h2,h3,fun t p hs hp hf ht=>?_⟩
  rcases key t p hs with hs | ⟨rfl,a,a'⟩
  ·exact h4 t p hs hp hf ht
  ·exact hk t a a' hf
 ·refine .inr ⟨h1,T,Q,h2,h3,h4,h5,h6,h7,h8,fun t p hs hp hf=>?_⟩
  rcases key t p hs with hs | ⟨rfl,a,a'⟩
  ·exact h9 t p hs hp hf
  ·exact ⟨fun _=>hk t a a' hf,fun _ _=>hk t a a' hf⟩
theorem Best.late (h:Best l b f q c time queue is) (he:e≤48) (h1:max c f < e) (h2:time≤((max c f:Nat):Int)):Best l b f q e time queue is:=by
 rcases h with ⟨g1,g2,g3,g4⟩ | ⟨g1,T,Q,g2,g3,g4,g5,g6,g7,g8,g9⟩
 ·omega
 ·refine .inr ⟨g1,T,Q,g2,g3,g4,g5,g6,g7,g8,fun t p hs hp hf=>?_⟩
  by_cases hs':SeenT q c t p
  ·exact g9 t p hs' hp hf
  ·have:p=q∧c≤t:=by unfold SeenT at *;omega
   exact ⟨fun h=>by omega,fun h h'=>by omega⟩
theorem Best.new (h:Best l b f q c time queue is) (hq:q < l.length) (he:e≤48) (h1:max c f < e) (h2:((max c f:Nat):Int) < time) (hn:∀ t,c≤t→t < e→leftT l b q t < 0):Best l b f q e ((max c f:Nat):Int) (q:Int) true:=by
 refine .inr ⟨rfl,max c f,q,rfl,rfl,by omega,by omega,by omega,hq,hn _ (by omega) h1,fun t p hs hp hf=>?_⟩
 by_cases hs':SeenT q c t p
 ·rcases h with ⟨g1,g2,g3,g4⟩ | ⟨g1,T,Q,g2,g3,g4,g5,g6,g7,g8,g9⟩
  ·exact ⟨fun h=>g4 t p hs' hp hf (by omega),fun h _=>g4 t p hs' hp hf (by omega)⟩
  ·exact ⟨fun h=>(g9 t p hs' hp hf).1 (by omega),fun h _=>(g9 t p hs' hp hf).1 (by omega)⟩
 ·have:p=q∧c≤t:=by unfold SeenT at *;omega
  exact ⟨fun h=>by omega,fun h h'=>by omega⟩
theorem Best.done_no (h:Best l b f l.length 0 time queue false):FitsT l b f:=by
 rcases h with ⟨h1,h2,h3,h4⟩ | ⟨h1,_⟩
 ·exact fun s h1 h2 p hp=>h4 s p (.inl hp) hp h1 h2
 ·cases h1
theorem Best.done_is (h:Best l b f l.length 0 time queue true):tooR l b f=(time,queue,true):=by
 rcases h with ⟨h1,_⟩ | ⟨h1,T,Q,h2,h3,h4,h5,h6,h7,h8,h9⟩
 ·cases h1
 ·rw [h2,h3]
  exact tooR_is ⟨h4,h5,h7,h8,fun s h h' p hp=>(h9 s p (.inl hp) hp h).1 h',fun p hp=>(h9 T p (.inl (by omega)) (by omega) h4).2 rfl hp⟩
end
def cutAt (g:List Run) (k:Nat):Nat:=if k < g.length then (curAt g k).toNat else 48
theorem cut_zero (x:Nat→Int):cutAt (fold x) 0=0:=by
 have h:=shape_zero (shape_fold x)
 unfold cutAt
 rw [if_pos h.1,h.2];rfl
theorem cut_end (g:List Run):cutAt g g.length=48:=by unfold cutAt;rw [if_neg (Nat.lt_irrefl _)]
theorem run_cut {x:Nat→Int} {k:Nat} {r:Run} (h:(fold x)[k]?=some r):r.At=(cutAt (fold x) k:Int)∧cutAt (fold x) (k+1)≤48∧cutAt (fold x) k < cutAt (fold x) (k+1)∧(∀ t,cutAt (fold x) k≤t→t < cutAt (fold x) (k+1)→x t=r.N) ∧
  ∀ r',(fold x)[k+1]?=some r'→r'.At=(cutAt (fold x) (k+1):Int):=by
 have hk:=(List.getElem?_eq_some_iff.1 h).1
 obtain ⟨s1,s2,s3,s4⟩:=shape_idx (shape_fold x) hk
 have e1:=curAt_some h
 have e2:=curN_some h
 have c1:(cutAt (fold x) k:Int)=curAt (fold x) k:=by unfold cutAt;rw [if_pos hk];omega
 have c2:(cutAt (fold x) (k+1):Int)=nextAt (fold x) k:=by
  unfold cutAt
  by_cases hk1:k+1 < (fold x).length
  ·rw [if_pos hk1,nextAt_lt hk1]
   have:=(shape_idx (shape_fold x) hk1).1
   omega
  ·rw [if_neg hk1,nextAt_end hk1];rfl
 refine ⟨by omega,by omega,by omega,fun t h1 h2=>?_,fun r' h'=>?_⟩
 ·rw [← sp_fold (x:=x) (t:=t) (by omega),s4 t (by omega) (by omega),e2]
 ·rw [← curAt_some h',c2,nextAt_lt (List.getElem?_eq_some_iff.1 h').1]
theorem too1 (a b:Int) (w:World) (ha:-1000000000≤a) (ha':a≤1000000000) (hb:-1000000000≤b) (hb':b≤1000000000):Calls Tryz.prog 123 #[.int .i64 a,.int .i64 b] w fun e w'=>e=.returned (.int .i64 (a - b))∧w'=w:=by
 go_enter Tryz.func123,Tryz.ntmps123
 go_wp2
 go_ret
 exact ⟨rfl,rfl⟩
theorem runs_some {w:World} {v:Value} {f:List Run} (h:RunsV w v f) (hf:f≠[]):∃ b off cap,v=.slice (some ⟨b,off,none⟩) f.length cap∧f.length≤17592186044416∧b < w.heap.size∧∀ k x,f[k]?=some x→E2 Run.At Run.N w b (off+k*2) x:=by
 rcases h with ⟨rfl,_⟩ | ⟨b,off,cap,rfl,h1,h2,hl,h3,h4⟩
 ·exact absurd rfl hf
 ·exact ⟨b,off,cap,rfl,hl,h3,h4⟩
theorem loadToo_any (w:World) (v bv:Value) (l:List Queue) (b:List Book) (f:Nat) (hf:f≤48) (hl:QueuesV w v l) (hb:BooksV w bv b) (ok:TreeOk l) (hok:∀ x∈b,BookOk l x) (hb12:b.length≤12) :
  Calls Tryz.prog 69 #[v,bv,.int .i64 (f:Int)] w (RetToo w (tooR l b f)):=by
 have TA:=hid (show Calls Tryz.prog 121 #[v,bv] w (fun e w'=>∃ u,e=.returned u∧LoadsV w' u (loadsL l b)∧Ext w w') from Taken_any w v bv l b hl hb ok.pars ok.n5 hok hb12 ok.n1)
 have ZL:=hid (fun (W:World) (vf vg:Value) (k:Nat) (hk:k < l.length) (h1:RunsV W vf (cp l k)) (h2:RunsV W vg (fold (takenT l b k)))=>zip_left 123 (enters_of Tryz.func123 (by kernel_rfl) rfl) (fun a b w h1 h2 h3 h4=>too1 a b w h1 h2 h3 h4) W vf vg l b k hk ok hok hb12 h1 h2)
 have hLL:(loadsL l b).length=l.length:=by simp [loadsL]
 have hLK:∀ k,k < l.length→(loadsL l b)[k]?=some (fold (takenT l b k)):=fun k hk=>by simp [loadsL,hk]
 have BD:=hid (fun tm qu=>Best.done_is (l:=l) (b:=b) (f:=f) (time:=tm) (queue:=qu))
 have BF:=hid (fun tm qu (h:Best l b f l.length 0 tm qu false)=>tooR_no h.done_no)
 have LN:=hid (fun q t (hq:q < l.length)=>left_num ok hok hb12 q t hq)
 obtain ⟨qb,qo,qc,rfl,_,_,hqb,hqE⟩:=queues_at hl ok.n1
 obtain ⟨ba,bc,rfl,hbc,hbc9,hbl⟩:=hb.form
 have HQE:=hid hqE
 have HLK:=hid hLK
 have hn1:=ok.n1
 have hn5:=ok.n5
 clear hl hb hok ok hqE hLK
 generalize hnn:l.length=n at *
 have Hn:=hid hnn
 clear hnn
 generalize b.length=z at *
 go_enter Tryz.func69,Tryz.ntmps69
 go_wp2_with fail
 refine TA.out.mono ?_
 rintro e w1 ⟨u,rfl,hu,hx1⟩
 obtain ⟨ua,uc,rfl,_,_,_,huE⟩:=loads_at hu
 have HUE:=hid huE
 rw [hLL]
 clear hu huE
 go_wp2_with fail
 go_loopw [9,10,11,23] (fun s1 s2 s3 s4 wr=>∃ (q:Nat) (tm qu:Int) (is:Bool),s1=.int .i64 tm∧s2=.int .i64 qu∧s3=.bool is∧s4=.int .i64 q∧q≤n∧Hid (Best l b f q 0 tm qu is)∧Ext w1 wr) (fun _ _ _ s4 _=>n - (intOf s4).toNat)
 case atStart=>exact ⟨0,48,0,false,rfl,rfl,rfl,rfl,by omega,hid Best.start,Ext.rf _⟩
 case round =>
  obtain ⟨q,tm,qu,is,rfl,rfl,rfl,rfl,hq,HB,hx⟩:=hrel
  by_cases hqn:q < n
  ·have hqn':(q:Int) < (n:Int):=by omega
   obtain ⟨x,hxk⟩:=getA (f:=l) (k:=q) (by rw [Hn.out];exact hqn)
   obtain ⟨ub,uo,rfl,hub,hue⟩:=HUE.out (by rw [hLL];omega)
   obtain ⟨_,_,_,_,cv,c1,hcv⟩:=EQueue.mono w wr qb _ x (hx1.tr hx) (HQE.out q x hxk)
   obtain ⟨fv,c2,hfv⟩:=hue q _ (HLK.out q hqn)
   replace c2:=hx.ce' c2
   replace hfv:=hfv.mono hx
   have ecp:=(at_some hxk).2.2
   rw [← ecp] at hcv
   have Z1:=hid (ZL.out wr cv fv q hqn hcv hfv)
   obtain ⟨ca,cc,rfl,_,_,_⟩:=hcv.form
   obtain ⟨fa,fc,rfl,_,_,_⟩:=hfv.form
   have HX1:=hid hx1
   clear hcv hfv hxk ecp hue hx1
   generalize (cp l q).length=cn at *
   generalize (fold (takenT l b q)).length=fn at *
   go_wp2_with fail
   refine Z1.out.mono ?_
   rintro e w2 ⟨g,rfl,hg,_,hx2⟩
   obtain ⟨gb,go,gc,rfl,hgl,hgb,hgE⟩:=runs_some hg (fold_ne _)
   have HGE:=hid hgE
   have HX:=hid (hx.tr hx2)
   have C0:=hid (cut_zero (leftT l b q))
   have CE:=hid (cut_end (fold (leftT l b q)))
   have RC:=hid (fun k r=>run_cut (x:=leftT l b q) (k:=k) (r:=r))
   clear hg hgE hx hx2 c1 c2 Z1
   generalize hmm:(fold (leftT l b q)).length=m at *
   have Hm:=hid hmm
   clear hmm
   generalize wr=w0 at *
   go_wp2_with fail
   go_loopw [9,10,11,37] (fun s1 s2 s3 s4 wr=>∃ (k:Nat) (tm qu:Int) (is:Bool),s1=.int .i64 tm∧s2=.int .i64 qu∧s3=.bool is∧s4=.int .i64 k∧k≤m∧Hid (Best l b f q (cutAt (fold (leftT l b q)) k) tm qu is)∧Ext w2 wr) (fun _ _ _ s4 _=>m - (intOf s4).toNat)
   case atStart=>exact ⟨0,tm,qu,is,rfl,rfl,rfl,rfl,by omega,hid (by rw [C0.out];exact HB.out),Ext.rf _⟩
   case round =>
    clear HB
    obtain ⟨k,tm,qu,is,rfl,rfl,rfl,rfl,hk,HB,hx⟩:=hrel
    by_cases hlt:k < m
    ·have hlt':(k:Int) < (m:Int):=by omega
     obtain ⟨r,hr⟩:=getA (f:=fold (leftT l b q)) (k:=k) (by rw [Hm.out];exact hlt)
     obtain ⟨c1,c2,c3,c4⟩:=HGE.out k r hr
     replace c1:=hx.ce' c1
     replace c2:=hx.ce' c2
     obtain ⟨r1,r2,r3,r4,r5⟩:=RC.out k r hr
     have HR4:=hid r4
     generalize hc:cutAt (fold (leftT l b q)) k=c at *
     generalize he:cutAt (fold (leftT l b q)) (k+1)=e at *
     have HCE:=hid (And.intro hc he)
     rw [r1] at c1
     have hgw:gb < wr.heap.size:=Nat.lt_of_lt_of_le hgb hx.size
     have HLQ:=hid (show q < l.length by rw [Hn.out];exact hqn)
     clear r4 c3 c4 hc he
     by_cases hk1:k+1 < m
     ·have hk1':(k:Int)+1 < (m:Int):=by omega
      obtain ⟨r',hr'⟩:=getA (f:=fold (leftT l b q)) (k:=k+1) (by rw [Hm.out];exact hk1)
      obtain ⟨d1,_,_,_⟩:=HGE.out (k+1) r' hr'
      replace d1:=hx.ce' d1
      rw [r5 r' hr'] at d1
      clear r5 hr hr' r1
      by_cases hcf:c < f
      ·have hcf':(c:Int) < (f:Int):=by omega
       have HM:=hid (show max c f=f by omega)
       by_cases gN:r.N < 0
       ·by_cases ge:(f:Int) < (e:Int)
        ·by_cases gt:(f:Int) < tm
         ·have HN:=hid (show Best l b f q e (f:Int) (q:Int) true from (by have h:=HB.out.new HLQ.out r2 (by have:=HM.out;omega) (by have:=HM.out;omega) (fun t h1 h2=>by rw [HR4.out t h1 h2];exact gN);rw [HM.out] at h;exact h))
          rw [← HCE.out.2] at HN
          clear HR4 HLQ
          go_wp2_with fail
          go_roundw
          case rel=>exact ⟨k+1,(f:Int),(q:Int),true,rfl,rfl,rfl,by go_num,by omega,HN,hx.al _⟩
          case measure=>simp [intOf];omega
         ·have HN:=hid (show Best l b f q e tm qu is from HB.out.late r2 (by have:=HM.out;omega) (by have:=HM.out;omega))
          rw [← HCE.out.2] at HN
          clear HR4 HLQ
          go_wp2_with fail
          go_roundw
          case rel=>exact ⟨k+1,tm,qu,is,rfl,rfl,rfl,by go_num,by omega,HN,hx.al _⟩
          case measure=>simp [intOf];omega
        ·have HN:=hid (show Best l b f q e tm qu is from HB.out.keep (fun t h1 h2 h3=>by omega))
         rw [← HCE.out.2] at HN
         clear HR4 HLQ
         go_wp2_with fail
         go_roundw
         case rel=>exact ⟨k+1,tm,qu,is,rfl,rfl,rfl,by go_num,by omega,HN,hx.al _⟩
         case measure=>simp [intOf];omega
       ·have HN:=hid (show Best l b f q e tm qu is from HB.out.keep (fun t h1 h2 h3=>by rw [HR4.out t h1 h2];omega))
        rw [← HCE.out.2] at HN
        clear HR4 HLQ
        go_wp2_with fail
        go_roundw
        case rel=>exact ⟨k+1,tm,qu,is,rfl,rfl,rfl,by go_num,by omega,HN,hx.al _⟩
        case measure=>simp [intOf];omega
      ·have hcf':¬ (c:Int) < (f:Int):=by omega
       have HM:=hid (show max c f=c by omega)
       by_cases gN:r.N < 0
       ·by_cases ge:(c:Int) < (e:Int)
        ·by_cases gt:(c:Int) < tm
         ·have HN:=hid (show Best l b f q e (c:Int) (q:Int) true from (by have h:=HB.out.new HLQ.out r2 (by have:=HM.out;omega) (by have:=HM.out;omega) (fun t h1 h2=>by rw [HR4.out t h1 h2];exact gN);rw [HM.out] at h;exact h))
          rw [← HCE.out.2] at HN
          clear HR4 HLQ
          go_wp2_with fail
          go_roundw
          case rel=>exact ⟨k+1,(c:Int),(q:Int),true,rfl,rfl,rfl,by go_num,by omega,HN,hx.al _⟩
          case measure=>simp [intOf];omega
         ·have HN:=hid (show Best l b f q e tm qu is from HB.out.late r2 (by have:=HM.out;omega) (by have:=HM.out;omega))
          rw [← HCE.out.2] at HN
          clear HR4 HLQ
          go_wp2_with fail
          go_roundw
          case rel=>exact ⟨k+1,tm,qu,is,rfl,rfl,rfl,by go_num,by omega,HN,hx.al _⟩
          case measure=>simp [intOf];omega
        ·exact absurd (by omega) ge
       ·have HN:=hid (show Best l b f q e tm qu is from HB.out.keep (fun t h1 h2 h3=>by rw [HR4.out t h1 h2];omega))
        rw [← HCE.out.2] at HN
        clear HR4 HLQ
        go_wp2_with fail
        go_roundw
        case rel=>exact ⟨k+1,tm,qu,is,rfl,rfl,rfl,by go_num,by omega,HN,hx.al _⟩
        case measure=>simp [intOf];omega
     ·have hk1':¬ (k:Int)+1 < (m:Int):=by omega
      obtain rfl:e=48:=by
       have h1:=HCE.out.2
       have h2:k+1=m:=by omega
       rw [h2,CE.out] at h1
       exact h1.symm
      clear r5 hr r1
      by_cases hcf:c < f
      ·have hcf':(c:Int) < (f:Int):=by omega
       have HM:=hid (show max c f=f by omega)
       by_cases gN:r.N < 0
       ·by_cases ge:(f:Int) < 48
        ·by_cases gt:(f:Int) < tm
         ·have HN:=hid (show Best l b f q 48 (f:Int) (q:Int) true from (by have h:=HB.out.new HLQ.out r2 (by have:=HM.out;omega) (by have:=HM.out;omega) (fun t h1 h2=>by rw [HR4.out t h1 h2];exact gN);rw [HM.out] at h;exact h))
          rw [← HCE.out.2] at HN
          clear HR4 HLQ
          go_wp2_with fail
          go_roundw
          case rel=>exact ⟨k+1,(f:Int),(q:Int),true,rfl,rfl,rfl,by go_num,by omega,HN,hx.al _⟩
          case measure=>simp [intOf];omega
         ·have HN:=hid (show Best l b f q 48 tm qu is from HB.out.late r2 (by have:=HM.out;omega) (by have:=HM.out;omega))
          rw [← HCE.out.2] at HN
          clear HR4 HLQ
          go_wp2_with fail
          go_roundw
          case rel=>exact ⟨k+1,tm,qu,is,rfl,rfl,rfl,by go_num,by omega,HN,hx.al _⟩
          case measure=>simp [intOf];omega
        ·have HN:=hid (show Best l b f q 48 tm qu is from HB.out.keep (fun t h1 h2 h3=>by omega))
         rw [← HCE.out.2] at HN
         clear HR4 HLQ
         go_wp2_with fail
         go_roundw
         case rel=>exact ⟨k+1,tm,qu,is,rfl,rfl,rfl,by go_num,by omega,HN,hx.al _⟩
         case measure=>simp [intOf];omega
       ·have HN:=hid (show Best l b f q 48 tm qu is from HB.out.keep (fun t h1 h2 h3=>by rw [HR4.out t h1 h2];omega))
        rw [← HCE.out.2] at HN
        clear HR4 HLQ
        go_wp2_with fail
        go_roundw
        case rel=>exact ⟨k+1,tm,qu,is,rfl,rfl,rfl,by go_num,by omega,HN,hx.al _⟩
        case measure=>simp [intOf];omega
      ·have hcf':¬ (c:Int) < (f:Int):=by omega
       have HM:=hid (show max c f=c by omega)
       by_cases gN:r.N < 0
       ·by_cases ge:(c:Int) < 48
        ·by_cases gt:(c:Int) < tm
         ·have HN:=hid (show Best l b f q 48 (c:Int) (q:Int) true from (by have h:=HB.out.new HLQ.out r2 (by have:=HM.out;omega) (by have:=HM.out;omega) (fun t h1 h2=>by rw [HR4.out t h1 h2];exact gN);rw [HM.out] at h;exact h))
          rw [← HCE.out.2] at HN
          clear HR4 HLQ
          go_wp2_with fail
          go_roundw
          case rel=>exact ⟨k+1,(c:Int),(q:Int),true,rfl,rfl,rfl,by go_num,by omega,HN,hx.al _⟩
          case measure=>simp [intOf];omega
         ·have HN:=hid (show Best l b f q 48 tm qu is from HB.out.late r2 (by have:=HM.out;omega) (by have:=HM.out;omega))
          rw [← HCE.out.2] at HN
          clear HR4 HLQ
          go_wp2_with fail
          go_roundw
          case rel=>exact ⟨k+1,tm,qu,is,rfl,rfl,rfl,by go_num,by omega,HN,hx.al _⟩
          case measure=>simp [intOf];omega
        ·exact absurd (by omega) ge
       ·have HN:=hid (show Best l b f q 48 tm qu is from HB.out.keep (fun t h1 h2 h3=>by rw [HR4.out t h1 h2];omega))
        rw [← HCE.out.2] at HN
        clear HR4 HLQ
        go_wp2_with fail
        go_roundw
        case rel=>exact ⟨k+1,tm,qu,is,rfl,rfl,rfl,by go_num,by omega,HN,hx.al _⟩
        case measure=>simp [intOf];omega
    ·obtain rfl:k=m:=by omega
     have hlt':¬ (k:Int) < (k:Int):=by omega
     have HB':=hid (show Best l b f (q+1) 0 tm qu is from Best.next (by have:=HB.out;rw [CE.out] at this;exact this))
     go_wp2_with fail
     go_roundw
     case rel=>exact ⟨q+1,tm,qu,is,rfl,rfl,rfl,by go_num,by omega,HB',HX.out.tr hx⟩
     case measure=>simp [intOf];omega
  ·obtain rfl:q=n:=by omega
   have hqn':¬ (q:Int) < (q:Int):=by omega
   cases is with
   | false =>
    have HR:=hid (BF.out tm qu HB.out)
    go_wp2_with fail
    go_ret3
    exact retToo_of HR.out (hx1.tr hx)
   | true =>
    have HR:=hid (BD.out tm qu HB.out)
    go_wp2_with fail
    go_ret3
    exact retToo_of HR.out (hx1.tr hx)
end Go.Proofs.YtdcndkojmflhnaaGreat
