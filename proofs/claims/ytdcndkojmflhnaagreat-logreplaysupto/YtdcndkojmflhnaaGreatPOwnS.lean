/- A region whose last op writes a cell; the owned state; each theorem names its own conditions. -/
import Derived.WalkKit
import Derived.Deep.RegionHeld3
import Derived.Test.YtdcndkojmflhnaaGreatPOwn
/- A region that draws its order: loads are taken first under a condition S on the world, and the LAST operation (a store into a cell that S names) need not keep S. -/
set_option linter.unusedVariables false
set_option maxRecDepth 100000
set_option maxHeartbeats 8000000
set_option linter.unusedSimpArgs false
set_option linter.unusedVariables false
namespace Go.Proofs.YtdcndkojmflhnaaGreat
open Go.RowKit
open List renaming getElem_toArray→zA,getElem_cons_zero→zB,getElem_cons_succ→zC,setIfInBounds_toArray→zD,set_cons_zero→zE,set_cons_succ→zF
section
variable {P:Program} {ops:Array Oper} {Q:Exit→Act→World→Prop} {md:Region.Mode} {S:World→Prop} {t:Nat}
inductive Leads (md:Region.Mode) (ops:Array Oper) (listed:Array Bool) (i:Nat):Nat→Prop
 | one {k:Nat} {o:Oper} (ho:ops[k]?=some o) (h:∃ e∈o.after,Region.binds md e=true∧e.on=i):Leads md ops listed i k
 | more {k j:Nat} {o:Oper} (ho:ops[k]?=some o) (h:∃ e∈o.after,Region.binds md e=true∧e.on=j) (hu:listed.getD j true=false) (hl:Leads md ops listed i j):Leads md ops listed i k
def leadsB (md:Region.Mode) (ops:Array Oper) (listed:Array Bool) (i:Nat):Nat→Nat→Bool
 | 0,_=>false
 | fuel+1,k=>match ops[k]? with
  | none=>false
  | some o=>o.after.toList.any fun e=>Region.binds md e && (e.on == i || (!(listed.getD e.on true) && leadsB md ops listed i fuel e.on))
theorem leads_of {listed:Array Bool} {i:Nat}:∀ (fuel k:Nat),leadsB md ops listed i fuel k=true→Leads md ops listed i k
 | 0,_,h=>by cases h
 | fuel+1,k,h=>by
  unfold leadsB at h
  cases ho:ops[k]? with
  | none=>rw [ho] at h;cases h
  | some o =>
   rw [ho] at h
   obtain ⟨e,he,h2⟩:=List.any_eq_true.1 h
   simp only [Bool.and_eq_true,Bool.or_eq_true,beq_iff_eq,Bool.not_eq_true'] at h2
   obtain ⟨hb,h3⟩:=h2
   have he':e∈o.after:=by simpa using he
   rcases h3 with h3 | ⟨h3,h4⟩
   ·exact .one ho ⟨e,he',hb,h3⟩
   ·exact .more ho ⟨e,he',hb,rfl⟩ h3 (leads_of fuel e.on h4)
theorem unlisted_not {listed:Array Bool} {i:Nat} (h0:listed.getD i true=false) (h1:listed.getD i false=true):False:=by
 rcases Nat.lt_or_ge i listed.size with h' | h'
 ·simp [h'] at h0 h1;rw [h0] at h1;cases h1
 ·simp [Array.getElem?_eq_none h'] at h1
theorem Leads.not_ready {listed:Array Bool} {i k:Nat} (h:Leads md ops listed i k) (hi:listed.getD i true=false):k ∉ Region.ready md ops listed:=by
 intro hk
 obtain ⟨_,o,ho,hall⟩:=mem_ready.1 hk
 cases h with
 | one ho' h =>
  rw [ho] at ho'
  cases ho'
  obtain ⟨e,he,hb,rfl⟩:=h
  exact unlisted_not hi (hall e he hb)
 | more ho' h hu hl =>
  rw [ho] at ho'
  cases ho'
  obtain ⟨e,he,hb,rfl⟩:=h
  exact unlisted_not hu (hall e he hb)
theorem Leads.set {listed:Array Bool} {i k j:Nat} (h:Leads md ops listed i k) (hi:listed.getD i true=false) (hj:j∈Region.ready md ops listed):Leads md ops (listed.setIfInBounds j true) i k:=by
 induction h with
 | one ho h=>exact .one ho h
 | @more k m o ho h hu hl ih =>
  refine .more ho h ?_ ih
  rw [getD_set_ne true (fun e=>hl.not_ready hi (by rw [← e];exact hj))]
  exact hu
def wpAnyT (P:Program) (md:Region.Mode) (ops:Array Oper) (Q:Exit→Act→World→Prop) (S:World→Prop) (t:Nat):Nat→Array Bool→Act→World→Prop
 | 0,listed,a,w=>Region.ready md ops listed=[]∧Q .normal a w
 | fuel+1,listed,a,w =>
  (Region.ready md ops listed=[]→Q .normal a w) ∧
  ∀ i∈Region.ready md ops listed,wpOp P ops Q i (fun a' w'=>(i≠t→S w')∧wpAnyT P md ops Q S t fuel (listed.setIfInBounds i true) a' w') a w
theorem wpAny_of_tail:∀ (fuel:Nat) (listed:Array Bool) (a:Act) (w:World),wpAnyT P md ops Q S t fuel listed a w→wpAny P md ops Q fuel listed a w
 | 0,_,_,_,h=>h
 | fuel+1,_,_,_,h=>⟨h.1,fun i hi=>wpOp_mono (fun a' w' h'=>wpAny_of_tail fuel _ a' w' h'.2) (h.2 i hi)⟩
theorem wpAnyT_first {i:Nat} {oi:Oper} {v:Value} (hi:ops[i]?=some oi) (hsel:∀ (j:Nat) (o:Oper) cs b,ops[j]?=some o→o.op≠.select cs b)
  (hQ:∀ c a w,Q (.panic c) (a.put oi.dst v) w→Q (.panic c) a w) :
  ∀ (fuel:Nat) (listed:Array Bool) (a:Act) (w:World),
   (∀ j oj,ops[j]?=some oj→j≠i→listed.getD j true=false→(∀ e∈oj.after,Region.binds md e=true→e.on≠i)→oi.apart ops oj=true) →
   i∈Region.ready md ops listed→Leads md ops listed i t→YieldsIf P ops S oi v a→S w →
   wpAnyT P md ops Q S t fuel (listed.setIfInBounds i true) (a.put oi.dst v) w→wpAnyT P md ops Q S t (fuel+1) listed a w:=by
 intro fuel
 induction fuel with
 | zero =>
  intro listed a w _ hr hl hy hS H
  refine ⟨fun h=>(by rw [h] at hr;cases hr),fun j hj=>?_⟩
  by_cases hji:j=i
  ·subst hji;exact hy.wpOp hi hS ⟨fun _=>hS,H⟩
  ·have:=ready_mono hj hji
   rw [H.1] at this
   cases this
 | succ fuel ih =>
  intro listed a w hfree hr hl hy hS H
  refine ⟨fun h=>(by rw [h] at hr;cases hr),fun j hj=>?_⟩
  by_cases hji:j=i
  ·subst hji;exact hy.wpOp hi hS ⟨fun _=>hS,H⟩
  ·have h1:=H.2 j (ready_mono hj hji)
   have hun:=(mem_ready.1 hr).1
   obtain ⟨hjun,oj,hoj,hall⟩:=mem_ready.1 hj
   have hjt:j≠t:=fun e=>hl.not_ready hun (e▸hj)
   have hnot:∀ e∈oj.after,Region.binds md e=true→e.on≠i:=fun e he hb heq=>unlisted_not hun (heq▸hall e he hb)
   have h2:=wpOp_putIf hoj (hfree j oj hoj hji hjun hnot) (fun cs b=>hsel i oi cs b hi) (fun cs b=>hsel j oj cs b hoj) hQ hy h1
   have hfree':∀ k ok,ops[k]?=some ok→k≠i→(listed.setIfInBounds j true).getD k true=false →
     (∀ e∈ok.after,Region.binds md e=true→e.on≠i)→oi.apart ops ok=true:=fun k ok hk hki hku hno=>by
    refine hfree k ok hk hki ?_ hno
    by_cases hjk:j=k
    ·subst hjk;exact hjun
    ·rw [getD_set_ne true hjk] at hku;exact hku
   refine wpOp_mono (fun a' w' h3=>⟨h3.2.1,ih (listed.setIfInBounds j true) a' w' hfree' (ready_mono hr (Ne.symm hji)) (hl.set hun hj) h3.1 (h3.2.1 hjt) ?_⟩) h2
   rw [Array.setIfInBounds_comm _ _ hji]
   exact h3.2.2
theorem wpAnyT_take {i:Nat} {oi:Oper} {v:Value} {fuel:Nat} {listed:Array Bool} {a:Act} {w:World} (hi:ops[i]?=some oi)
  (hs:(Region.noSelect ops && Region.free md ops listed i && (Region.ready md ops listed).contains i && leadsB md ops listed i ops.size t)=true)
  (hQ:∀ c a w,Q (.panic c) (a.put oi.dst v) w→Q (.panic c) a w) (hy:YieldsIf P ops S oi v a) (hS:S w)
  (h:wpAnyT P md ops Q S t fuel (listed.setIfInBounds i true) (a.put oi.dst v) w):wpAnyT P md ops Q S t (fuel+1) listed a w:=by
 simp only [Bool.and_eq_true] at hs
 obtain ⟨⟨⟨h1,h2⟩,h3⟩,h4⟩:=hs
 exact wpAnyT_first hi (Region.noSelect_spec h1) hQ fuel listed a w (Region.free_spec hi h2) (by simpa using h3) (leads_of _ _ h4) hy hS h
theorem wpAnyT_done {listed:Array Bool} {a:Act} {w:World} (hr:Region.ready md ops listed=[]) (h:Q .normal a w) :
  ∀ fuel,wpAnyT P md ops Q S t fuel listed a w
 | 0=>⟨hr,h⟩
 | _+1=>⟨fun _=>h,by rw [hr];simp⟩
theorem wpAnyT_go {i:Nat} {o:Oper} {fuel:Nat} {listed:Array Bool} {a:Act} {w:World} (hr:Region.ready md ops listed=[i]) (ho:ops[i]?=some o)
  (h:∀ K':Act→World→Prop,Shut (∀ a w,S w→(S w→wpAnyT P md ops Q S t fuel (listed.setIfInBounds i true) a w)→K' a w)→if Region.wanted o (yielded ops a.tmps)=true then Oper.wp P o a w K' Q else K' (a.put o.dst undef) w) :
  wpAnyT P md ops Q S t (fuel+1) listed a w :=
 ⟨fun h0=>(by rw [hr] at h0;cases h0),fun j hj=>by
  rw [hr] at hj
  obtain rfl:=List.mem_singleton.1 hj
  exact wpOp_step ho (fun K' hK=>h K' (fun a w hS hW=>hK a w ⟨fun _=>hS,hW hS⟩))⟩
theorem wpAnyT_last {o:Oper} {fuel:Nat} {listed:Array Bool} {a:Act} {w:World} (hr:Region.ready md ops listed=[t]) (ho:ops[t]?=some o) (hd:Region.ready md ops (listed.setIfInBounds t true)=[])
  (h:∀ K':Act→World→Prop,Shut (∀ a w,Q .normal a w→K' a w)→if Region.wanted o (yielded ops a.tmps)=true then Oper.wp P o a w K' Q else K' (a.put o.dst undef) w) :
  wpAnyT P md ops Q S t (fuel+1) listed a w :=
 ⟨fun h0=>(by rw [hr] at h0;cases h0),fun j hj=>by
  rw [hr] at hj
  obtain rfl:=List.mem_singleton.1 hj
  exact wpOp_step ho (fun K' hK=>h K' (fun a w hW=>hK a w ⟨fun h=>absurd rfl h,wpAnyT_done hd hW _⟩))⟩
theorem wp_region_tail {id:Nat} {a:Act} {w:World} (t:Nat) (S:World→Prop) (hm:P.follows .mixedOrders=true) (hS:S w.drew)
  (h:S w.drew→wpAnyT P .any ops Q S t ops.size (Array.replicate ops.size false) a w.drew):(Code.region id ops true).wp P Q a w :=
 wp_region_any hm (wpAny_of_tail _ _ _ _ (h hS))
end
theorem ownsRow_low {W:World} {base b2 e sz n:Nat} {v:Value} {xs:List Value} (h:W.ownsRow base e sz v n xs) (hb:b2≤base):W.ownsRow b2 e sz v n xs:=by
 obtain ⟨h1,h2⟩:=h
 refine ⟨h1,?_⟩
 rcases h2 with h2 | ⟨g,cap,cur,hv,hg,r⟩
 ·exact .inl h2
 ·exact .inr ⟨g,cap,cur,hv,Nat.le_trans hb hg,r⟩
theorem OwnB.low {bs:List Nat} {base b2:Nat} {W:World} {v:Value} {b:List Book} (h:OwnB bs base W v b) (hb:b2≤base):OwnB bs b2 W v b:=by
 obtain ⟨css,h1,h2,h3,h4⟩:=h
 exact ⟨css,ownsRow_low h1 hb,h2,h3,h4⟩
theorem OwnB.sub {bs cs:List Nat} {base:Nat} {W:World} {v:Value} {b:List Book} (h:OwnB bs base W v b) (hs:∀ r∈cs,r∈bs):OwnB cs base W v b:=by
 obtain ⟨css,h1,h2,h3,h4⟩:=h
 exact ⟨css,h1,h2,fun ds hd u hu a n c e hm=>h3 ds hd u hu a n c e (hs _ hm),h4⟩
theorem OwnB.fresh {bs cs:List Nat} {base B:Nat} {W:World} {v:Value} {b:List Book} (h:OwnB bs base W v b) (hn:∀ r,v.ownBlock=some r→NewIn 7 5 b.length B W r∧NewIn 7 6 b.length B W r) (hc:∀ r∈cs,r < B):OwnB cs base W v b:=by
 obtain ⟨css,h1,h2,h3,h4⟩:=h
 refine ⟨css,h1,h2,fun ds hd u hu a n c e hm=>?_,h4⟩
 obtain ⟨k,hk⟩:=List.mem_iff_getElem?.1 hd
 have hkl:=(List.getElem?_eq_some_iff.1 hk).1
 obtain ⟨x,hx⟩:=getA (f:=b) (k:=k) (by rw [← h2.len];exact hkl)
 have hl:=h2.len
 rcases h1.2 with ⟨_,h0⟩ | ⟨g,cap,cur,hv,_⟩
 ·omega
 ·obtain ⟨n5,n6⟩:=hn g (by rw [hv];rfl)
  subst hv
  obtain ⟨qs,bv,rfl,⟨pv,rfl,hp,_⟩,hb,_⟩:=h2.each k ds x hk hx
  have get:∀ j w,j < 7→([.int .i64 x.Id,.int .i64 x.Req.Queue,.int .i64 x.Req.From,.int .i64 x.Req.Until,.int .i64 x.Req.Kind,pv,bv]:List Value)[j]?=some w→W.cell? ⟨g,k*7+j,none⟩=some w:=fun j w hj hw=>by
   have e:css.flatten[k*7+j]?=some w:=by rw [flat7 css h2.seven k j hj,hk];exact hw
   have:=h1.cells (g:=g) rfl (k*7+j) w e
   rw [addr_add] at this
   rwa [Nat.zero_add] at this
  simp only [List.cons_append,List.nil_append,List.mem_cons,List.not_mem_nil,or_false] at hu
  rcases hu with rfl | rfl | rfl | rfl | rfl | rfl | rfl
  ·cases e
  ·cases e
  ·cases e
  ·cases e
  ·cases e
  ·subst e
   have:=n5.2 k (by omega) a n c (get 5 _ (by omega) rfl)
   have:=hc _ hm
   omega
  ·subst e
   have:=n6.2 k (by omega) a n c (get 6 _ (by omega) rfl)
   have:=hc _ hm
   omega
theorem QRow.fresh {bs cs:List Nat} {W:World} {g B:Nat} {l:List Queue} (h:QRow bs W g l) (hn:NewIn 3 2 l.length B W g) (hc:∀ r∈cs,r < B):QRow (bs++cs) W g l:=by
 obtain ⟨vs,h1,h2⟩:=h
 refine ⟨vs,h1,fun j x hj=>?_⟩
 obtain ⟨a,b,c,d,cv,e,f,i⟩:=h2 j x hj
 refine ⟨a,b,c,d,cv,e,f,fun ad n m he hm=>?_⟩
 rcases List.mem_cons.1 hm with h | h
 ·exact i ad n m he (by rw [h];exact List.mem_cons_self ..)
 ·rcases List.mem_append.1 h with h | h
  ·exact i ad n m he (List.mem_cons_of_mem _ h)
  ·subst he
   have:=hn.2 j (List.getElem?_eq_some_iff.1 hj).1 ad n m (h1.cell e)
   have:=hc _ h
   omega
def OwnS (ex:List Nat) (B:Nat) (W:World) (u v:Value) (l:List Queue) (b:List Book):Prop :=
 ∃ g cap,u=.slice (some ⟨g,0,none⟩) l.length cap∧l.length≤cap∧cap≤9223372036854775807∧l.length≤5∧b.length≤12∧B≤g∧g < W.heap.size∧g ∉ ex∧LiveB b∧(∀ x∈l,x.Cap≠[]) ∧
  OwnB (g::(ex++List.range B)) B W v b∧(∀ r,v.ownBlock=some r→g≠r∧r ∉ ex)∧QRow (v.ownBlock.toList++(ex++List.range B)) W g l
theorem OwnS.tree {ex:List Nat} {B:Nat} {W:World} {u v:Value} {l:List Queue} {b:List Book} (h:OwnS ex B W u v l b):QueuesV W u l:=by
 obtain ⟨g,cap,rfl,h1,h2,h5,_,_,_,_,_,_,_,_,hq⟩:=h
 exact hq.v h1 h2 h5
theorem OwnS.books {ex:List Nat} {B:Nat} {W:World} {u v:Value} {l:List Queue} {b:List Book} (h:OwnS ex B W u v l b):BooksV W v b:=by
 obtain ⟨g,cap,rfl,h1,h2,h5,h12,_,_,_,_,_,ho,_,hq⟩:=h
 exact ho.v h12
theorem OwnS.ext {ex:List Nat} {B:Nat} {W W':World} {u v:Value} {l:List Queue} {b:List Book} (h:OwnS ex B W u v l b) (hx:Ext W W'):OwnS ex B W' u v l b:=by
 obtain ⟨g,cap,rfl,h1,h2,h5,h12,hg,hs,he,hl,hc,ho,hne,hq⟩:=h
 exact ⟨g,cap,rfl,h1,h2,h5,h12,hg,Nat.lt_of_lt_of_le hs hx.size,he,hl,hc,ho.ext hx,hne,hq.ext hx⟩
theorem range_lt {B r:Nat} (h:r∈List.range B):r < B:=List.mem_range.1 h
theorem OwnS.low {ex ex2:List Nat} {B B2:Nat} {W:World} {u v:Value} {l:List Queue} {b:List Book} (h:OwnS ex B W u v l b) (hb:B2≤B) (he2:∀ r∈ex2,r∈ex):OwnS ex2 B2 W u v l b:=by
 obtain ⟨g,cap,rfl,h1,h2,h5,h12,hg,hs,he,hl,hc,ho,hne,hq⟩:=h
 have sub:∀ r,r∈ex2++List.range B2→r∈ex++List.range B:=fun r hr=>by
  rcases List.mem_append.1 hr with h | h
  ·exact List.mem_append_left _ (he2 r h)
  ·exact List.mem_append_right _ (List.mem_range.2 (by have:=range_lt h;omega))
 refine ⟨g,cap,rfl,h1,h2,h5,h12,by omega,hs,fun h=>he (he2 _ h),hl,hc,(ho.low hb).sub (fun r hr=>?_),fun r hr=>⟨(hne r hr).1,fun h=>(hne r hr).2 (he2 _ h)⟩,hq.less (fun r hr=>?_)⟩
 ·rcases List.mem_cons.1 hr with h | h
  ·rw [h];exact List.mem_cons_self ..
  ·exact List.mem_cons_of_mem _ (sub r h)
 ·rcases List.mem_append.1 hr with h | h
  ·exact List.mem_append_left _ h
  ·exact List.mem_append_right _ (sub r h)
theorem OwnS.uform {ex:List Nat} {B:Nat} {W:World} {u v:Value} {l:List Queue} {b:List Book} (h:OwnS ex B W u v l b):∃ g cap,u=.slice (some ⟨g,0,none⟩) l.length cap∧B≤g∧g < W.heap.size:=by
 obtain ⟨g,cap,rfl,h1,h2,h5,h12,hg,hs,_⟩:=h
 exact ⟨g,cap,rfl,hg,hs⟩
theorem OwnS.vform {ex:List Nat} {B:Nat} {W:World} {u v:Value} {l:List Queue} {b:List Book} (h:OwnS ex B W u v l b):∃ a cap,v=.slice a b.length cap∧∀ r,v.ownBlock=some r→B≤r∧r < W.heap.size:=by
 obtain ⟨g,cap,rfl,h1,h2,h5,h12,hg,hs,he,hl,hc,⟨css,o1,_⟩,_⟩:=h
 rcases o1.2 with ⟨hv,h0⟩ | ⟨gb,cb,_,hv,_⟩
 ·exact ⟨none,0,by rw [hv,h0],fun r hr=>o1.lt r hr⟩
 ·exact ⟨_,cb,hv,fun r hr=>o1.lt r hr⟩
theorem OwnS.vsome {ex:List Nat} {B:Nat} {W:World} {u v:Value} {l:List Queue} {b:List Book} (h:OwnS ex B W u v l b) (h1:1≤b.length):∃ g cap,v=.slice (some ⟨g,0,none⟩) b.length cap∧B≤g∧g < W.heap.size:=by
 obtain ⟨g,cap,rfl,_,h2,h5,h12,hg,hs,he,hl,hc,⟨css,o1,_⟩,_⟩:=h
 rcases o1.2 with ⟨hv,h0⟩ | ⟨gb,cb,_,hv,_⟩
 ·omega
 ·exact ⟨gb,cb,hv,o1.lt gb (by rw [hv];rfl)⟩
theorem OwnS.vne {ex:List Nat} {B:Nat} {W:World} {u v:Value} {l:List Queue} {b:List Book} (h:OwnS ex B W u v l b):∀ r,v.ownBlock=some r→∀ k∈ex,r≠k:=by
 obtain ⟨g,cap,rfl,h1,h2,h5,h12,hg,hs,he,hl,hc,ho,hne,hq⟩:=h
 exact fun r hr k hk e=>(hne r hr).2 (e▸hk)
theorem OwnB.low_all {bs:List Nat} {base:Nat} {W:World} {v:Value} {b:List Book} (h:OwnB bs base W v b) (hl:LiveB b) {r:Nat} (hr:W.heap.size≤r):OwnB (r::bs) base W v b:=by
 obtain ⟨css,h1,h2,h3,h4⟩:=h
 refine ⟨css,h1,h2,fun ds hd u hu a n c e hm=>?_,h4⟩
 rcases List.mem_cons.1 hm with h | h
 ·have:=cells7_low h2 (fun x hx=>(hl x hx).1) ds hd u hu a n c e
  omega
 ·exact h3 ds hd u hu a n c e h
theorem OwnS.box {ex:List Nat} {B r:Nat} {W:World} {u v:Value} {l:List Queue} {b:List Book} (h:OwnS ex B W u v l b) (hr:W.heap.size≤r):OwnS (r::ex) B W u v l b:=by
 obtain ⟨g,cap,rfl,h1,h2,h5,h12,hg,hs,he,hl,hc,ho,hne,hq⟩:=h
 have hvr:∀ k,v.ownBlock=some k→k < W.heap.size:=fun k hk=>by
  obtain ⟨css,o1,_⟩:=ho
  exact (o1.lt k hk).2
 refine ⟨g,cap,rfl,h1,h2,h5,h12,hg,hs,fun h=>?_,hl,hc,(ho.low_all hl hr).sub (fun k hk=>?_),fun k hk=>⟨(hne k hk).1,fun h=>?_⟩,(hq.more hc hr).less (fun k hk=>?_)⟩
 ·rcases List.mem_cons.1 h with h | h
  ·omega
  ·exact he h
 ·rcases List.mem_cons.1 hk with h | h
  ·rw [h];exact List.mem_cons_of_mem _ (List.mem_cons_self ..)
  ·rcases List.mem_cons.1 h with h | h
   ·rw [h];exact List.mem_cons_self ..
   ·exact List.mem_cons_of_mem _ (List.mem_cons_of_mem _ h)
 ·rcases List.mem_cons.1 h with h | h
  ·have:=hvr k hk;omega
  ·exact (hne k hk).2 h
 ·rcases List.mem_append.1 hk with h | h
  ·exact List.mem_cons_of_mem _ (List.mem_append_left _ h)
  ·rcases List.mem_cons.1 h with h | h
   ·rw [h];exact List.mem_cons_self ..
   ·exact List.mem_cons_of_mem _ (List.mem_append_right _ h)
theorem OwnS.under {ex:List Nat} {B r:Nat} {W:World} {u v:Value} {l:List Queue} {b:List Book} (h:OwnS ex B W u v l b) (hr:r < B):OwnS (r::ex) B W u v l b:=by
 obtain ⟨g,cap,rfl,h1,h2,h5,h12,hg,hs,he,hl,hc,ho,hne,hq⟩:=h
 have hvr:∀ k,v.ownBlock=some k→B≤k:=fun k hk=>by
  obtain ⟨css,o1,_⟩:=ho
  exact (o1.lt k hk).1
 have sub:∀ k,k∈r::ex++List.range B→k∈ex++List.range B:=fun k hk=>by
  rcases List.mem_cons.1 hk with h | h
  ·exact List.mem_append_right _ (List.mem_range.2 (by omega))
  ·exact h
 refine ⟨g,cap,rfl,h1,h2,h5,h12,hg,hs,fun h=>?_,hl,hc,ho.sub (fun k hk=>?_),fun k hk=>⟨(hne k hk).1,fun h=>?_⟩,hq.less (fun k hk=>?_)⟩
 ·rcases List.mem_cons.1 h with h | h
  ·omega
  ·exact he h
 ·rcases List.mem_cons.1 hk with h | h
  ·rw [h];exact List.mem_cons_self ..
  ·exact List.mem_cons_of_mem _ (sub k h)
 ·rcases List.mem_cons.1 h with h | h
  ·have:=hvr k hk;omega
  ·exact (hne k hk).2 h
 ·rcases List.mem_append.1 hk with h | h
  ·exact List.mem_append_left _ h
  ·exact List.mem_append_right _ (sub k h)
theorem OwnB.keptR {bs:List Nat} {base r:Nat} {W W':World} {v:Value} {b:List Book} (h:OwnB bs base W v b) (hg:W.grownBy W' (some r)) (hr:r∈bs) (hv:∀ k,v.ownBlock=some k→k≠r):OwnB bs base W' v b:=by
 obtain ⟨css,h1,h2,h3,h4⟩:=h
 refine ⟨css,?_,cells7_grown h2 hg (fun cs hc u hu a n c e hm=>h3 cs hc u hu a n c e (by rw [List.mem_singleton.1 hm];exact hr)),h3,h4⟩
 obtain ⟨q1,q2⟩:=h1
 refine ⟨q1,?_⟩
 rcases q2 with q2 | ⟨g,cap,cur,e,hb,hc,q⟩
 ·exact .inl q2
 ·exact .inr ⟨g,cap,cur,e,hb,by rw [hg.block g (Array.getElem?_eq_some_iff.1 hc).1 (fun e2=>hv g (by rw [e];rfl) (Option.some.inj e2))];exact hc,q⟩
theorem OwnS.kept {ex:List Nat} {B r:Nat} {W W':World} {u v:Value} {l:List Queue} {b:List Book} (h:OwnS ex B W u v l b) (hg:W.grownBy W' (some r)) (hr:r∈ex):OwnS ex B W' u v l b:=by
 obtain ⟨g,cap,rfl,h1,h2,h5,h12,hgB,hs,he,hl,hc,ho,hne,hq⟩:=h
 exact ⟨g,cap,rfl,h1,h2,h5,h12,hgB,Nat.lt_of_lt_of_le hs hg.size,he,hl,hc,ho.keptR hg (List.mem_cons_of_mem _ (List.mem_append_left _ hr)) (fun k hk e=>(hne k hk).2 (e▸hr)),hne,hq.kept hg (List.mem_append_right _ (List.mem_append_left _ hr)) (fun e=>he (e▸hr))⟩
def StS (B:Nat) (W:World) (u v:Value) (s:State):Prop:=OwnS [] B W u v s.Tree s.Books∨(s.Tree=[]∧s.Books=[]∧u=.slice none 0 0∧v=.slice none 0 0)
theorem StS.tree {B:Nat} {W:World} {u v:Value} {s:State} (h:StS B W u v s):QueuesV W u s.Tree:=by
 rcases h with h | ⟨h1,_,rfl,_⟩
 ·exact h.tree
 ·rw [h1];exact SV.nil
theorem StS.books {B:Nat} {W:World} {u v:Value} {s:State} (h:StS B W u v s):BooksV W v s.Books:=by
 rcases h with h | ⟨_,h1,_,rfl⟩
 ·exact h.books
 ·rw [h1];exact SV.nil
theorem StS.ext {B:Nat} {W W':World} {u v:Value} {s:State} (h:StS B W u v s) (hx:Ext W W'):StS B W' u v s:=by
 rcases h with h | h
 ·exact .inl (h.ext hx)
 ·exact .inr h
theorem OwnS.st {ex:List Nat} {B B2:Nat} {W:World} {u v:Value} {s:State} (h:OwnS ex B W u v s.Tree s.Books) (hb:B2≤B):StS B2 W u v s:=.inl (h.low hb (fun r hr=>by cases hr))
theorem Own_S (w:World) (tv bv:Value) (s:State) (hl:QueuesV w tv s.Tree) (hb:BooksV w bv s.Books) (ok:TreeOk s.Tree) (h12:s.Books.length≤12) (hok:∀ x∈s.Books,BookOk s.Tree x) :
  Calls Tryz.prog 75 #[.agg #[.int .i64 s.Clock,.int .i64 s.Next,tv,bv]] w fun e w'=>∃ u v,e=.returned (.agg #[.int .i64 s.Clock,.int .i64 s.Next,u,v])∧OwnS [] w.heap.size w' u v s.Tree s.Books∧Ext w w':=by
 refine (Own_any w tv bv s hl hb ok h12 hok).mono ?_
 rintro e w' ⟨base,g,cap,va,vc,rfl,hc1,hc2,hg,hbs,hbw,hq,hr,ho,hgb,hnq,hx⟩
 refine ⟨_,_,rfl,⟨g,cap,rfl,hc1,hc2,ok.n5,h12,hg,by omega,by simp,liveB_of hok,treeOk_caps ok,(ho.fresh (fun r h=>(hr r h).2.2) (fun r h=>?_)).low hbs,fun r h=>⟨(hr r h).1,by simp⟩,?_⟩,hx⟩
 ·rcases List.mem_cons.1 h with h | h
  ·omega
  ·have:=range_lt (B:=w.heap.size) (by simpa using h);omega
 ·cases va with
  | none=>exact hq.fresh hnq (fun r h=>range_lt (by simpa using h))
  | some a=>exact (hr a.block rfl).2.1.fresh hnq (fun r h=>range_lt (by simpa using h))
theorem bookC_grownR {W W':World} {cs:List Value} {x:Book} {row:Option Nat} (h:BookC W cs x) (hg:W.grownBy W' row) (ha:∀ r,row=some r→∀ u∈cs,ApartL [r] u):BookC W' cs x:=by
 obtain ⟨qs,bv,rfl,⟨pv,rfl,hp,i1,i2,i3,i4⟩,hb,i5⟩:=h
 have ap:∀ u∈(.int .i64 x.Id::([.int .i64 x.Req.Queue,.int .i64 x.Req.From,.int .i64 x.Req.Until,.int .i64 x.Req.Kind,pv]++[bv]):List Value),ApartV u row:=fun u hu a n c e he=>ha a.block he.symm u hu a n c e (List.mem_singleton.2 rfl)
 exact ⟨_,bv,rfl,⟨pv,rfl,sv2_apart hp hg (ap _ (by simp)),i1,i2,i3,i4⟩,sv2_apart hb hg (ap _ (by simp)),i5⟩
theorem OwnB.snoc {bs:List Nat} {base g n cap:Nat} {W W':World} {v:Value} {b:List Book} {x:Book} {css:List (List Value)} {cs:List Value}
  (h1:W.ownsRow base 40 7 v b.length css.flatten) (h2:Cells7 W css b) (h3:ApartC bs css) (h4:∀ g,v.ownBlock=some g→ApartC [g] css) (hlow:∀ ds∈css,∀ u∈ds,∀ a n c,u=.slice (some a) n c→a.block < W.heap.size)
  (hc:BookC W cs x) (hcl:∀ u∈cs,∀ a n c,u=.slice (some a) n c→a.block < W.heap.size∧a.block ∉ bs∧∀ r,v.ownBlock=some r→a.block≠r)
  (ho:W'.ownsRow base 40 7 (.slice (some ⟨g,0,none⟩) n cap) n (css.flatten++cs)) (hn:n=b.length+1) (hg:W.grownBy W' v.ownBlock) (hgg:v.ownBlock=some g∨g=W.heap.size) :
  OwnB bs base W' (.slice (some ⟨g,0,none⟩) n cap) (b++[x]):=by
 subst hn
 have hA:∀ ds∈css++[cs],∀ u∈ds,(∀ a n c,u=.slice (some a) n c→a.block < W.heap.size)∧ApartL bs u∧∀ r,v.ownBlock=some r→ApartL [r] u:=fun ds hd u hu=>by
  rcases List.mem_append.1 hd with h | h
  ·exact ⟨hlow ds h u hu,h3 ds h u hu,fun r hr=>h4 r hr ds h u hu⟩
  ·rw [List.mem_singleton.1 h] at hu
   exact ⟨fun a n c e=>(hcl u hu a n c e).1,fun a n c e=>(hcl u hu a n c e).2.1,fun r hr a n c e hm=>(hcl u hu a n c e).2.2 r hr (List.mem_singleton.1 hm)⟩
 refine ⟨css++[cs],by rw [List.flatten_append,List.length_append];simpa using ho,⟨by rw [List.length_append,List.length_append,h2.len];rfl,fun k ds y hk hy=>?_⟩,fun ds hd u hu=>(hA ds hd u hu).2.1,fun g' hg' ds hd u hu=>?_⟩
 ·have hbk:BookC W ds y:=by
   by_cases hkb:k < b.length
   ·rw [List.getElem?_append_left (by rw [h2.len];exact hkb)] at hk
    rw [List.getElem?_append_left hkb] at hy
    exact h2.each k ds y hk hy
   ·have hkl:=(List.getElem?_eq_some_iff.1 hy).1
    have hkk:k=b.length:=by simp at hkl;omega
    subst hkk
    rw [List.getElem?_append_right (by rw [h2.len];omega),h2.len] at hk
    rw [List.getElem?_append_right (by omega)] at hy
    simp at hk hy
    subst hk;subst hy
    exact hc
  exact bookC_grownR hbk hg (fun r hr u hu=>(hA ds (List.mem_of_getElem? hk) u hu).2.2 r hr)
 ·obtain rfl:g=g':=by simpa [Value.ownBlock] using hg'
  rcases hgg with h | h
  ·exact (hA ds hd u hu).2.2 g h
  ·intro a n c e hm
   have:=(hA ds hd u hu).1 a n c e
   have:=List.mem_singleton.1 hm
   omega
theorem QRow.grownR {bs:List Nat} {W W':World} {g:Nat} {row:Option Nat} {l:List Queue} (h:QRow bs W g l) (hg:W.grownBy W' row) (hr:∀ r,row=some r→r∈bs∧g≠r):QRow bs W' g l:=by
 obtain ⟨vs,h1,h2⟩:=h
 refine ⟨vs,h1.kept hg (fun e=>(hr g e.symm).2 rfl),fun j x hj=>?_⟩
 obtain ⟨a,b,c,d,cv,e,f,i⟩:=h2 j x hj
 exact ⟨a,b,c,d,cv,e,runs_grown f i hg (fun r' e'=>List.mem_cons_of_mem _ (hr r' e').1),i⟩
theorem QRow.newrow {W W':World} {g g2:Nat} {v:Value} {l:List Queue} {bs:List Nat} (h:QRow (v.ownBlock.toList++bs) W g l) (hne:∀ x∈l,x.Cap≠[]) (hg:W.grownBy W' v.ownBlock) (hr:∀ r,v.ownBlock=some r→g≠r) (hs:g < W.heap.size) (hgg:v.ownBlock=some g2∨g2=W.heap.size) :
  QRow ([g2]++bs) W' g l∧g≠g2:=by
 have h1:=h.grownR hg (fun r hr'=>⟨List.mem_append_left _ (by rw [hr'];exact List.mem_singleton.2 rfl),hr r hr'⟩)
 rcases hgg with h2 | h2
 ·rw [h2] at h1
  exact ⟨h1,hr g2 h2⟩
 ·refine ⟨?_,by omega⟩
  have h3:=h.more hne (r:=g2) (by omega)
  have h4:QRow (g2::(v.ownBlock.toList++bs)) W' g l:=h3.grownR hg (fun r hr'=>⟨List.mem_cons_of_mem _ (List.mem_append_left _ (by rw [hr'];exact List.mem_singleton.2 rfl)),hr r hr'⟩)
  exact h4.less (fun r hr'=>by
   rcases List.mem_append.1 hr' with h | h
   ·rw [List.mem_singleton.1 h];exact List.mem_cons_self ..
   ·exact List.mem_cons_of_mem _ (List.mem_append_right _ h))
def LiveX (x:Book):Prop:=(x.Req.Pieces≠[]∧x.Bites≠[])∧(1≤x.Req.Pieces.length∧x.Req.Pieces.length≤3)∧1≤x.Bites.length∧x.Bites.length≤3
theorem live_app {b:List Book} {x:Book} (h:LiveB b) (hx:LiveX x):LiveB (b++[x]):=fun y hy=>by
 rcases List.mem_append.1 hy with h1 | h1
 ·exact h y h1
 ·rw [List.mem_singleton.1 h1];exact hx
theorem OwnS.more {ex:List Nat} {B:Nat} {W:World} {u v:Value} {l:List Queue} {b:List Book} (h:OwnS ex B W u v l b) (h12:b.length < 12) :
  ∃ css:List (List Value),W.ownsRow B 40 7 v b.length css.flatten∧∀ (W1 W':World) (g2 n cap:Nat) (cs:List Value) (x:Book),Ext W W1→BookC W1 cs x→LiveX x →
   (∀ s∈cs,∀ a n c,s=.slice (some a) n c→a.block < W1.heap.size∧B≤a.block∧a.block ∉ ex∧(∀ r,u.ownBlock=some r→a.block≠r)∧∀ r,v.ownBlock=some r→a.block≠r) →
   W'.ownsRow B 40 7 (.slice (some ⟨g2,0,none⟩) n cap) n (css.flatten++cs)→n=b.length+1→W1.grownBy W' v.ownBlock→(v.ownBlock=some g2∨g2=W1.heap.size)→(∀ r∈ex,r < W1.heap.size) →
   OwnS ex B W' u (.slice (some ⟨g2,0,none⟩) n cap) l (b++[x]):=by
 obtain ⟨g,cap,rfl,h1,h2,h5,_,hgB,hs,he,hl,hc,⟨css,o1,o2,o3,o4⟩,hne,hq⟩:=h
 refine ⟨css,o1,fun W1 W' g2 n cp cs x hx hcs hlx hcl ho hn hg hgg hex=>?_⟩
 have hlow:∀ ds∈css,∀ u∈ds,∀ a n c,u=.slice (some a) n c→a.block < W1.heap.size:=fun ds hd u hu a n c e=>Nat.lt_of_lt_of_le (cells7_low o2 (fun x hx=>(hl x hx).1) ds hd u hu a n c e) hx.size
 obtain ⟨e1,e2⟩:=(hq.ext hx).newrow hc hg (fun r hr=>(hne r hr).1) (Nat.lt_of_lt_of_le hs hx.size) hgg
 refine ⟨g,cap,rfl,h1,h2,h5,by rw [List.length_append];simp;omega,hgB,Nat.lt_of_lt_of_le (Nat.lt_of_lt_of_le hs hx.size) hg.size,he,live_app hl hlx,hc,OwnB.snoc (ownsRow_ext o1 hx) (o2.mono hx) o3 o4 hlow hcs (fun s hsm a n' c e=>?_) ho hn hg hgg,fun r hr=>?_,e1⟩
 ·obtain ⟨p1,p2,p3,p4,p5⟩:=hcl s hsm a n' c e
  refine ⟨p1,fun hm=>?_,p5⟩
  rcases List.mem_cons.1 hm with h | h
  ·exact p4 g rfl h
  ·rcases List.mem_append.1 h with h | h
   ·exact p3 h
   ·have:=range_lt h;omega
 ·obtain rfl:g2=r:=by simpa [Value.ownBlock] using hr
  refine ⟨e2,fun hm=>?_⟩
  rcases hgg with h | h
  ·exact (hne g2 h).2 hm
  ·have:=hex g2 hm;omega
theorem news7 (W:World) (cs:List Value) (T:TypeId) (h:cs.length=7):∀ (j:Nat) u,cs[j]?=some u→(W.alloc (.cells cs.toArray T)).cell? ((⟨W.heap.size,0,none⟩:Addr).add j)=some u :=
 (own_lit7 W cs T h).cells (g:=W.heap.size) rfl
theorem grown_cell {W W':World} {row:Option Nat} {b o:Nat} {u:Value} (hg:W.grownBy W' row) (h:W.cell? ⟨b,o,none⟩=some u) (hb:∀ r,row=some r→r≠b):W'.cell? ⟨b,o,none⟩=some u:=by
 rw [World.cell?_of_block (a:=⟨b,o,none⟩) (hg.block b (World.block_lt_of_cell? _ ⟨b,o,none⟩ h) (fun e=>hb b e.symm rfl))]
 exact h
theorem bookCells7 {W:World} {a b c d e f g:Value} {t:TypeId} {B:Nat} (h:W.heap[B]?=some (.cells #[a,b,c,d,e,f,g] t (0,0))) :
  W.cell? ⟨B,0,none⟩=some a∧W.cell? ⟨B,1,none⟩=some b∧W.cell? ⟨B,2,none⟩=some c∧W.cell? ⟨B,3,none⟩=some d∧W.cell? ⟨B,4,none⟩=some e∧W.cell? ⟨B,5,none⟩=some f∧W.cell? ⟨B,6,none⟩=some g∧(∀ o,W.frozen? ⟨B,o,none⟩=false) :=
 ⟨cell_of_row W B 0 _ _ _ h,cell_of_row W B 1 _ _ _ h,cell_of_row W B 2 _ _ _ h,cell_of_row W B 3 _ _ _ h,cell_of_row W B 4 _ _ _ h,cell_of_row W B 5 _ _ _ h,cell_of_row W B 6 _ _ _ h,fun o=>frozen_of_row W B o _ _ h⟩
theorem Tryz.size40:(Tryz.prog.info? 40).map (·.size)=some 7:=by kernel_rfl
theorem row4_set {W:World} {b:Nat} {z0 z1 z2 z3 a0 a1 a2 a3:Value} {T:TypeId} (h:W.heap[b]?=some (.cells #[z0,z1,z2,z3] T (0,0))) :
  ((((W.setCell ⟨b,0,none⟩ a0).setCell ⟨b,1,none⟩ a1).setCell ⟨b,2,none⟩ a2).setCell ⟨b,3,none⟩ a3).heap[b]?=some (.cells #[a0,a1,a2,a3] T (0,0)) :=
 heap_setCell_same _ b 3 _ _ _ (heap_setCell_same _ b 2 _ _ _ (heap_setCell_same _ b 1 _ _ _ (heap_setCell_same _ b 0 _ _ _ h)))
theorem grown_set4 (W:World) (b:Nat) (a0 a1 a2 a3:Value):W.grownBy ((((W.setCell ⟨b,0,none⟩ a0).setCell ⟨b,1,none⟩ a1).setCell ⟨b,2,none⟩ a2).setCell ⟨b,3,none⟩ a3) (some b) :=
 grown_trans (grown_trans (grown_trans (grown_set W b 0 a0) (grown_set _ b 1 a1)) (grown_set _ b 2 a2)) (grown_set _ b 3 a3)
end Go.Proofs.YtdcndkojmflhnaaGreat
