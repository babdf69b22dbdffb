import Derived.WalkKit
import Derived.Deep.RegionHeld3
import Derived.Test.YtdcndkojmflhnaaGreatVPlanL
set_option linter.unusedVariables false
set_option maxRecDepth 100000
set_option maxHeartbeats 8000000
set_option linter.unusedSimpArgs false
namespace Go.Proofs.YtdcndkojmflhnaaGreat
open Tryz
open Go.RowKit
open List renaming getElem_toArray->zA,getElem_cons_zero->zB,getElem_cons_succ->zC
open _root_.Option renaming some->aC,none->aD
open _root_.List renaming mem_iff_getElem?->aCU,getElem?_eq_some_iff->aBD,nil_append->aCh,mem_cons->aC8,not_mem_nil->aCj,mem_cons_self->aCw,mem_append->aBm,mem_cons_of_mem->aBl,mem_range->aC3,mem_append_left->aD1,mem_append_right->aD2,mem_singleton->aCB,flatten_append->aD3,length_append->aBk,getElem?_append_left->aCI,getElem?_append_right->aCJ,mem_of_getElem?->aBJ,length_pos_iff->aD4,length_take->aCH,take_add_one->aD6,take_of_length_le->aCM,flatten_cons->aCT,take_take->aD7,take_set_of_le->aD9,mem_of_mem_drop->aDb,length_drop->aDc,getElem?_take_of_lt->aCY,length_eq_zero_iff->aDd,getElem?_drop->aBN,size_toArray->aC9,eraseIdx_eq_take_drop_succ->aDe,take_left->aDf,length_eraseIdx->aDg,getElem?_eraseIdx->aDh,getElem?_zip_eq_some->aDi,length_cons->aBB,findIdx?_eq_some_iff_getElem->aBW,getElem?_eq_getElem->aBu,length_map->aCC,any_eq_false->aBY
open Go.Value renaming int->aA,slice->aE,ownBlock->aCZ,oneCell'->aBz
open Go.IntKind renaming i64->aB
open _root_.Nat renaming lt_of_lt_of_le->aBA,le_refl->aBq,le_of_eq->aD5,add_zero->aBS
open _root_.Array renaming getElem?_eq_some_iff->aBy,toList_setIfInBounds->aD8,length_toList->aDa,getElem?_eq_getElem->aBT
open Go.World renaming cell?_of_block->aCk,block_lt_of_cell?->aBx,size_alloc->aCl
theorem sU {W:World} {base b2 e sz n:Nat} {v:Value} {xs:List Value} (h:W.ownsRow base e sz v n xs) (hb:b2<=base):W.ownsRow b2 e sz v n xs:=by
 obtain⟨h1,h2⟩:=h;refine⟨h1,?_⟩;rcases h2 with h2 | ⟨g,cap,cur,hv,hg,r⟩
 ·exact .inl h2
 ·exact .inr ⟨g,cap,cur,hv,Nat.le_trans hb hg,r⟩
theorem eP.low {bs:List Nat} {base b2:Nat} {W:World} {v:Value} {b:List aT} (h:eP bs base W v b) (hb:b2<=base):eP bs b2 W v b:=by
 obtain⟨css,h1,h2,h3,h4⟩:=h;exact⟨css,sU h1 hb,h2,h3,h4⟩
theorem eP.sub {bs cs:List Nat} {base:Nat} {W:World} {v:Value} {b:List aT} (h:eP bs base W v b) (hs:∀ r∈cs,r∈bs):eP cs base W v b:=by
 obtain⟨css,h1,h2,h3,h4⟩:=h;exact⟨css,h1,h2,fun ds hd u hu a n c e hm=>h3 ds hd u hu a n c e (hs _ hm),h4⟩
theorem eP.fresh {bs cs:List Nat} {base B:Nat} {W:World} {v:Value} {b:List aT} (h:eP bs base W v b) (hn:∀ r,v.ownBlock=aC r->fJ 7 5 b.length B W r/\fJ 7 6 b.length B W r) (hc:∀ r∈cs,r < B):eP cs base W v b:=by
 obtain⟨css,h1,h2,h3,h4⟩:=h;refine⟨css,h1,h2,fun ds hd u hu a n c e hm=>?_,h4⟩;obtain⟨k,hk⟩:=aCU.1 hd;have hkl:=(aBD.1 hk).1;obtain⟨x,hx⟩:=bT (f:=b) (k:=k) (by rw[<- h2.len];exact hkl);have hl:=h2.len;rcases h1.2 with ⟨_,h0⟩ | ⟨g,cap,cur,hv,_⟩
 ·omega
 ·obtain⟨n5,n6⟩:=hn g (by rw[hv];rfl);subst hv;obtain⟨qs,bv,rfl,⟨pv,rfl,hp,_⟩,hb,_⟩:=h2.each k ds x hk hx;have get:∀ j w,j < 7->([aA aB x.Id,aA aB x.aP.aG,aA aB x.aP.aI,aA aB x.aP.aH,aA aB x.aP.aJ,pv,bv]:List Value)[j]?=aC w->W.cell? ⟨g,k*7+j,aD⟩=aC w:=fun j w hj hw=>by
   have e:css.flatten[k*7+j]?=aC w:=by rw[Bd css h2.seven k j hj,hk];exact hw
   have:=h1.cells (g:=g) rfl (k*7+j) w e;rw[kN] at this
   rwa [Nat.zero_add] at this
  simp only[List.cons_append,aCh,aC8,aCj,or_false] at hu;rcases hu with rfl | rfl | rfl | rfl | rfl | rfl | rfl
  ·cases e
  ·cases e
  ·cases e
  ·cases e
  ·cases e
  ·subst e;have:=n5.2 k (by omega) a n c (get 5 _ (by omega) rfl);have:=hc _ hm;omega
  ·subst e;have:=n6.2 k (by omega) a n c (get 6 _ (by omega) rfl);have:=hc _ hm;omega
theorem gL.fresh {bs cs:List Nat} {W:World} {g B:Nat} {l:List Queue} (h:gL bs W g l) (hn:fJ 3 2 l.length B W g) (hc:∀ r∈cs,r < B):gL (bs++cs) W g l:=by
 obtain⟨vs,h1,h2⟩:=h;refine⟨vs,h1,fun j x hj=>?_⟩;obtain⟨a,b,c,d,cv,e,f,i⟩:=h2 j x hj;refine⟨a,b,c,d,cv,e,f,fun ad n m he hm=>?_⟩;rcases aC8.1 hm with h | h
 ·exact i ad n m he (by rw[h];exact aCw ..)
 ·rcases aBm.1 h with h | h
  ·exact i ad n m he (aBl _ h)
  ·subst he;have:=hn.2 j (aBD.1 hj).1 ad n m (h1.cell e);have:=hc _ h;omega
def cP (ex:List Nat) (B:Nat) (W:World) (u v:Value) (l:List Queue) (b:List aT):Prop:=
 ∃ g cap,u=aE (aC ⟨g,0,aD⟩) l.length cap/\l.length<=cap/\cap<=9223372036854775807/\l.length<=5/\b.length<=12/\B<=g/\g < W.heap.size/\g∉ex/\yQ b/\(∀ x∈l,x.Cap≠[])/\
  eP (g::(ex++List.range B)) B W v b/\(∀ r,v.ownBlock=aC r->g≠r/\r∉ex)/\gL (v.ownBlock.toList++(ex++List.range B)) W g l
theorem cP.tree {ex:List Nat} {B:Nat} {W:World} {u v:Value} {l:List Queue} {b:List aT} (h:cP ex B W u v l b):aX W u l:=by
 obtain⟨g,cap,rfl,h1,h2,h5,_,_,_,_,_,_,_,_,hq⟩:=h;exact hq.v h1 h2 h5
theorem cP.books {ex:List Nat} {B:Nat} {W:World} {u v:Value} {l:List Queue} {b:List aT} (h:cP ex B W u v l b):bD W v b:=by
 obtain⟨g,cap,rfl,h1,h2,h5,h12,_,_,_,_,_,ho,_,hq⟩:=h;exact ho.v h12
theorem cP.ext {ex:List Nat} {B:Nat} {W W':World} {u v:Value} {l:List Queue} {b:List aT} (h:cP ex B W u v l b) (hx:Ext W W'):cP ex B W' u v l b:=by
 obtain⟨g,cap,rfl,h1,h2,h5,h12,hg,hs,he,hl,hc,ho,hne,hq⟩:=h;exact⟨g,cap,rfl,h1,h2,h5,h12,hg,aBA hs hx.size,he,hl,hc,ho.ext hx,hne,hq.ext hx⟩
theorem kH {B r:Nat} (h:r∈List.range B):r < B:=aC3.1 h
theorem cP.low {ex ex2:List Nat} {B B2:Nat} {W:World} {u v:Value} {l:List Queue} {b:List aT} (h:cP ex B W u v l b) (hb:B2<=B) (he2:∀ r∈ex2,r∈ex):cP ex2 B2 W u v l b:=by
 obtain⟨g,cap,rfl,h1,h2,h5,h12,hg,hs,he,hl,hc,ho,hne,hq⟩:=h;have sub:∀ r,r∈ex2++List.range B2->r∈ex++List.range B:=fun r hr=>by
  rcases aBm.1 hr with h | h
  ·exact aD1 _ (he2 r h)
  ·exact aD2 _ (aC3.2 (by have:=kH h;omega))
 refine⟨g,cap,rfl,h1,h2,h5,h12,by omega,hs,fun h=>he (he2 _ h),hl,hc,(ho.low hb).sub (fun r hr=>?_),fun r hr=>⟨(hne r hr).1,fun h=>(hne r hr).2 (he2 _ h)⟩,hq.less (fun r hr=>?_)⟩
 ·rcases aC8.1 hr with h | h
  ·rw[h];exact aCw ..
  ·exact aBl _ (sub r h)
 ·rcases aBm.1 hr with h | h
  ·exact aD1 _ h
  ·exact aD2 _ (sub r h)
theorem cP.uform {ex:List Nat} {B:Nat} {W:World} {u v:Value} {l:List Queue} {b:List aT} (h:cP ex B W u v l b):∃ g cap,u=aE (aC ⟨g,0,aD⟩) l.length cap/\B<=g/\g < W.heap.size:=by
 obtain⟨g,cap,rfl,h1,h2,h5,h12,hg,hs,_⟩:=h;exact⟨g,cap,rfl,hg,hs⟩
theorem cP.vform {ex:List Nat} {B:Nat} {W:World} {u v:Value} {l:List Queue} {b:List aT} (h:cP ex B W u v l b):∃ a cap,v=aE a b.length cap/\∀ r,v.ownBlock=aC r->B<=r/\r < W.heap.size:=by
 obtain⟨g,cap,rfl,h1,h2,h5,h12,hg,hs,he,hl,hc,⟨css,o1,_⟩,_⟩:=h;rcases o1.2 with ⟨hv,h0⟩ | ⟨gb,cb,_,hv,_⟩
 ·exact⟨aD,0,by rw[hv,h0],fun r hr=>o1.lt r hr⟩
 ·exact⟨_,cb,hv,fun r hr=>o1.lt r hr⟩
theorem cP.vsome {ex:List Nat} {B:Nat} {W:World} {u v:Value} {l:List Queue} {b:List aT} (h:cP ex B W u v l b) (h1:1<=b.length):∃ g cap,v=aE (aC ⟨g,0,aD⟩) b.length cap/\B<=g/\g < W.heap.size:=by
 obtain⟨g,cap,rfl,_,h2,h5,h12,hg,hs,he,hl,hc,⟨css,o1,_⟩,_⟩:=h;rcases o1.2 with ⟨hv,h0⟩ | ⟨gb,cb,_,hv,_⟩
 ·omega
 ·exact⟨gb,cb,hv,o1.lt gb (by rw[hv];rfl)⟩
theorem cP.vne {ex:List Nat} {B:Nat} {W:World} {u v:Value} {l:List Queue} {b:List aT} (h:cP ex B W u v l b):∀ r,v.ownBlock=aC r->∀ k∈ex,r≠k:=by
 obtain⟨g,cap,rfl,h1,h2,h5,h12,hg,hs,he,hl,hc,ho,hne,hq⟩:=h;exact fun r hr k hk e=>(hne r hr).2 (e▸hk)
theorem eP.low_all {bs:List Nat} {base:Nat} {W:World} {v:Value} {b:List aT} (h:eP bs base W v b) (hl:yQ b) {r:Nat} (hr:W.heap.size<=r):eP (r::bs) base W v b:=by
 obtain⟨css,h1,h2,h3,h4⟩:=h;refine⟨css,h1,h2,fun ds hd u hu a n c e hm=>?_,h4⟩;rcases aC8.1 hm with h | h
 ·have:=jQ h2 (fun x hx=>(hl x hx).1) ds hd u hu a n c e;omega
 ·exact h3 ds hd u hu a n c e h
theorem cP.box {ex:List Nat} {B r:Nat} {W:World} {u v:Value} {l:List Queue} {b:List aT} (h:cP ex B W u v l b) (hr:W.heap.size<=r):cP (r::ex) B W u v l b:=by
 obtain⟨g,cap,rfl,h1,h2,h5,h12,hg,hs,he,hl,hc,ho,hne,hq⟩:=h;have hvr:∀ k,v.ownBlock=aC k->k < W.heap.size:=fun k hk=>by
  obtain⟨css,o1,_⟩:=ho;exact(o1.lt k hk).2
 refine⟨g,cap,rfl,h1,h2,h5,h12,hg,hs,fun h=>?_,hl,hc,(ho.low_all hl hr).sub (fun k hk=>?_),fun k hk=>⟨(hne k hk).1,fun h=>?_⟩,(hq.more hc hr).less (fun k hk=>?_)⟩
 ·rcases aC8.1 h with h | h
  ·omega
  ·exact he h
 ·rcases aC8.1 hk with h | h
  ·rw[h];exact aBl _ (aCw ..)
  ·rcases aC8.1 h with h | h
   ·rw[h];exact aCw ..
   ·exact aBl _ (aBl _ h)
 ·rcases aC8.1 h with h | h
  ·have:=hvr k hk;omega
  ·exact(hne k hk).2 h
 ·rcases aBm.1 hk with h | h
  ·exact aBl _ (aD1 _ h)
  ·rcases aC8.1 h with h | h
   ·rw[h];exact aCw ..
   ·exact aBl _ (aD2 _ h)
theorem cP.under {ex:List Nat} {B r:Nat} {W:World} {u v:Value} {l:List Queue} {b:List aT} (h:cP ex B W u v l b) (hr:r < B):cP (r::ex) B W u v l b:=by
 obtain⟨g,cap,rfl,h1,h2,h5,h12,hg,hs,he,hl,hc,ho,hne,hq⟩:=h;have hvr:∀ k,v.ownBlock=aC k->B<=k:=fun k hk=>by
  obtain⟨css,o1,_⟩:=ho;exact(o1.lt k hk).1
 have sub:∀ k,k∈r::ex++List.range B->k∈ex++List.range B:=fun k hk=>by
  rcases aC8.1 hk with h | h
  ·exact aD2 _ (aC3.2 (by omega))
  ·exact h
 refine⟨g,cap,rfl,h1,h2,h5,h12,hg,hs,fun h=>?_,hl,hc,ho.sub (fun k hk=>?_),fun k hk=>⟨(hne k hk).1,fun h=>?_⟩,hq.less (fun k hk=>?_)⟩
 ·rcases aC8.1 h with h | h
  ·omega
  ·exact he h
 ·rcases aC8.1 hk with h | h
  ·rw[h];exact aCw ..
  ·exact aBl _ (sub k h)
 ·rcases aC8.1 h with h | h
  ·have:=hvr k hk;omega
  ·exact(hne k hk).2 h
 ·rcases aBm.1 hk with h | h
  ·exact aD1 _ h
  ·exact aD2 _ (sub k h)
theorem eP.keptR {bs:List Nat} {base r:Nat} {W W':World} {v:Value} {b:List aT} (h:eP bs base W v b) (hg:W.grownBy W' (aC r)) (hr:r∈bs) (hv:∀ k,v.ownBlock=aC k->k≠r):eP bs base W' v b:=by
 obtain⟨css,h1,h2,h3,h4⟩:=h;refine⟨css,?_,oA h2 hg (fun cs hc u hu a n c e hm=>h3 cs hc u hu a n c e (by rw[aCB.1 hm];exact hr)),h3,h4⟩;obtain⟨q1,q2⟩:=h1;refine⟨q1,?_⟩;rcases q2 with q2 | ⟨g,cap,cur,e,hb,hc,q⟩
 ·exact .inl q2
 ·exact .inr ⟨g,cap,cur,e,hb,by rw[hg.block g (aBy.1 hc).1 (fun e2=>hv g (by rw[e];rfl) (Option.some.inj e2))];exact hc,q⟩
theorem cP.kept {ex:List Nat} {B r:Nat} {W W':World} {u v:Value} {l:List Queue} {b:List aT} (h:cP ex B W u v l b) (hg:W.grownBy W' (aC r)) (hr:r∈ex):cP ex B W' u v l b:=by
 obtain⟨g,cap,rfl,h1,h2,h5,h12,hgB,hs,he,hl,hc,ho,hne,hq⟩:=h;exact⟨g,cap,rfl,h1,h2,h5,h12,hgB,aBA hs hg.size,he,hl,hc,ho.keptR hg (aBl _ (aD1 _ hr)) (fun k hk e=>(hne k hk).2 (e▸hr)),hne,hq.kept hg (aD2 _ (aD1 _ hr)) (fun e=>he (e▸hr))⟩
def StS (B:Nat) (W:World) (u v:Value) (s:aV):Prop:=cP [] B W u v s.aN s.aK\/(s.aN=[]/\s.aK=[]/\u=aE aD 0 0/\v=aE aD 0 0)
theorem StS.tree {B:Nat} {W:World} {u v:Value} {s:aV} (h:StS B W u v s):aX W u s.aN:=by
 rcases h with h | ⟨h1,_,rfl,_⟩
 ·exact h.tree
 ·rw[h1];exact SV.nil
theorem StS.books {B:Nat} {W:World} {u v:Value} {s:aV} (h:StS B W u v s):bD W v s.aK:=by
 rcases h with h | ⟨_,h1,_,rfl⟩
 ·exact h.books
 ·rw[h1];exact SV.nil
theorem StS.ext {B:Nat} {W W':World} {u v:Value} {s:aV} (h:StS B W u v s) (hx:Ext W W'):StS B W' u v s:=by
 rcases h with h | h
 ·exact .inl (h.ext hx)
 ·exact .inr h
theorem cP.st {ex:List Nat} {B B2:Nat} {W:World} {u v:Value} {s:aV} (h:cP ex B W u v s.aN s.aK) (hb:B2<=B):StS B2 W u v s:=.inl (h.low hb (fun r hr=>by cases hr))
theorem Up (w:World) (tv bv:Value) (s:aV) (hl:aX w tv s.aN) (hb:bD w bv s.aK) (ok:fB s.aN) (h12:s.aK.length<=12) (hok:∀ x∈s.aK,cB s.aN x) :
  Calls prog 75 #[.agg #[aA aB s.aL,aA aB s.aM,tv,bv]] w fun e w'=>∃ u v,e=.returned (.agg #[aA aB s.aL,aA aB s.aM,u,v])/\cP [] w.heap.size w' u v s.aN s.aK/\Ext w w':=by
 refine(aAx w tv bv s hl hb ok h12 hok).mono ?_;rintro e w' ⟨base,g,cap,va,vc,rfl,hc1,hc2,hg,hbs,hbw,hq,hr,ho,hgb,hnq,hx⟩;refine⟨_,_,rfl,⟨g,cap,rfl,hc1,hc2,ok.n5,h12,hg,by omega,by simp,nF hok,kZ ok,(ho.fresh (fun r h=>(hr r h).2.2) (fun r h=>?_)).low hbs,fun r h=>⟨(hr r h).1,by simp⟩,?_⟩,hx⟩
 ·rcases aC8.1 h with h | h
  ·omega
  ·have:=kH (B:=w.heap.size) (by simpa using h);omega
 ·cases va with
  | none=>exact hq.fresh hnq (fun r h=>kH (by simpa using h))
  | some a=>exact(hr a.block rfl).2.1.fresh hnq (fun r h=>kH (by simpa using h))
theorem Mh {W W':World} {cs:List Value} {x:aT} {row:Option Nat} (h:fE W cs x) (hg:W.grownBy W' row) (ha:∀ r,row=aC r->∀ u∈cs,bU [r] u):fE W' cs x:=by
 obtain⟨qs,bv,rfl,⟨pv,rfl,hp,i1,i2,i3,i4⟩,hb,i5⟩:=h;have ap:∀ u∈(aA aB x.Id::([aA aB x.aP.aG,aA aB x.aP.aI,aA aB x.aP.aH,aA aB x.aP.aJ,pv]++[bv]):List Value),rY u row:=fun u hu a n c e he=>ha a.block he.symm u hu a n c e (aCB.2 rfl);exact⟨_,bv,rfl,⟨pv,rfl,jW hp hg (ap _ (by simp)),i1,i2,i3,i4⟩,jW hb hg (ap _ (by simp)),i5⟩
theorem eP.snoc {bs:List Nat} {base g n cap:Nat} {W W':World} {v:Value} {b:List aT} {x:aT} {css:List (List Value)} {cs:List Value}
  (h1:W.ownsRow base 40 7 v b.length css.flatten) (h2:fF W css b) (h3:lX bs css) (h4:∀ g,v.ownBlock=aC g->lX [g] css) (hlow:∀ ds∈css,∀ u∈ds,∀ a n c,u=aE (aC a) n c->a.block < W.heap.size)
  (hc:fE W cs x) (hcl:∀ u∈cs,∀ a n c,u=aE (aC a) n c->a.block < W.heap.size/\a.block∉bs/\∀ r,v.ownBlock=aC r->a.block≠r)
  (ho:W'.ownsRow base 40 7 (aE (aC ⟨g,0,aD⟩) n cap) n (css.flatten++cs)) (hn:n=b.length+1) (hg:W.grownBy W' v.ownBlock) (hgg:v.ownBlock=aC g\/g=W.heap.size) :
  eP bs base W' (aE (aC ⟨g,0,aD⟩) n cap) (b++[x]):=by
 subst hn;have hA:∀ ds∈css++[cs],∀ u∈ds,(∀ a n c,u=aE (aC a) n c->a.block < W.heap.size)/\bU bs u/\∀ r,v.ownBlock=aC r->bU [r] u:=fun ds hd u hu=>by
  rcases aBm.1 hd with h | h
  ·exact⟨hlow ds h u hu,h3 ds h u hu,fun r hr=>h4 r hr ds h u hu⟩
  ·rw[aCB.1 h] at hu;exact⟨fun a n c e=>(hcl u hu a n c e).1,fun a n c e=>(hcl u hu a n c e).2.1,fun r hr a n c e hm=>(hcl u hu a n c e).2.2 r hr (aCB.1 hm)⟩
 refine⟨css++[cs],by rw[aD3,aBk];simpa using ho,⟨by rw[aBk,aBk,h2.len];rfl,fun k ds y hk hy=>?_⟩,fun ds hd u hu=>(hA ds hd u hu).2.1,fun g' hg' ds hd u hu=>?_⟩
 ·have hbk:fE W ds y:=by
   by_cases hkb:k < b.length
   ·rw[aCI (by rw[h2.len];exact hkb)] at hk;rw[aCI hkb] at hy;exact h2.each k ds y hk hy
   ·have hkl:=(aBD.1 hy).1;have hkk:k=b.length:=by simp at hkl;omega
    subst hkk;rw[aCJ (by rw[h2.len];omega),h2.len] at hk;rw[aCJ (by omega)] at hy;simp at hk hy;subst hk;subst hy;exact hc
  exact Mh hbk hg (fun r hr u hu=>(hA ds (aBJ hk) u hu).2.2 r hr)
 ·obtain rfl:g=g':=by simpa[aCZ] using hg'
  rcases hgg with h | h
  ·exact(hA ds hd u hu).2.2 g h
  ·intro a n c e hm;have:=(hA ds hd u hu).1 a n c e;have:=aCB.1 hm;omega
theorem gL.grownR {bs:List Nat} {W W':World} {g:Nat} {row:Option Nat} {l:List Queue} (h:gL bs W g l) (hg:W.grownBy W' row) (hr:∀ r,row=aC r->r∈bs/\g≠r):gL bs W' g l:=by
 obtain⟨vs,h1,h2⟩:=h;refine⟨vs,h1.kept hg (fun e=>(hr g e.symm).2 rfl),fun j x hj=>?_⟩;obtain⟨a,b,c,d,cv,e,f,i⟩:=h2 j x hj;exact⟨a,b,c,d,cv,e,eI f i hg (fun r' e'=>aBl _ (hr r' e').1),i⟩
theorem gL.newrow {W W':World} {g g2:Nat} {v:Value} {l:List Queue} {bs:List Nat} (h:gL (v.ownBlock.toList++bs) W g l) (hne:∀ x∈l,x.Cap≠[]) (hg:W.grownBy W' v.ownBlock) (hr:∀ r,v.ownBlock=aC r->g≠r) (hs:g < W.heap.size) (hgg:v.ownBlock=aC g2\/g2=W.heap.size) :
  gL ([g2]++bs) W' g l/\g≠g2:=by
 have h1:=h.grownR hg (fun r hr'=>⟨aD1 _ (by rw[hr'];exact aCB.2 rfl),hr r hr'⟩);rcases hgg with h2 | h2
 ·rw[h2] at h1;exact⟨h1,hr g2 h2⟩
 ·refine⟨?_,by omega⟩;have h3:=h.more hne (r:=g2) (by omega);have h4:gL (g2::(v.ownBlock.toList++bs)) W' g l:=h3.grownR hg (fun r hr'=>⟨aBl _ (aD1 _ (by rw[hr'];exact aCB.2 rfl)),hr r hr'⟩);exact h4.less (fun r hr'=>by
   rcases aBm.1 hr' with h | h
   ·rw[aCB.1 h];exact aCw ..
   ·exact aBl _ (aD2 _ h))
def sF (x:aT):Prop:=(x.aP.aF≠[]/\x.aO≠[])/\(1<=x.aP.aF.length/\x.aP.aF.length<=3)/\1<=x.aO.length/\x.aO.length<=3
theorem Ok {b:List aT} {x:aT} (h:yQ b) (hx:sF x):yQ (b++[x]):=fun y hy=>by
 rcases aBm.1 hy with h1 | h1
 ·exact h y h1
 ·rw[aCB.1 h1];exact hx
theorem cP.more {ex:List Nat} {B:Nat} {W:World} {u v:Value} {l:List Queue} {b:List aT} (h:cP ex B W u v l b) (h12:b.length < 12) :
  ∃ css:List (List Value),W.ownsRow B 40 7 v b.length css.flatten/\∀ (W1 W':World) (g2 n cap:Nat) (cs:List Value) (x:aT),Ext W W1->fE W1 cs x->sF x->
   (∀ s∈cs,∀ a n c,s=aE (aC a) n c->a.block < W1.heap.size/\B<=a.block/\a.block∉ex/\(∀ r,u.ownBlock=aC r->a.block≠r)/\∀ r,v.ownBlock=aC r->a.block≠r)->
   W'.ownsRow B 40 7 (aE (aC ⟨g2,0,aD⟩) n cap) n (css.flatten++cs)->n=b.length+1->W1.grownBy W' v.ownBlock->(v.ownBlock=aC g2\/g2=W1.heap.size)->(∀ r∈ex,r < W1.heap.size)->
   cP ex B W' u (aE (aC ⟨g2,0,aD⟩) n cap) l (b++[x]):=by
 obtain⟨g,cap,rfl,h1,h2,h5,_,hgB,hs,he,hl,hc,⟨css,o1,o2,o3,o4⟩,hne,hq⟩:=h;refine⟨css,o1,fun W1 W' g2 n cp cs x hx hcs hlx hcl ho hn hg hgg hex=>?_⟩;have hlow:∀ ds∈css,∀ u∈ds,∀ a n c,u=aE (aC a) n c->a.block < W1.heap.size:=fun ds hd u hu a n c e=>aBA (jQ o2 (fun x hx=>(hl x hx).1) ds hd u hu a n c e) hx.size;obtain⟨e1,e2⟩:=(hq.ext hx).newrow hc hg (fun r hr=>(hne r hr).1) (aBA hs hx.size) hgg;refine⟨g,cap,rfl,h1,h2,h5,by rw[aBk];simp;omega,hgB,aBA (aBA hs hx.size) hg.size,he,Ok hl hlx,hc,eP.snoc (bE o1 hx) (o2.mono hx) o3 o4 hlow hcs (fun s hsm a n' c e=>?_) ho hn hg hgg,fun r hr=>?_,e1⟩
 ·obtain⟨p1,p2,p3,p4,p5⟩:=hcl s hsm a n' c e;refine⟨p1,fun hm=>?_,p5⟩;rcases aC8.1 hm with h | h
  ·exact p4 g rfl h
  ·rcases aBm.1 h with h | h
   ·exact p3 h
   ·have:=kH h;omega
 ·obtain rfl:g2=r:=by simpa[aCZ] using hr
  refine⟨e2,fun hm=>?_⟩;rcases hgg with h | h
  ·exact(hne g2 h).2 hm
  ·have:=hex g2 hm;omega
theorem cP.ofTree {ex:List Nat} {B g cap:Nat} {W:World} {l:List Queue} (hq:gL (ex++List.range B) W g l) (h1:l.length<=cap) (h2:cap<=9223372036854775807) (ok:fB l) (hB:B<=g) (hg:g∉ex):cP ex B W (aE (aC ⟨g,0,aD⟩) l.length cap) (aE aD 0 0) l []:=
 ⟨g,cap,rfl,h1,h2,ok.n5,by simp,hB,(by obtain⟨vs,h,_⟩:=hq;exact h.lt),hg,fun x h=>(by cases h),kZ ok,⟨[],World.ownsRow_nil _ _ _ _,⟨rfl,fun k cs x h=>(by simp at h)⟩,fun cs h=>(by cases h),fun g h=>(by cases h)⟩,fun r h=>(by cases h),hq⟩
theorem zK {ex:List Nat} {B g1 g2 n1 n2 c1 c2:Nat} {W W1:World} {u v:Value} {x:aT} (hB:B<=W.heap.size) (h1:W.heap.size<=g1) (h2:W.heap.size<=g2) (k1:g1 < W1.heap.size) (k2:g2 < W1.heap.size) (hex:∀ r∈ex,r < W.heap.size) (hu:∀ r,u.ownBlock=aC r->r < W.heap.size) (hv:∀ r,v.ownBlock=aC r->r < W.heap.size) :
  ∀ s∈([aA aB x.Id,aA aB x.aP.aG,aA aB x.aP.aI,aA aB x.aP.aH,aA aB x.aP.aJ,aE (aC ⟨g1,0,aD⟩) n1 c1,aE (aC ⟨g2,0,aD⟩) n2 c2]:List Value),∀ a n c,s=aE (aC a) n c->a.block < W1.heap.size/\B<=a.block/\a.block∉ex/\(∀ r,u.ownBlock=aC r->a.block≠r)/\∀ r,v.ownBlock=aC r->a.block≠r:=by
 have key:∀ g,W.heap.size<=g->g < W1.heap.size->g < W1.heap.size/\B<=g/\g∉ex/\(∀ r,u.ownBlock=aC r->g≠r)/\∀ r,v.ownBlock=aC r->g≠r:=fun g hg hk=>
  ⟨hk,by omega,fun hm=>by have:=hex g hm;omega,fun r hr=>by have:=hu r hr;omega,fun r hr=>by have:=hv r hr;omega⟩
 intro s hs a n c e;simp only[aC8,aCj,or_false] at hs;rcases hs with rfl | rfl | rfl | rfl | rfl | rfl | rfl
 ·cases e
 ·cases e
 ·cases e
 ·cases e
 ·cases e
 ·cases e;exact key g1 h1 k1
 ·cases e;exact key g2 h2 k2
theorem zJ {α:Type} {f g:α->Int} {W:World} {b n c:Nat} {xs:List α} (h:SV 2 (E2 f g) W (aE (aC ⟨b,0,aD⟩) n c) xs) (hne:xs≠[]):b < W.heap.size:=Cp h hne ⟨b,0,aD⟩ n c rfl
theorem xO (W:World) (cs:List Value) (T:TypeId) (h:cs.length=7):∀ (j:Nat) u,cs[j]?=aC u->(W.alloc (.cells cs.toArray T)).cell? ((⟨W.heap.size,0,aD⟩:Addr).add j)=aC u:=
 (Yj W cs T h).cells (g:=W.heap.size) rfl
theorem fP {W W':World} {row:Option Nat} {b o:Nat} {u:Value} (hg:W.grownBy W' row) (h:W.cell? ⟨b,o,aD⟩=aC u) (hb:∀ r,row=aC r->r≠b):W'.cell? ⟨b,o,aD⟩=aC u:=by
 rw[aCk (a:=⟨b,o,aD⟩) (hg.block b (aBx _ ⟨b,o,aD⟩ h) (fun e=>hb b e.symm rfl))];exact h
theorem dX {W:World} {a b c d e f g:Value} {t:TypeId} {B:Nat} (h:W.heap[B]?=aC (.cells #[a,b,c,d,e,f,g] t (0,0))) :
  W.cell? ⟨B,0,aD⟩=aC a/\W.cell? ⟨B,1,aD⟩=aC b/\W.cell? ⟨B,2,aD⟩=aC c/\W.cell? ⟨B,3,aD⟩=aC d/\W.cell? ⟨B,4,aD⟩=aC e/\W.cell? ⟨B,5,aD⟩=aC f/\W.cell? ⟨B,6,aD⟩=aC g/\(∀ o,W.frozen? ⟨B,o,aD⟩=false):=
 ⟨cell_of_row W B 0 _ _ _ h,cell_of_row W B 1 _ _ _ h,cell_of_row W B 2 _ _ _ h,cell_of_row W B 3 _ _ _ h,cell_of_row W B 4 _ _ _ h,cell_of_row W B 5 _ _ _ h,cell_of_row W B 6 _ _ _ h,fun o=>frozen_of_row W B o _ _ h⟩
theorem size40:(prog.info? 40).map (·.size)=aC 7:=by kernel_rfl
theorem xH {W:World} {b:Nat} {z0 z1 z2 z3 a0 a1 a2 a3:Value} {T:TypeId} (h:W.heap[b]?=aC (.cells #[z0,z1,z2,z3] T (0,0))) :
  ((((W.setCell ⟨b,0,aD⟩ a0).setCell ⟨b,1,aD⟩ a1).setCell ⟨b,2,aD⟩ a2).setCell ⟨b,3,aD⟩ a3).heap[b]?=aC (.cells #[a0,a1,a2,a3] T (0,0)):=
 heap_setCell_same _ b 3 _ _ _ (heap_setCell_same _ b 2 _ _ _ (heap_setCell_same _ b 1 _ _ _ (heap_setCell_same _ b 0 _ _ _ h)))
theorem rM (W:World) (b:Nat) (a0 a1 a2 a3:Value):W.grownBy ((((W.setCell ⟨b,0,aD⟩ a0).setCell ⟨b,1,aD⟩ a1).setCell ⟨b,2,aD⟩ a2).setCell ⟨b,3,aD⟩ a3) (aC b):=
 bG (bG (bG (aY W b 0 a0) (aY _ b 1 a1)) (aY _ b 2 a2)) (aY _ b 3 a3)
def fA:aV:=⟨0,0,[],[]⟩
def Jl (s:aV) (r:aS) (b:List bO):aV:=⟨s.aL,s.aM+1,s.aN,s.aK++[⟨s.aM,r,b⟩]⟩
@[irreducible] noncomputable def dC (s:aV) (r:aS):aV × Int × Int:=
 if lY s r≠0 then(fA,0,lY s r) else if s.aK.length=12\/s.aM=1048576 then(fA,0,2) else if cK (kB s r) r=[] then(fA,0,8) else(Jl s r (cK (kB s r) r),s.aM,0)
theorem mZ {s:aV} {r:aS} (h:lY s r≠0):dC s r=(fA,0,lY s r):=by unfold dC;rw[if_pos h]
theorem rD {s:aV} {r:aS} (h:lY s r=0) (h2:s.aK.length=12\/s.aM=1048576):dC s r=(fA,0,2):=by unfold dC;rw[if_neg (by simp[h]),if_pos h2]
theorem rE {s:aV} {r:aS} (h:lY s r=0) (h2:¬ (s.aK.length=12\/s.aM=1048576)) (h3:cK (kB s r) r=[]):dC s r=(fA,0,8):=by unfold dC;rw[if_neg (by simp[h]),if_neg h2,if_pos h3]
theorem rC {s:aV} {r:aS} (h:lY s r=0) (h2:¬ (s.aK.length=12\/s.aM=1048576)) (h3:cK (kB s r) r≠[]):dC s r=(Jl s r (cK (kB s r) r),s.aM,0):=by unfold dC;rw[if_neg (by simp[h]),if_neg h2,if_neg h3]
def dN (w:World) (x:aV × Int × Int) (e:Ending) (w':World):Prop:=
 ∃ u v,e=.returned (.tuple #[.agg #[aA aB x.1.aL,aA aB x.1.aM,u,v],aA aB x.2.1,aA aB x.2.2])/\StS w.heap.size w' u v x.1/\Ext w w'
theorem lI {w w':World} {x:aV × Int × Int} {s:aV} {n m:Int} {u v:Value} (h:x=(s,n,m)) (h1:StS w.heap.size w' u v s) (hx:Ext w w'):dN w x (.returned (.tuple #[.agg #[aA aB s.aL,aA aB s.aM,u,v],aA aB n,aA aB m])) w':=by
 subst h;exact⟨u,v,rfl,h1,hx⟩
theorem cA {w w':World} {x:aV × Int × Int} {n m:Int} (h:x=(fA,n,m)) (hx:Ext w w'):dN w x (.returned (.tuple #[.agg #[aA aB 0,aA aB 0,aE aD 0 0,aE aD 0 0],aA aB n,aA aB m])) w':=
 lI (s:=fA) h (.inr ⟨rfl,rfl,rfl,rfl⟩) hx
theorem bH {P:Program} {fn:Func} {p u1 u2:Tmp} {ty:TypeId} (h:fn.results=#[.cell p ty,.tmp u1,.tmp u2]) (tmps:Array Value) (w:World) (g:Nat) (t:TypeId) (cs:Array Value) (fr:Nat × Nat) (d:TypeDesc)
  (hp:tmps.getD p undef=.pointer (aC ⟨g,0,aD⟩)) (hg:w.heap[g]?=aC (.cells cs t fr))
  (hu:P.underlying ty=aC d) (hd:(match d with | .struct _ | .array _ _=>true | _=>false)=true) (hi:(P.info? ty).map (·.size)=aC cs.size) :
  (results fn tmps).run P w=.ok (.tuple #[.agg cs,tmps.getD u1 undef,tmps.getD u2 undef]) w:=by
 have hp':tmps[p]?.getD undef=.pointer (aC ⟨g,0,aD⟩):=by simpa using hp
 simp[results,h,hp',asAddr,run_loadVar_row w g t ty cs fr d hg hu hd hi]
theorem iS (w:World) (s:aV) (r:aS) (tv bv pv:Value):∃ w1:World,((w.alloc (.cells #[aA aB s.aL,aA aB s.aM,tv,bv] 25)).alloc (.cells #[aA aB r.aG,aA aB r.aI,aA aB r.aH,aA aB r.aJ,pv] 28)).alloc (.cells #[aA aB 0,aA aB 0,aE aD 0 0,aE aD 0 0] 25)=w1/\Ext w w1/\(∀ W,Ext w1 W->(W.cell? ⟨w.heap.size,0,aD⟩=aC (aA aB s.aL)/\W.cell? ⟨w.heap.size,1,aD⟩=aC (aA aB s.aM)/\W.cell? ⟨w.heap.size,2,aD⟩=aC tv/\W.cell? ⟨w.heap.size,3,aD⟩=aC bv))/\
  (∀ W,Ext w1 W->(W.cell? ⟨w.heap.size+1,0,aD⟩=aC (aA aB r.aG)/\W.cell? ⟨w.heap.size+1,1,aD⟩=aC (aA aB r.aI)/\W.cell? ⟨w.heap.size+1,2,aD⟩=aC (aA aB r.aH)/\W.cell? ⟨w.heap.size+1,3,aD⟩=aC (aA aB r.aJ)/\W.cell? ⟨w.heap.size+1,4,aD⟩=aC pv))/\
  (∀ W,Ext w1 W->W.heap[w.heap.size+1+1]?=aC (.cells #[aA aB 0,aA aB 0,aE aD 0 0,aE aD 0 0] 25 (0,0)))/\w1.heap.size=w.heap.size+3:=by
 refine⟨_,rfl,(((Ext.rf w).al _).al _).al _,fun W h=>eR ((((Ext.rf _).al _).al _).tr h),fun W h=>?_,fun W h=>?_,by simp⟩
 ·have:=bY (((Ext.rf _).al _).tr h)
  rwa [aCl] at this
 ·have e:=heap_alloc_new ((w.alloc (.cells #[aA aB s.aL,aA aB s.aM,tv,bv] 25)).alloc (.cells #[aA aB r.aG,aA aB r.aI,aA aB r.aH,aA aB r.aJ,pv] 28)) (.cells #[aA aB 0,aA aB 0,aE aD 0 0,aE aD 0 0] 25);simp only[aCl] at e;exact(h.block _ (by simp)).trans e
theorem Tb (w:World) (tv bv pv:Value) (s:aV) (r:aS) (hl:aX w tv s.aN) (hb:bD w bv s.aK) (hp:aU w pv r.aF) (h0:lY s r≠0) :
  Calls prog 38 #[.agg #[aA aB s.aL,aA aB s.aM,tv,bv],.agg #[aA aB r.aG,aA aB r.aI,aA aB r.aH,aA aB r.aJ,pv]] w (dN w (dC s r)):=by
 have F:=hid (fun(W:World) (h:Ext w W)=>pZ W tv bv pv s r (hl.mono h) (hb.mono h) (hp.mono h));obtain⟨wb,hwb,HX,HSS,HRR,HZZ,hszb⟩:=iS w s r tv bv pv;have HX0:=hid HX;have HS0:=hid HSS;have HR0:=hid HRR;have HZ0:=hid HZZ;have HWB:=hid hwb;clear HX HSS HRR hwb HZZ;have HR:=hid (mZ h0);have hne:=neT h0;obtain⟨qa,qc,rfl,_,_,_⟩:=hl.form;obtain⟨ba,bc,rfl,_,_,_⟩:=hb.form;obtain⟨pa,pc,rfl,_,_,_⟩:=hp.form;clear hl hb hp h0;generalize lY s r=ae at *;generalize s.aN.length=n at *;generalize s.aK.length=z at *;generalize r.aF.length=pn at *;go_enter func38,ntmps38
 go_wp2_with fail
 rw[HWB.out];refine(F.out _ HX0.out).mono ?_;rintro e w2 ⟨rfl,hx2⟩;have HB:=hid (HZ0.out w2 hx2);have HX2:=hid ((HX0.out.tr hx2).sr (b:=w.heap.size+1+1) (by omega) #[aA aB 0,aA aB 0,aE aD 0 0,aE aD 0 0]);have HB2:=hid (setRow_heap w2 (w.heap.size+1+1) _ #[aA aB 0,aA aB 0,aE aD 0 0,aE aD 0 0] _ _ HB.out)
 go_wp2_with (refine wpList_store_row rfl 25 _ _ rfl (w.heap.size+1+1) #[aA aB 0,aA aB 0,aE aD 0 0,aE aD 0 0] rfl rfl 25 _ HB.out size25 rfl (by simp[aBz]) ?_)
 exact bodyPost_ret (bH (u1:=5) (u2:=6) rfl _ _ (w.heap.size+1+1) 25 #[aA aB 0,aA aB 0,aE aD 0 0,aE aD 0 0] (0,0) _ rfl HB2.out underlying25 rfl size25) rfl (cA HR.out HX2.out)
theorem Po (w:World) (tv bv pv:Value) (s:aV) (r:aS) (hl:aX w tv s.aN) (hb:bD w bv s.aK) (hp:aU w pv r.aF) (h0:lY s r=0) (h1:s.aK.length=12\/s.aM=1048576) :
  Calls prog 38 #[.agg #[aA aB s.aL,aA aB s.aM,tv,bv],.agg #[aA aB r.aG,aA aB r.aI,aA aB r.aH,aA aB r.aJ,pv]] w (dN w (dC s r)):=by
 have F:=hid (fun(W:World) (h:Ext w W)=>pZ W tv bv pv s r (hl.mono h) (hb.mono h) (hp.mono h));obtain⟨wb,hwb,HX,HSS,HRR,HZZ,hszb⟩:=iS w s r tv bv pv;have HX0:=hid HX;have HS0:=hid HSS;have HR0:=hid HRR;have HZ0:=hid HZZ;have HWB:=hid hwb;clear HX HSS HRR hwb HZZ;have HR:=hid (rD h0 h1);rw[h0] at F;obtain⟨qa,qc,rfl,_,_,_⟩:=hl.form;obtain⟨ba,bc,rfl,_,_,_⟩:=hb.form;obtain⟨pa,pc,rfl,_,_,_⟩:=hp.form;clear hl hb hp h0;generalize s.aN.length=n at *;generalize s.aK.length=z at *;generalize r.aF.length=pn at *;go_enter func38,ntmps38
 go_wp2_with fail
 rw[HWB.out];refine(F.out _ HX0.out).mono ?_;rintro e w2 ⟨rfl,hx2⟩;obtain⟨a0,a1,a2,a3⟩:=HS0.out w2 hx2;have HB:=hid (HZ0.out w2 hx2);have HX2:=hid ((HX0.out.tr hx2).sr (b:=w.heap.size+1+1) (by omega) #[aA aB 0,aA aB 0,aE aD 0 0,aE aD 0 0]);have HB2:=hid (setRow_heap w2 (w.heap.size+1+1) _ #[aA aB 0,aA aB 0,aE aD 0 0,aE aD 0 0] _ _ HB.out);by_cases hz:(z:Int)=12
 ·have t1:=eqT hz
  go_wp2_with (refine wpList_store_row rfl 25 _ _ rfl (w.heap.size+1+1) #[aA aB 0,aA aB 0,aE aD 0 0,aE aD 0 0] rfl rfl 25 _ HB.out size25 rfl (by simp[aBz]) ?_)
  exact bodyPost_ret (bH (u1:=5) (u2:=6) rfl _ _ (w.heap.size+1+1) 25 #[aA aB 0,aA aB 0,aE aD 0 0,aE aD 0 0] (0,0) _ rfl HB2.out underlying25 rfl size25) rfl (cA HR.out HX2.out)
 ·have hn:s.aM=1048576:=by omega
  have t1:=eqF hz;have t2:=eqT hn
  go_wp2_with (refine wpList_store_row rfl 25 _ _ rfl (w.heap.size+1+1) #[aA aB 0,aA aB 0,aE aD 0 0,aE aD 0 0] rfl rfl 25 _ HB.out size25 rfl (by simp[aBz]) ?_)
  exact bodyPost_ret (bH (u1:=5) (u2:=6) rfl _ _ (w.heap.size+1+1) 25 #[aA aB 0,aA aB 0,aE aD 0 0,aE aD 0 0] (0,0) _ rfl HB2.out underlying25 rfl size25) rfl (cA HR.out HX2.out)
theorem Pn (w:World) (tv bv pv:Value) (s:aV) (r:aS) (hl:aX w tv s.aN) (hb:bD w bv s.aK) (hp:aU w pv r.aF) (hI:I64 r.aG/\I64 r.aI/\I64 r.aH/\I64 r.aJ) (h0:lY s r=0) (h1:¬ (s.aK.length=12\/s.aM=1048576)) :
  Calls prog 38 #[.agg #[aA aB s.aL,aA aB s.aM,tv,bv],.agg #[aA aB r.aG,aA aB r.aI,aA aB r.aH,aA aB r.aJ,pv]] w (dN w (dC s r)):=by
 have F:=hid (fun(W:World) (h:Ext w W)=>pZ W tv bv pv s r (hl.mono h) (hb.mono h) (hp.mono h));obtain⟨wb,hwb,HX,HSS,HRR,HZZ,hszb⟩:=iS w s r tv bv pv;have HX0:=hid HX;have HS0:=hid HSS;have HR0:=hid HRR;have HZ0:=hid HZZ;have HWB:=hid hwb;clear HX HSS HRR hwb HZZ;have HN:=hid (rE h0 h1);have HI:=hid (rC h0 h1);rw[h0] at F;obtain⟨hs,hrq,g1,g2,hfine,_⟩:=Rh h0;obtain⟨ok,h12,hbok⟩:=iI hs;obtain⟨m1,m3⟩:=hrq.many;obtain⟨_,hin,_⟩:=cS (cL hs).1;have RI:=hid (fun(W:World) (h:Ext w W)=>Gf W tv bv s.aN s.aK r.aG (hl.mono h) (hb.mono h) ok hbok h12 g1 g2);have PI:=hid (fun(W:World) (u:Value) (h:Ext w W) (hu:bC W u (bN (gX s.aN s.aK r.aG)))=>show Calls prog 44 #[u,.agg #[aA aB r.aG,aA aB r.aI,aA aB r.aH,aA aB r.aJ,pv]] W (oY W (cK (kB s r) r)) from Tj W u pv _ r hu (hp.mono h) hfine hrq);have OW:=hid (fun(W:World) (h:Ext w W)=>Up W tv bv s (hl.mono h) (hb.mono h) ok h12 hbok);have OR:=hid (fun(W:World) (h:Ext w W)=>Gj W pv r (hp.mono h) m1 m3);have HLV:=hid (nF hbok);have HCP:=hid (kZ ok);have t1:=eqF (a:=(s.aK.length:Int)) (b:=12) (fun h=>h1 (.inl (by omega)));have t2:=eqF (a:=s.aM) (b:=1048576) (fun h=>h1 (.inr h));have hnx:0<=s.aM/\s.aM < 1048576:=⟨hin.2.2.1,by have:=hin.2.2.2;have:s.aM≠1048576:=fun h=>h1 (.inr h);omega⟩;have hz12:s.aK.length < 12:=by have:s.aK.length≠12:=fun h=>h1 (.inl h);omega
 have HPM:=hid (And.intro m1 m3);have HPN:=hid (show r.aF≠[] from fun h=>by rw[h] at m1;exact absurd m1 (by decide));have HII:=hid hI;have HLL:=hid (fun h:cK (kB s r) r≠[]=>(⟨g1,g2,pI hrq h⟩:cB s.aN ⟨s.aM,r,cK (kB s r) r⟩).many.2);obtain⟨qa,qc,rfl,_,_,_⟩:=hl.form;obtain⟨ba,bc,rfl,_,_,_⟩:=hb.form;obtain⟨pa,pc,rfl,_,_,_⟩:=hp.form;clear hl hb hp h0 hs hrq hfine ok h12 hbok h1 g1 g2 hin m1 m3 hI;generalize cK (kB s r) r=L at *;generalize gX s.aN s.aK r.aG=x at *;generalize dC s r=sr at *;generalize hqn:s.aN.length=n at *;generalize hbz:s.aK.length=z at *;generalize hrp:r.aF.length=pn at *;have HQN:=hid hqn;have HBZ:=hid hbz;have HRP:=hid hrp;clear hqn hbz hrp;go_enter func38,ntmps38
 go_wp2_with fail
 rw[HWB.out];refine(F.out _ HX0.out).mono ?_;rintro e w2 ⟨rfl,hx2⟩;have hx02:=hid (HX0.out.tr hx2);have hxb2:=hid hx2;obtain⟨a0,a1,a2,a3⟩:=HS0.out w2 hx2;obtain⟨c0,c1,c2,c3,c4⟩:=HR0.out w2 hx2;clear hx2
 go_wp2_with fail
 go_region_held3 (fun w'=>(w'.cell? ⟨w.heap.size,2,aD⟩=aC (aE qa n qc)/\w'.cell? ⟨w.heap.size,3,aD⟩=aC (aE ba z bc)/\w'.cell? ⟨w.heap.size+1,0,aD⟩=aC (aA aB r.aG)/\w'.cell? ⟨w.heap.size+1,1,aD⟩=aC (aA aB r.aI)/\w'.cell? ⟨w.heap.size+1,2,aD⟩=aC (aA aB r.aH)/\w'.cell? ⟨w.heap.size+1,3,aD⟩=aC (aA aB r.aJ)/\w'.cell? ⟨w.heap.size+1,4,aD⟩=aC (aE pa pn pc)))
  (first
   | go_keep
   | (
     go_split_ands
     exact⟨hxk.ce' (by assumption),hxk.ce' (by assumption),hxk.ce' (by assumption),hxk.ce' (by assumption),hxk.ce' (by assumption),hxk.ce' (by assumption),hxk.ce' (by assumption)⟩))
  (first
   | (go_at_call 74;refine(RI.out _ hx02.out.dr).mono ?_;rintro e W1 ⟨u,rfl,hu,hxk⟩;obtain⟨ua,uc,rfl,_,_,_⟩:=hu.form;have HU:=hid hu;have HX1:=hid (hx02.out.dr.tr hxk);have HXB1:=hid (hxb2.out.dr.tr hxk);clear hu;generalize (bN x).length=fn at *)
   | (go_at_call 44;refine(PI.out _ _ HX1.out HU.out).mono ?_;rintro e W2 ⟨v,rfl,hv,hnil,hxk⟩;have HV:=hid hv;have HNIL:=hid hnil;have HX2:=hid (HX1.out.tr hxk);have HXB2:=hid (HXB1.out.tr hxk);clear hv hnil))
 clear a0 a1 a2 a3 c0 c1 c2 c3 c4;by_cases hL:L=[]
 ·obtain rfl:=HNIL.out.1 hL;have HR:=hid (HN.out hL);clear HN HI HV HNIL;have he:∀ W,Sem.run prog (binOp .eql 38 (aE aD 0 0) (aE aD 0 0)) W=.ok (.bool true) W:=fun W=>rfl;have HB:=hid (HZ0.out W2 HXB2.out);have HX3:=hid (HX2.out.sr (b:=w.heap.size+1+1) (by omega) #[aA aB 0,aA aB 0,aE aD 0 0,aE aD 0 0]);have HB2:=hid (setRow_heap W2 (w.heap.size+1+1) _ #[aA aB 0,aA aB 0,aE aD 0 0,aE aD 0 0] _ _ HB.out)
  go_wp2_with (refine wpList_store_row rfl 25 _ _ rfl (w.heap.size+1+1) #[aA aB 0,aA aB 0,aE aD 0 0,aE aD 0 0] rfl rfl 25 _ HB.out size25 rfl (by simp[aBz]) ?_)
  exact bodyPost_ret (bH (u1:=5) (u2:=6) rfl _ _ (w.heap.size+1+1) 25 #[aA aB 0,aA aB 0,aE aD 0 0,aE aD 0 0] (0,0) _ rfl HB2.out underlying25 rfl size25) rfl (cA HR.out HX3.out)
 ·have HR:=hid (HI.out hL);obtain⟨va,vc,rfl,hvc,hvc9,hvl,hvE⟩:=kM HV.out;have hz1:1<=L.length:=aD4.2 hL;obtain⟨vb,vo,rfl,hvb,hE⟩:=hvE hz1;have HFR:=hid (HNIL.out.2 _ _ _ rfl);have HLN:=hid hL;clear HN HI HNIL hvE hE hL;generalize hzz:L.length=m at *;have Hm:=hid hzz;clear hzz;have he:∀ W,Sem.run prog (binOp .eql 38 (aE (aC ⟨vb,vo,aD⟩) m vc) (aE aD 0 0)) W=.ok (.bool false) W:=fun W=>rfl;obtain⟨a0,a1,a2,a3⟩:=HS0.out W2 HXB2.out
  go_wp2_with fail
  refine(OW.out _ HX2.out).mono ?_;rintro e w7 ⟨u7,v7,rfl,hO7,hx7⟩;clear a0 a1 a2 a3;obtain⟨gq,qcp,rfl,hgB,hgs⟩:=hO7.uform;obtain⟨ra,rc,rfl,hrw⟩:=hO7.vform;rw[HBZ.out] at hO7 hrw ⊢;rw[HQN.out] at hO7 ⊢;have HX7:=hid (HX2.out.tr hx7);have HXB7:=hid (HXB2.out.tr hx7);have HVR:=hid hrw;have HGQ:=hid (And.intro hgB hgs);obtain⟨W8,hW8⟩:∃ W8,(w7.alloc (.cells #[aA aB 0,aA aB 0,aE aD 0 0,aE aD 0 0] 25)).setRow w7.heap.size #[aA aB s.aL,aA aB s.aM,aE (aC ⟨gq,0,aD⟩) n qcp,aE ra z rc]=W8:=⟨_,rfl⟩;have hx8:Ext w7 W8:=hW8▸((Ext.rf w7).al _).sr (b:=w7.heap.size) (aBq _) _;have hb8:W8.heap[w7.heap.size]?=aC (.cells #[aA aB s.aL,aA aB s.aM,aE (aC ⟨gq,0,aD⟩) n qcp,aE ra z rc] 25 (0,0)):=hW8▸setRow_heap (w7.alloc _) w7.heap.size _ _ _ _ (heap_alloc_new w7 _);have HW8:=hid hW8;have HX8:=hid (HX7.out.tr hx8);have HXB8:=hid (HXB7.out.tr hx8);have HO8:=hid ((((hO7.under (r:=w.heap.size+1+1) (by have:=HXB2.out.size;omega)).low (B2:=w.heap.size) HX2.out.size (fun r hr=>hr)).box (aBq _)).ext hx8);have HB8:=hid hb8;have HS8:=hid (show w7.heap.size < W8.heap.size from (aBy.1 hb8).1);have HV8:=hid ((HV.out:bJ W2 _ L).mono (hx7.tr hx8));have HSZ:=hid (And.intro HXB2.out.size hx7.size);clear hx7 hx8 hb8 hW8 hO7 hrw hgB hgs
  go_wp2_with (refine wpList_store_row rfl 25 _ _ rfl w7.heap.size #[aA aB s.aL,aA aB s.aM,aE (aC ⟨gq,0,aD⟩) n qcp,aE ra z rc] rfl rfl 25 _ (heap_alloc_new w7 _) size25 rfl (by simp[aBz]) ?_)
  rw[HW8.out];obtain⟨ib,ib1,ib2,ib3,ib4⟩:=info_parts info40;have e3:W8.cell? ⟨w7.heap.size,3,aD⟩=aC (aE ra z rc):=cell_of_row _ _ 3 _ _ _ HB8.out;obtain⟨a0,a1,a2,a3⟩:=HS0.out W8 HXB8.out;obtain⟨c0,c1,c2,c3,c4⟩:=HR0.out W8 HXB8.out;obtain⟨css,o1,hmore⟩:=HO8.out.more (by rw[HBZ.out];exact hz12);rw[HBZ.out] at o1;have HO1:=hid o1;have HMORE:=hid hmore;clear o1 hmore;have hne0:∀ k,(aE ra z rc).ownBlock=aC k->w.heap.size+1+1 < k:=fun k hk=>by have:=(HVR.out k hk).1;have:=HSZ.out.1;omega
  refine dF 11 (fun W=>W.cell? ⟨w7.heap.size,3,aD⟩=aC (aE ra z rc)/\W.cell? ⟨w.heap.size,1,aD⟩=aC (aA aB s.aM)/\W.cell? ⟨w.heap.size+1,0,aD⟩=aC (aA aB r.aG)/\W.cell? ⟨w.heap.size+1,1,aD⟩=aC (aA aB r.aI)/\W.cell? ⟨w.heap.size+1,2,aD⟩=aC (aA aB r.aH)/\W.cell? ⟨w.heap.size+1,3,aD⟩=aC (aA aB r.aJ)/\W.cell? ⟨w.heap.size+1,4,aD⟩=aC (aE pa pn pc)) (by kernel_rfl) ⟨e3,a1,c0,c1,c2,c3,c4⟩ (fun hHeld=>?_);clear e3 a0 a1 a2 a3 c0 c1 c2 c3 c4;refine tkT 0 ?_;refine tkT 1 ?_;refine tkT 2 ?_;refine tkT 3 ?_;refine tkT 4 ?_;refine tkT 6 ?_;refine dG (i:=5) (by kernel_rfl) rfl (fun K hK=>?_);simp only[zA,zB,zC];go_simp;refine(OR.out _ HX8.out.dr).mono ?_;rintro e W9 ⟨g9,cp9,rfl,hg9,hp9,hx9⟩
  go_wp2_with fail
  refine hK.out _ _ ?_ (fun hHeld=>?_)
  ·(obtain⟨k0,k1,k2,k3,k4,k5,k6⟩:=hHeld;exact⟨hx9.ce' k0,hx9.ce' k1,hx9.ce' k2,hx9.ce' k3,hx9.ce' k4,hx9.ce' k5,hx9.ce' k6⟩)
  clear hK K;refine tkT 7 ?_;refine dG (i:=8) (by kernel_rfl) rfl (fun K hK=>?_);simp only[zA,zB,zC];go_simp;refine hK.out _ _ ?_ (fun hHeld=>?_)
  ·(obtain⟨k0,k1,k2,k3,k4,k5,k6⟩:=hHeld;have hal:=(Ext.rf W9).al (.cells #[aA aB s.aM,aA aB r.aG,aA aB r.aI,aA aB r.aH,aA aB r.aJ,aE (aC ⟨g9,0,aD⟩) pn cp9,aE (aC ⟨vb,vo,aD⟩) m vc] 40);exact⟨hal.ce' k0,hal.ce' k1,hal.ce' k2,hal.ce' k3,hal.ce' k4,hal.ce' k5,hal.ce' k6⟩)
  clear hK K;have hx89:Ext W8 W9:=(Ext.rf W8).dr.tr hx9;have hal9:=hx89.al (.cells #[aA aB s.aM,aA aB r.aG,aA aB r.aI,aA aB r.aH,aA aB r.aJ,aE (aC ⟨g9,0,aD⟩) pn cp9,aE (aC ⟨vb,vo,aD⟩) m vc] 40);have hsz9:w7.heap.size < W9.heap.size:=aBA HS8.out hx89.size;have HX9:=hid (HX8.out.tr hal9);have HP9:=hid (hp9.mono ((Ext.rf W9).al (.cells #[aA aB s.aM,aA aB r.aG,aA aB r.aI,aA aB r.aH,aA aB r.aJ,aE (aC ⟨g9,0,aD⟩) pn cp9,aE (aC ⟨vb,vo,aD⟩) m vc] 40)));have HV9:=hid ((HV8.out:bJ W8 _ L).mono hal9);have HA9:=hid hal9;have HN7:=hid (xO W9 [aA aB s.aM,aA aB r.aG,aA aB r.aI,aA aB r.aH,aA aB r.aJ,aE (aC ⟨g9,0,aD⟩) pn cp9,aE (aC ⟨vb,vo,aD⟩) m vc] 40 rfl);refine dG (i:=9) (by kernel_rfl) rfl (fun K hK=>?_);simp only[zA,zB,zC];rw[if_pos (by rfl)];refine wp_append_lies _ _ _ _ (by rfl) w.heap.size 40 ib _ 7 88 underlying23 ib1 ib2 ib3 ib4 rfl (by decide) (aE ra z rc) z css.flatten (by rfl) (bE HO1.out HA9.out) ⟨W9.heap.size,0,aD⟩ 1 1 [aA aB s.aM,aA aB r.aG,aA aB r.aI,aA aB r.aH,aA aB r.aJ,aE (aC ⟨g9,0,aD⟩) pn cp9,aE (aC ⟨vb,vo,aD⟩) m vc] (by rfl) (by rfl) HN7.out (by simp[aBz]) (by omega) (by unfold maxLen;omega) (by omega) HX9.out.size (W9.heap.size+1) (by simp) ?_;intro g2 cp2 W10 hown hgrow hlie hlt;have hgn:∀ (b:Nat) (o:Nat) (u:Value),(W9.alloc (.cells #[aA aB s.aM,aA aB r.aG,aA aB r.aI,aA aB r.aH,aA aB r.aJ,aE (aC ⟨g9,0,aD⟩) pn cp9,aE (aC ⟨vb,vo,aD⟩) m vc] 40)).cell? ⟨b,o,aD⟩=aC u->(b<=w.heap.size+1\/b=w7.heap.size)->W10.cell? ⟨b,o,aD⟩=aC u:=fun b o u h hb=>by
   rw[aCk (a:=⟨b,o,aD⟩) (hgrow.block b (aBx _ ⟨b,o,aD⟩ h) (fun e=>by have h1:=hne0 b e.symm;have h2:=(HVR.out b e.symm).2;omega))];exact h
  refine hK.out _ _ ?_ (fun hHeld=>?_)
  ·(obtain⟨k0,k1,k2,k3,k4,k5,k6⟩:=hHeld;exact⟨hgn _ _ _ k0 (.inr rfl),hgn _ _ _ k1 (.inl (by omega)),hgn _ _ _ k2 (.inl (by omega)),hgn _ _ _ k3 (.inl (by omega)),hgn _ _ _ k4 (.inl (by omega)),hgn _ _ _ k5 (.inl (by omega)),hgn _ _ _ k6 (.inl (by omega))⟩)
  clear hK K;have hb10:W10.heap[w7.heap.size]?=aC (.cells #[aA aB s.aL,aA aB s.aM,aE (aC ⟨gq,0,aD⟩) n qcp,aE ra z rc] 25 (0,0)):=
   (hgrow.block w7.heap.size (by simp;omega) (fun e=>by have h2:=(HVR.out _ e.symm).2;omega)).trans ((HA9.out.block _ HS8.out).trans HB8.out)
  have f3:=frozen_of_row W10 w7.heap.size 3 _ _ hb10;have HB10:=hid hb10;have HOW:=hid hown;have HGRW:=hid hgrow;have HLIE:=hid hlie;clear hown hgrow hlie hgn hb10;refine tkT 10 ?_;refine eM (t:=11) (by kernel_rfl) rfl (by kernel_rfl) (fun K hK=>?_);simp only[zA,zB,zC];obtain⟨k0,_⟩:=hHeld;go_simp;refine hK.out _ _ ?_;clear hK K;have hgr11:=aY W10 w7.heap.size 3 (aE (aC ⟨g2,0,aD⟩) (z+1) cp2);have hO10:cP [w7.heap.size,w.heap.size+1+1] w.heap.size W10 (aE (aC ⟨gq,0,aD⟩) n qcp) (aE (aC ⟨g2,0,aD⟩) (z+1) cp2) s.aN (s.aK++[⟨s.aM,r,L⟩]):=by
   refine HMORE.out _ W10 g2 (z+1) cp2 [aA aB s.aM,aA aB r.aG,aA aB r.aI,aA aB r.aH,aA aB r.aJ,aE (aC ⟨g9,0,aD⟩) pn cp9,aE (aC ⟨vb,vo,aD⟩) m vc] ⟨s.aM,r,L⟩ HA9.out ⟨_,_,rfl,⟨_,rfl,by have h:=HP9.out;exact h,HII.out.1,HII.out.2.1,HII.out.2.2.1,HII.out.2.2.2⟩,HV9.out,⟨by show -9223372036854775808<=s.aM;omega,by show s.aM<=9223372036854775807;omega⟩⟩ ?_ ?_ HOW.out (by rw[HBZ.out]) HGRW.out (by have h:=HLIE.out;rw[aCl];exact h) ?_
   ·exact⟨⟨HPN.out,HLN.out⟩,by show 1<=r.aF.length/\r.aF.length<=3;rw[HRP.out];exact HPM.out,by show 1<=L.length;rw[Hm.out];exact hz1,by show L.length<=3;rw[Hm.out];exact HLL.out HLN.out⟩
   ·intro y hy a n' c e;rw[aCl];have hq:=HGQ.out;have hfr:=HFR.out;have hsz:=HSZ.out;have hx1:=HX1.out.size;have hxb1:=HXB1.out.size;have h8:=HS8.out;have hg9':W8.heap.size<=g9:=hg9;have hlt9:g9 < W9.heap.size:=by
     rcases hp9 with ⟨h,_⟩ | ⟨_,_,_,h,_,_,_,⟨h2,_⟩,_⟩
     ·exact absurd h HPN.out
     ·cases h;exact h2
    simp only[aC8,aCj,or_false] at hy;rcases hy with rfl | rfl | rfl | rfl | rfl | rfl | rfl
    ·cases e
    ·cases e
    ·cases e
    ·cases e
    ·cases e
    ·cases e;refine⟨by show g9 < W9.heap.size+1;omega,by show w.heap.size<=g9;omega,fun h=>?_,fun r' hr'=>?_,fun r' hr'=>?_⟩
     ·have h2:g9=w7.heap.size\/g9=w.heap.size+1+1:=by simpa using h
      omega
     ·have h2:gq=r':=by simpa[aCZ] using hr'
      show g9≠r';omega
     ·have:=HVR.out r' hr';show g9≠r';omega
    ·cases e;refine⟨by show vb < W9.heap.size+1;omega,by show w.heap.size<=vb;omega,fun h=>?_,fun r' hr'=>?_,fun r' hr'=>?_⟩
     ·have h2:vb=w7.heap.size\/vb=w.heap.size+1+1:=by simpa using h
      omega
     ·have h2:gq=r':=by simpa[aCZ] using hr'
      show vb≠r';omega
     ·have:=HVR.out r' hr';show vb≠r';omega
   ·intro r' hr';rw[aCl];have h2:r'=w7.heap.size\/r'=w.heap.size+1+1:=by simpa using hr'
    have:=HSZ.out;omega
  obtain⟨W11,hW11⟩:∃ W11,W10.setCell ⟨w7.heap.size,3,aD⟩ (aE (aC ⟨g2,0,aD⟩) (z+1) cp2)=W11:=⟨_,rfl⟩;have hb11:W11.heap[w7.heap.size]?=aC (.cells #[aA aB s.aL,aA aB s.aM,aE (aC ⟨gq,0,aD⟩) n qcp,aE (aC ⟨g2,0,aD⟩) (z+1) cp2] 25 (0,0)):=hW11▸heap_setCell_same W10 w7.heap.size 3 _ _ _ HB10.out;have hXs:w.heap.size+1+1 < w7.heap.size:=by have:=HSZ.out;omega
  have hx10:Ext w W10:=HX9.out.gr HGRW.out (fun k hk=>by have:=hne0 k hk;omega);have HO11:=hid (hW11▸hO10.kept hgr11 (aCw ..));have HX11:=hid (hW11▸hx10.se (b:=w7.heap.size) (o:=3) (by omega) (aE (aC ⟨g2,0,aD⟩) (z+1) cp2));have hold:∀ b,b<=w.heap.size+1+1->W11.heap[b]?=wb.heap[b]?:=fun b hb=>by
   have hbw:b < wb.heap.size:=by omega
   have hb8:b < W8.heap.size:=by have:=HXB8.out.size;omega
   rw[<- hW11,heap_setCell_other W10 ⟨w7.heap.size,3,aD⟩ b _ (by show b≠w7.heap.size;omega),HGRW.out.block b (by have:=HA9.out.size;omega) (fun e=>by have:=hne0 b e.symm;omega),HA9.out.block b hb8,HXB8.out.block b hbw]
  have HOLD:=hid hold;have hzz11:=(hold (w.heap.size+1+1) (aBq _)).trans (HZ0.out wb (Ext.rf wb));have HZ11:=hid hzz11;have HB11:=hid hb11;rw[hW11];clear hW11 hgr11 hO10 hx10 HB10 HOW HGRW HLIE k0 hzz11;have e1:W11.cell? ⟨w7.heap.size,1,aD⟩=aC (aA aB s.aM):=cell_of_row _ _ 1 _ _ _ hb11;have f1:=frozen_of_row W11 w7.heap.size 1 _ _ hb11;have hwr:IntKind.i64.wrap (s.aM+1)=s.aM+1:=by rw[IntKind.wrap_i64];omega
  clear hb11 hold f3
  go_wp2_with fail
  obtain⟨W12,hW12⟩:∃ W12,W11.setCell ⟨w7.heap.size,1,aD⟩ (aA aB (s.aM+1))=W12:=⟨_,rfl⟩;rw[hW12];have hgr12:W11.grownBy W12 (aC w7.heap.size):=hW12▸aY W11 w7.heap.size 1 (aA aB (s.aM+1));have hb12:W12.heap[w7.heap.size]?=aC (.cells #[aA aB s.aL,aA aB (s.aM+1),aE (aC ⟨gq,0,aD⟩) n qcp,aE (aC ⟨g2,0,aD⟩) (z+1) cp2] 25 (0,0)):=hW12▸heap_setCell_same W11 w7.heap.size 1 _ _ _ HB11.out;have HO12:=hid (HO11.out.kept hgr12 (aCw ..));have HX12:=hid (hW12▸HX11.out.se (b:=w7.heap.size) (o:=1) (by omega) (aA aB (s.aM+1)));have hzz12:W12.heap[w.heap.size+1+1]?=aC (.cells #[aA aB 0,aA aB 0,aE aD 0 0,aE aD 0 0] 25 (0,0)):=by
   rw[<- hW12,heap_setCell_other W11 ⟨w7.heap.size,1,aD⟩ _ _ (by show w.heap.size+1+1≠w7.heap.size;omega)];exact HZ11.out
  have a1:W12.cell? ⟨w.heap.size,1,aD⟩=aC (aA aB s.aM):=by
   obtain⟨_,h1,_⟩:=HS0.out wb (Ext.rf wb);rw[<- h1];refine aCk (a:=⟨w.heap.size,1,aD⟩) ?_;rw[<- hW12];exact(heap_setCell_other W11 ⟨w7.heap.size,1,aD⟩ _ _ (by show w.heap.size≠w7.heap.size;omega)).trans (HOLD.out w.heap.size (by omega))
  have d0:W12.cell? ⟨w7.heap.size,0,aD⟩=aC (aA aB s.aL):=cell_of_row _ _ 0 _ _ _ hb12;have d1:W12.cell? ⟨w7.heap.size,1,aD⟩=aC (aA aB (s.aM+1)):=cell_of_row _ _ 1 _ _ _ hb12;have d2:W12.cell? ⟨w7.heap.size,2,aD⟩=aC (aE (aC ⟨gq,0,aD⟩) n qcp):=cell_of_row _ _ 2 _ _ _ hb12;have d3:W12.cell? ⟨w7.heap.size,3,aD⟩=aC (aE (aC ⟨g2,0,aD⟩) (z+1) cp2):=cell_of_row _ _ 3 _ _ _ hb12;have z0:W12.cell? ⟨w.heap.size+1+1,0,aD⟩=aC (aA aB 0):=cell_of_row _ _ 0 _ _ _ hzz12;have z1:W12.cell? ⟨w.heap.size+1+1,1,aD⟩=aC (aA aB 0):=cell_of_row _ _ 1 _ _ _ hzz12;have z2:W12.cell? ⟨w.heap.size+1+1,2,aD⟩=aC (aE aD 0 0):=cell_of_row _ _ 2 _ _ _ hzz12;have z3:W12.cell? ⟨w.heap.size+1+1,3,aD⟩=aC (aE aD 0 0):=cell_of_row _ _ 3 _ _ _ hzz12;have y0:=frozen_of_row W12 (w.heap.size+1+1) 0 _ _ hzz12;have y1:=frozen_of_row W12 (w.heap.size+1+1) 1 _ _ hzz12;have y2:=frozen_of_row W12 (w.heap.size+1+1) 2 _ _ hzz12;have y3:=frozen_of_row W12 (w.heap.size+1+1) 3 _ _ hzz12;have n1:w.heap.size+1+1≠w7.heap.size:=by omega
  have n2:w.heap.size+1+1≠w.heap.size:=by omega
  have HZ12:=hid hzz12;clear hW12 hgr12 hb12 hzz12 e1 f1
  go_region_held3 (fun w'=>(w'.cell? ⟨w7.heap.size,0,aD⟩=aC (aA aB s.aL)/\w'.cell? ⟨w7.heap.size,1,aD⟩=aC (aA aB (s.aM+1))/\w'.cell? ⟨w7.heap.size,2,aD⟩=aC (aE (aC ⟨gq,0,aD⟩) n qcp)/\w'.cell? ⟨w7.heap.size,3,aD⟩=aC (aE (aC ⟨g2,0,aD⟩) (z+1) cp2)/\w'.cell? ⟨w.heap.size,1,aD⟩=aC (aA aB s.aM)))
   (go_keep) (fail)
  have hO13:=HO12.out.kept (rM W12 (w.heap.size+1+1) (aA aB s.aL) (aA aB (s.aM+1)) (aE (aC ⟨gq,0,aD⟩) n qcp) (aE (aC ⟨g2,0,aD⟩) (z+1) cp2)) (aBl _ (aCw ..));have hX13:=(((HX12.out.se (b:=w.heap.size+1+1) (o:=0) (by omega) (aA aB s.aL)).se (b:=w.heap.size+1+1) (o:=1) (by omega) (aA aB (s.aM+1))).se (b:=w.heap.size+1+1) (o:=2) (by omega) (aE (aC ⟨gq,0,aD⟩) n qcp)).se (b:=w.heap.size+1+1) (o:=3) (by omega) (aE (aC ⟨g2,0,aD⟩) (z+1) cp2);have HO13:=hid (hO13.ext (Ext.rf _).dr);have HX13:=hid hX13.dr;have HB13:=hid (xH (a0:=aA aB s.aL) (a1:=aA aB (s.aM+1)) (a2:=aE (aC ⟨gq,0,aD⟩) n qcp) (a3:=aE (aC ⟨g2,0,aD⟩) (z+1) cp2) HZ12.out);clear hO13 hX13
  go_wp2_with fail
  exact bodyPost_ret (bH (u1:=5) (u2:=6) rfl _ _ (w.heap.size+1+1) 25 #[aA aB s.aL,aA aB (s.aM+1),aE (aC ⟨gq,0,aD⟩) n qcp,aE (aC ⟨g2,0,aD⟩) (z+1) cp2] (0,0) _ rfl HB13.out underlying25 rfl size25) rfl (lI (s:=Jl s r L) HR.out (.inl (HO13.out.low (aBq _) (fun r hr=>by cases hr))) HX13.out)
theorem Tc (w:World) (tv bv pv:Value) (s:aV) (r:aS) (hl:aX w tv s.aN) (hb:bD w bv s.aK) (hp:aU w pv r.aF) (hI:I64 r.aG/\I64 r.aI/\I64 r.aH/\I64 r.aJ) :
  Calls prog 38 #[.agg #[aA aB s.aL,aA aB s.aM,tv,bv],.agg #[aA aB r.aG,aA aB r.aI,aA aB r.aH,aA aB r.aJ,pv]] w (dN w (dC s r)):=by
 by_cases h0:lY s r=0
 ·by_cases h1:s.aK.length=12\/s.aM=1048576
  ·exact Po w tv bv pv s r hl hb hp h0 h1
  ·exact Pn w tv bv pv s r hl hb hp hI h0 h1
 ·exact Tb w tv bv pv s r hl hb hp h0
theorem sV (w:World) (pv bv:Value) (x:aT) (hp:aU w pv x.aP.aF) (hb:bJ w bv x.aO) (hlx:sF x) :
  Calls prog 36 #[.agg #[aA aB x.Id,aA aB x.aP.aG,aA aB x.aP.aI,aA aB x.aP.aH,aA aB x.aP.aJ,pv,bv]] w fun e w'=>∃ g1 c1 g2 c2,e=.returned (.agg #[aA aB x.Id,aA aB x.aP.aG,aA aB x.aP.aI,aA aB x.aP.aH,aA aB x.aP.aJ,aE (aC ⟨g1,0,aD⟩) x.aP.aF.length c1,aE (aC ⟨g2,0,aD⟩) x.aO.length c2])/\
   w.heap.size<=g1/\w.heap.size<=g2/\aU w' (aE (aC ⟨g1,0,aD⟩) x.aP.aF.length c1) x.aP.aF/\bJ w' (aE (aC ⟨g2,0,aD⟩) x.aO.length c2) x.aO/\Ext w w':=by
 obtain⟨_,⟨m1,m3⟩,k1,k3⟩:=hlx;obtain⟨ir,ir1,ir2,ir3,ir4⟩:=info_parts info44;obtain⟨it,it1,it2,it3,it4⟩:=info_parts info42;obtain⟨pb,po,pc,rfl,_,_,hpb,hpE⟩:=eZ hp m1;obtain⟨va,vc,rfl,_,_,_,hvE⟩:=kM hb;obtain⟨vb,vo,rfl,hvb,hE⟩:=hvE k1;have HN1:=hid (mK hpE);have HN2:=hid (mK hE);have HI1:=hid (show ∀ r∈x.aP.aF,I64 r.Len/\I64 r.N from fun r hr=>by
  obtain⟨k,hk⟩:=aCU.1 hr;obtain⟨_,_,i1,i2⟩:=hpE k r hk;exact⟨i1,i2⟩)
 have HI2:=hid (show ∀ r∈x.aO,I64 r.Piece/\I64 r.At from fun r hr=>by
  obtain⟨k,hk⟩:=aCU.1 hr;obtain⟨_,_,i1,i2⟩:=hE k r hk;exact⟨i1,i2⟩)
 have HL1:=hid (gC Piece.Len Piece.N x.aP.aF);have HL2:=hid (gC bO.Piece bO.At x.aO);clear hp hb hpE hE hvE;generalize hpn:x.aP.aF.length=pn at *;generalize hbn:x.aO.length=bn at *;have HPN:=hid hpn;have HBN:=hid hbn;clear hpn hbn;obtain⟨W1,hW1⟩:∃ W1,(w.alloc (.cells #[aA aB x.Id,aA aB x.aP.aG,aA aB x.aP.aI,aA aB x.aP.aH,aA aB x.aP.aJ,aE (aC ⟨pb,po,aD⟩) pn pc,aE (aC ⟨vb,vo,aD⟩) bn vc] 40)).alloc (.cells #[aA aB 0,aA aB 0,aA aB 0,aA aB 0,aA aB 0,aE aD 0 0,aE aD 0 0] 40)=W1:=⟨_,rfl⟩;have hx1:Ext w W1:=hW1▸((Ext.rf w).al _).al _;have hs1:W1.heap.size=w.heap.size+1+1:=by rw[<- hW1];simp
 have hb1:W1.heap[w.heap.size]?=aC (.cells #[aA aB x.Id,aA aB x.aP.aG,aA aB x.aP.aI,aA aB x.aP.aH,aA aB x.aP.aJ,aE (aC ⟨pb,po,aD⟩) pn pc,aE (aC ⟨vb,vo,aD⟩) bn vc] 40 (0,0)):=by
  rw[<- hW1];exact(((Ext.rf _).al _).block _ (by simp)).trans (heap_alloc_new w _)
 have hz1:W1.heap[w.heap.size+1]?=aC (.cells #[aA aB 0,aA aB 0,aA aB 0,aA aB 0,aA aB 0,aE aD 0 0,aE aD 0 0] 40 (0,0)):=by
  rw[<- hW1];have:=heap_alloc_new (w.alloc (.cells #[aA aB x.Id,aA aB x.aP.aG,aA aB x.aP.aI,aA aB x.aP.aH,aA aB x.aP.aJ,aE (aC ⟨pb,po,aD⟩) pn pc,aE (aC ⟨vb,vo,aD⟩) bn vc] 40)) (.cells #[aA aB 0,aA aB 0,aA aB 0,aA aB 0,aA aB 0,aE aD 0 0,aE aD 0 0] 40)
  rwa [aCl] at this
 have HW1:=hid hW1;have HX1:=hid hx1;have HB1:=hid hb1;have HZ1:=hid hz1;clear hW1 hx1 hb1 hz1;go_enter func36,ntmps36;have hown:=jY W1 44 2 (by omega);rw[hs1] at hown;have HOW:=hid hown;clear hown
 go_wp2_with (at_builtin;rw[HW1.out];refine wpList_append_own _ rfl _ _ 26 rfl (w.heap.size+1+1) 44 ir _ 2 16 underlying26 ir1 ir2 ir3 ir4 rfl (by decide) _ _ _ rfl HOW.out ⟨pb,po,aD⟩ pn pc (cF Piece.Len Piece.N x.aP.aF) rfl HL1.out (fun j u hj=>eG (HX1.out.al _) (HN1.out j u hj)) (oN _) (by unfold maxLen;omega) (by omega) (by simp;omega) ?_)
 intro v3 W3 hown3 hgrow3 hnil3;obtain⟨g1,c1,rfl⟩:=iK hown3 (by omega);have hlt1:=eU hown3 g1 rfl;have hs3:w.heap.size+1+1 < W3.heap.size:=by have:=hgrow3.size;simp at this;omega
 have hb3:=(hgrow3.block w.heap.size (by simp;omega) (fun e=>by have e2:=Option.some.inj e;simp at e2;omega)).trans ((((Ext.rf W1).al (.cells #[] 44)).block w.heap.size (by omega)).trans HB1.out);have hz3:=(hgrow3.block (w.heap.size+1) (by simp;omega) (fun e=>by have e2:=Option.some.inj e;simp at e2)).trans ((((Ext.rf W1).al (.cells #[] 44)).block (w.heap.size+1) (by omega)).trans HZ1.out);have hx3:Ext w W3:=(HX1.out.al (.cells #[] 44)).gr hgrow3 (fun k hk=>by have e2:=Option.some.inj hk;simp at e2;omega);have hp3:aU W3 (aE (aC ⟨g1,0,aD⟩) pn c1) x.aP.aF:=by
  have h:=cG (base:=w.heap.size+1+1) (e:=44) (w:=W3) (v:=aE (aC ⟨g1,0,aD⟩) pn c1) (xs:=x.aP.aF) (f:=Piece.Len) (g:=Piece.N) (by rw[HPN.out];simpa using hown3) HI1.out (by rw[HPN.out];omega);exact h
 obtain⟨W4,hW4⟩:∃ W4,W3.setCell ⟨w.heap.size,5,aD⟩ (aE (aC ⟨g1,0,aD⟩) pn c1)=W4:=⟨_,rfl⟩;have hs4:W4.heap.size=W3.heap.size:=by rw[<- hW4];simp[World.setCell]
 have hb4:W4.heap[w.heap.size]?=aC (.cells #[aA aB x.Id,aA aB x.aP.aG,aA aB x.aP.aI,aA aB x.aP.aH,aA aB x.aP.aJ,aE (aC ⟨g1,0,aD⟩) pn c1,aE (aC ⟨vb,vo,aD⟩) bn vc] 40 (0,0)):=hW4▸heap_setCell_same W3 w.heap.size 5 _ _ _ hb3;have hz4:=hW4▸(heap_setCell_other W3 ⟨w.heap.size,5,aD⟩ (w.heap.size+1) (aE (aC ⟨g1,0,aD⟩) pn c1) (by show w.heap.size+1≠w.heap.size;omega)).trans hz3;have hx4:Ext w W4:=hW4▸hx3.se (aBq _) _;have hp4:aU W4 (aE (aC ⟨g1,0,aD⟩) pn c1) x.aP.aF:=hW4▸jC hp3 (aY W3 w.heap.size 5 _) (by omega);obtain⟨_,_,_,_,_,k5,k6,kf⟩:=dX hb3;have f5:=kf 5;have hown4:=jY W4 42 2 (by omega);rw[hs4] at hown4;have HOW4:=hid hown4;have HW4:=hid hW4;have HX4:=hid hx4;have HB4:=hid hb4;have HZ4:=hid hz4;have HP4:=hid hp4;have HS:=hid (And.intro hs3 (And.intro hs4 hlt1));have hg1:g1 < W3.heap.size:=(hown3.lt g1 rfl).2;have hw3:w.heap.size < W3.heap.size:=by omega
 clear kf hb3 hz3 hx3 hp3 hW4 hb4 hz4 hx4 hp4 hown4 hown3 hgrow3 HB1 HZ1 HX1 HW1 HOW hnil3 hlt1
 go_wp2_with (at_builtin;rw[HW4.out];refine wpList_append_own _ rfl _ _ 38 rfl W3.heap.size 42 it _ 2 16 underlying38 it1 it2 it3 it4 rfl (by decide) _ _ _ rfl HOW4.out ⟨vb,vo,aD⟩ bn vc (cF bO.Piece bO.At x.aO) rfl HL2.out (fun j u hj=>eG (HX4.out.al _) (HN2.out j u hj)) (oN _) (by unfold maxLen;omega) (by omega) (by simp;omega) ?_)
 intro v5 W5 hown5 hgrow5 hnil5;obtain⟨g2,c2,rfl⟩:=iK hown5 (by omega);have hlt2:=eU hown5 g2 rfl;have hs5:W3.heap.size < W5.heap.size:=by have:=hgrow5.size;simp at this;omega
 have hb5:=(hgrow5.block w.heap.size (by simp;omega) (fun e=>by have e2:=Option.some.inj e;simp at e2;omega)).trans ((((Ext.rf W4).al (.cells #[] 42)).block w.heap.size (by omega)).trans HB4.out);have hz5:=(hgrow5.block (w.heap.size+1) (by simp;omega) (fun e=>by have e2:=Option.some.inj e;simp at e2;omega)).trans ((((Ext.rf W4).al (.cells #[] 42)).block (w.heap.size+1) (by omega)).trans HZ4.out);have hx5:Ext w W5:=(HX4.out.al (.cells #[] 42)).gr hgrow5 (fun k hk=>by have e2:=Option.some.inj hk;simp at e2;omega);have hp5:aU W5 (aE (aC ⟨g1,0,aD⟩) pn c1) x.aP.aF:=jC (r:=W3.heap.size) (aU.mono HP4.out ((Ext.rf W4).al _)) hgrow5 (by omega);have hv5:bJ W5 (aE (aC ⟨g2,0,aD⟩) bn c2) x.aO:=by
  have h:=cG (base:=W3.heap.size) (e:=42) (w:=W5) (v:=aE (aC ⟨g2,0,aD⟩) bn c2) (xs:=x.aO) (f:=bO.Piece) (g:=bO.At) (by rw[HBN.out];simpa using hown5) HI2.out (by rw[HBN.out];omega);exact h
 obtain⟨W6,hW6⟩:∃ W6,W5.setCell ⟨w.heap.size,6,aD⟩ (aE (aC ⟨g2,0,aD⟩) bn c2)=W6:=⟨_,rfl⟩;have hb6:W6.heap[w.heap.size]?=aC (.cells #[aA aB x.Id,aA aB x.aP.aG,aA aB x.aP.aI,aA aB x.aP.aH,aA aB x.aP.aJ,aE (aC ⟨g1,0,aD⟩) pn c1,aE (aC ⟨g2,0,aD⟩) bn c2] 40 (0,0)):=hW6▸heap_setCell_same W5 w.heap.size 6 _ _ _ hb5;have hz6:=hW6▸(heap_setCell_other W5 ⟨w.heap.size,6,aD⟩ (w.heap.size+1) (aE (aC ⟨g2,0,aD⟩) bn c2) (by show w.heap.size+1≠w.heap.size;omega)).trans hz5;have hx6:Ext w W6:=hW6▸hx5.se (aBq _) _;have hp6:aU W6 (aE (aC ⟨g1,0,aD⟩) pn c1) x.aP.aF:=hW6▸jC hp5 (aY W5 w.heap.size 6 _) (by have:=HS.out.2.2;omega);have hv6:bJ W6 (aE (aC ⟨g2,0,aD⟩) bn c2) x.aO:=hW6▸jC hv5 (aY W5 w.heap.size 6 _) (by omega);obtain⟨_,_,_,_,_,_,k6,kf⟩:=dX hb5;have f6:=kf 6;have HX7:=hid (hx6.sr (b:=w.heap.size+1) (by omega) #[aA aB x.Id,aA aB x.aP.aG,aA aB x.aP.aI,aA aB x.aP.aH,aA aB x.aP.aJ,aE (aC ⟨g1,0,aD⟩) pn c1,aE (aC ⟨g2,0,aD⟩) bn c2]);have HP7:=hid (jC hp6 (bS W6 (w.heap.size+1) #[aA aB x.Id,aA aB x.aP.aG,aA aB x.aP.aI,aA aB x.aP.aH,aA aB x.aP.aJ,aE (aC ⟨g1,0,aD⟩) pn c1,aE (aC ⟨g2,0,aD⟩) bn c2]) (by have:=HS.out.2.2;omega));have HV7:=hid (jC hv6 (bS W6 (w.heap.size+1) #[aA aB x.Id,aA aB x.aP.aG,aA aB x.aP.aI,aA aB x.aP.aH,aA aB x.aP.aJ,aE (aC ⟨g1,0,aD⟩) pn c1,aE (aC ⟨g2,0,aD⟩) bn c2]) (by have:=HS.out.1;omega));have HZ6:=hid hz6;have HR7:=hid (setRow_heap W6 (w.heap.size+1) _ #[aA aB x.Id,aA aB x.aP.aG,aA aB x.aP.aI,aA aB x.aP.aH,aA aB x.aP.aJ,aE (aC ⟨g1,0,aD⟩) pn c1,aE (aC ⟨g2,0,aD⟩) bn c2] _ _ hz6);have HB6:=hid hb6;have HW6:=hid hW6;clear kf hb5 hz5 hx5 hp5 hv5 hW6 hb6 hz6 hx6 hp6 hv6 hown5 hgrow5 hnil5 HB4 HZ4 HX4 HP4 HW4 HOW4 k5 f5
 go_wp2_with (rw[HW6.out];obtain⟨k0,k1,k2,k3,k4,k5,k6,kf⟩:=dX HB6.out;refine wpList_store_row rfl 40 _ _ rfl (w.heap.size+1) #[aA aB x.Id,aA aB x.aP.aG,aA aB x.aP.aI,aA aB x.aP.aH,aA aB x.aP.aJ,aE (aC ⟨g1,0,aD⟩) pn c1,aE (aC ⟨g2,0,aD⟩) bn c2] rfl rfl 40 _ HZ6.out size40 rfl (by simp[aBz]) ?_)
 exact bodyPost_ret (results_cell_row rfl _ _ (w.heap.size+1) 40 #[aA aB x.Id,aA aB x.aP.aG,aA aB x.aP.aI,aA aB x.aP.aH,aA aB x.aP.aJ,aE (aC ⟨g1,0,aD⟩) pn c1,aE (aC ⟨g2,0,aD⟩) bn c2] (0,0) _ rfl HR7.out underlying40 rfl size40) rfl
  ⟨g1,c1,g2,c2,rfl,by have:=HS.out.2.2;omega,by omega,HP7.out,HV7.out,HX7.out⟩
theorem eD (w:World) (s:aV) (tv bv:Value):∃ w1:World,(w.alloc (.cells #[aA aB s.aL,aA aB s.aM,tv,bv] 25)).alloc (.cells #[aA aB 0,aA aB 0,aE aD 0 0,aE aD 0 0] 25)=w1/\Ext w w1/\(∀ W,Ext w1 W->(W.cell? ⟨w.heap.size,0,aD⟩=aC (aA aB s.aL)/\W.cell? ⟨w.heap.size,1,aD⟩=aC (aA aB s.aM)/\W.cell? ⟨w.heap.size,2,aD⟩=aC tv/\W.cell? ⟨w.heap.size,3,aD⟩=aC bv))/\
  (∀ W,Ext w1 W->W.heap[w.heap.size+1]?=aC (.cells #[aA aB 0,aA aB 0,aE aD 0 0,aE aD 0 0] 25 (0,0)))/\w1.heap.size=w.heap.size+2:=by
 refine⟨_,rfl,((Ext.rf w).al _).al _,fun W h=>eR (((Ext.rf _).al _).tr h),fun W h=>?_,by simp⟩;have e:=heap_alloc_new (w.alloc (.cells #[aA aB s.aL,aA aB s.aM,tv,bv] 25)) (.cells #[aA aB 0,aA aB 0,aE aD 0 0,aE aD 0 0] 25);simp only[aCl] at e;exact(h.block _ (by simp)).trans e
structure yO (w wb:World) (X:Nat) (u:Value) (s:aV) (bk:List aT) (v:Value) (W:World):Prop where
 box:W.heap[X]?=aC (.cells #[aA aB s.aL,aA aB s.aM,u,v] 25 (0,0))
 own:cP [X,w.heap.size+1,w.heap.size] w.heap.size W u v s.aN bk
 ext:Ext wb W
 low:wb.heap.size<=X
theorem yO.later {w wb:World} {X:Nat} {u:Value} {s:aV} {bk:List aT} {v:Value} {W W':World} (h:yO w wb X u s bk v W) (hx:Ext W W'):yO w wb X u s bk v W':=
 ⟨(hx.block X (aBy.1 h.box).1).trans h.box,h.own.ext hx,h.ext.tr hx,h.low⟩
theorem lU (w:World) (tv bv:Value) (s:aV) (hl:aX w tv s.aN) (hb:bD w bv s.aK) (ok:fB s.aN) (h12:s.aK.length<=12) (hok:∀ x∈s.aK,cB s.aN x) :
  Calls prog 12 #[.agg #[aA aB s.aL,aA aB s.aM,tv,bv]] w fun e w'=>∃ u v,e=.returned (.agg #[aA aB s.aL,aA aB s.aM,u,v])/\cP [] w.heap.size w' u v s.aN s.aK/\Ext w w':=by
 obtain⟨wb,hwb,HX,HSS,HZZ,hszb⟩:=eD w s tv bv;have HX0:=hid HX;have HS0:=hid HSS;have HZ0:=hid HZZ;have HWB:=hid hwb;have HSB:=hid hszb;clear HX HSS HZZ hwb hszb;have OT:=hid (fun(bs:List Nat) (W:World) (h:Ext w W) (hbs:∀ r∈bs,r < W.heap.size)=>Eb bs W tv s.aN (hl.mono h) ok hbs);have HOK:=hid ok;have HBS1:=hid (fun(n:Nat) (hn:w.heap.size+2<=n)=>show ∀ r∈(w.heap.size+1)::w.heap.size::List.range w.heap.size,r < n from fun r hr=>by
  rcases aC8.1 hr with h | h
  ·omega
  ·rcases aC8.1 h with h | h
   ·omega
   ·have:=kH h;omega)
 have HLT:=hid (show wb.heap.size < (wb.alloc (.cells #[aA aB 0,aA aB 0,aE aD 0 0,aE aD 0 0] 25)).drew.heap.size from by show wb.heap.size < (wb.alloc _).heap.size;simp);have HLV:=hid (nF hok);have HBV:=hid hb;have HTL:=hid hl;obtain⟨qa,qc,rfl,_,_,_⟩:=hl.form;obtain⟨ba,bc,rfl,_,_,_⟩:=hb.form;clear hl hb ok hok;obtain⟨a0,a1,a2,a3⟩:=HS0.out wb (Ext.rf wb);go_enter func12,ntmps12
 go_wp2_with fail
 rw[HWB.out]
 go_cut [3] from 5 (fun p W=>∃ (X g cap:Nat),p=.pointer (aC ⟨X,0,aD⟩)/\Hid (yO w wb X (aE (aC ⟨g,0,aD⟩) s.aN.length cap) s (s.aK.take 0) (aE aD 0 0) W))
 case first=>
  refine wp_region_held_drew (S:=fun W=>W.cell? ⟨w.heap.size,0,aD⟩=aC (aA aB s.aL)/\W.cell? ⟨w.heap.size,1,aD⟩=aC (aA aB s.aM)/\W.cell? ⟨w.heap.size,2,aD⟩=aC (aE qa s.aN.length qc)) (by kernel_rfl) ⟨a0,a1,a2⟩ (fun hHeld=>?_);refine tkH 0 ?_;refine tkH 1 ?_;refine tkH 2 ?_;refine tkH 3 ?_;refine tkH 4 ?_;refine tkH 5 ?_;refine wpAnyH_ready (rs:=[6,8]) (by kernel_rfl) (by simp) ?_;refine AllReadyH.cons rfl (fun K hK=>?_) (AllReadyH.cons rfl (fun K hK=>?_) AllReadyH.nil)
  all_goals simp only[zA,zB,zC]
  ·go_simp;refine(OT.out ((w.heap.size+1)::w.heap.size::List.range w.heap.size) _ HX0.out.dr (HBS1.out _ (aD5 HSB.out.symm))).mono ?_;rintro e W1 ⟨g,cap,rfl,hc1,hc2,hg,hq,hx⟩
   go_wp2_with fail
   have hx1:Ext wb W1:=(Ext.rf wb).dr.tr hx;refine hK.out _ _ ?_ (fun hHeld=>?_)
   ·(obtain⟨k0,k1,k2,_⟩:=HS0.out W1 hx1;exact⟨k0,k1,k2⟩)
   clear hK K;refine tkH 7 ?_;refine wpAnyH_ready (rs:=[8]) (by kernel_rfl) (by simp) ?_;refine AllReadyH.cons rfl (fun K hK=>?_) AllReadyH.nil;simp only[zA,zB,zC];go_simp;refine hK.out _ _ ?_ (fun hHeld=>?_)
   ·(obtain⟨k0,k1,k2,_⟩:=HS0.out _ (hx1.al (.cells #[aA aB 0,aA aB 0,aE aD 0 0,aE aD 0 0] 25));exact⟨k0,k1,k2⟩)
   clear hK K;refine wpAnyH_ready (rs:=[9]) (by kernel_rfl) (by simp) ?_;refine AllReadyH.cons rfl (fun K hK=>?_) AllReadyH.nil;simp only[zA,zB,zC];rw[if_pos (by rfl)];refine wp_store_row 25 _ _ rfl W1.heap.size #[aA aB s.aL,aA aB s.aM,aE (aC ⟨g,0,aD⟩) s.aN.length cap,aE aD 0 0] rfl rfl 25 _ (heap_alloc_new W1 _) size25 rfl (by simp[aBz]) ?_;have hx2:Ext wb ((W1.alloc (.cells #[aA aB 0,aA aB 0,aE aD 0 0,aE aD 0 0] 25)).setRow W1.heap.size #[aA aB s.aL,aA aB s.aM,aE (aC ⟨g,0,aD⟩) s.aN.length cap,aE aD 0 0]):=(hx1.al _).sr (b:=W1.heap.size) hx1.size _;refine hK.out _ _ ?_ (fun hHeld=>?_)
   ·(obtain⟨k0,k1,k2,_⟩:=HS0.out _ hx2;exact⟨k0,k1,k2⟩)
   clear hK K;refine wpAnyH_done (by kernel_rfl) ?_ _
   go_wp2_with fail
   go_meet
   case rel=>
    have hX:Ext W1 ((W1.alloc (.cells #[aA aB 0,aA aB 0,aE aD 0 0,aE aD 0 0] 25)).setRow W1.heap.size #[aA aB s.aL,aA aB s.aM,aE (aC ⟨g,0,aD⟩) s.aN.length cap,aE aD 0 0]):=((Ext.rf W1).al _).sr (b:=W1.heap.size) (aBq _) _;have hwb:wb.heap.size<=g:=hg;have hsb:=HSB.out;have ho:=cP.ofTree (ex:=[w.heap.size+1,w.heap.size]) (B:=w.heap.size) hq hc1 hc2 HOK.out (by omega) (by simp;omega);exact⟨_,_,_,rfl,⟨setRow_heap _ W1.heap.size _ _ _ _ (heap_alloc_new W1 _),(ho.box (aBq _)).ext hX,hx2,hx1.size⟩⟩
  ·go_simp;refine hK.out _ _ ?_ (fun hHeld=>?_)
   ·(obtain⟨k0,k1,k2,_⟩:=HS0.out _ ((Ext.rf wb).al (.cells #[aA aB 0,aA aB 0,aE aD 0 0,aE aD 0 0] 25));exact⟨k0,k1,k2⟩)
   clear hK K;refine wpAnyH_ready (rs:=[6]) (by kernel_rfl) (by simp) ?_;refine AllReadyH.cons rfl (fun K hK=>?_) AllReadyH.nil;simp only[zA,zB,zC];go_simp;refine(OT.out (wb.heap.size::(w.heap.size+1)::w.heap.size::List.range w.heap.size) _ (HX0.out.al _).dr (fun r hr=>?_)).mono ?_
   ·rcases aC8.1 hr with h | h
    ·rw[h];exact HLT.out
    ·have:=HBS1.out _ (aD5 HSB.out.symm) r h;exact Nat.lt_trans this HLT.out
   rintro e W1 ⟨g,cap,rfl,hc1,hc2,hg,hq,hx⟩
   go_wp2_with fail
   have hx1:Ext wb W1:=((Ext.rf wb).al _).dr.tr hx;refine hK.out _ _ ?_ (fun hHeld=>?_)
   ·(obtain⟨k0,k1,k2,_⟩:=HS0.out W1 hx1;exact⟨k0,k1,k2⟩)
   clear hK K;refine tkH 7 ?_;refine wpAnyH_ready (rs:=[9]) (by kernel_rfl) (by simp) ?_;refine AllReadyH.cons rfl (fun K hK=>?_) AllReadyH.nil;simp only[zA,zB,zC];rw[if_pos (by rfl)];have hXB:W1.heap[wb.heap.size]?=aC (.cells #[aA aB 0,aA aB 0,aE aD 0 0,aE aD 0 0] 25 (0,0)):=(hx.block _ HLT.out).trans (heap_alloc_new wb _);refine wp_store_row 25 _ _ rfl wb.heap.size #[aA aB s.aL,aA aB s.aM,aE (aC ⟨g,0,aD⟩) s.aN.length cap,aE aD 0 0] rfl rfl 25 _ hXB size25 rfl (by simp[aBz]) ?_;have hx2:Ext wb (W1.setRow wb.heap.size #[aA aB s.aL,aA aB s.aM,aE (aC ⟨g,0,aD⟩) s.aN.length cap,aE aD 0 0]):=hx1.sr (b:=wb.heap.size) (aBq _) _;refine hK.out _ _ ?_ (fun hHeld=>?_)
   ·(obtain⟨k0,k1,k2,_⟩:=HS0.out _ hx2;exact⟨k0,k1,k2⟩)
   clear hK K;refine wpAnyH_done (by kernel_rfl) ?_ _
   go_wp2_with fail
   go_meet
   case rel=>
    have hlt:=HLT.out;have hsb:=HSB.out;have hwb:wb.heap.size+1<=g:=by
     have h2:(wb.alloc (.cells #[aA aB 0,aA aB 0,aE aD 0 0,aE aD 0 0] 25)).drew.heap.size<=g:=hg;have h3:(wb.alloc (.cells #[aA aB 0,aA aB 0,aE aD 0 0,aE aD 0 0] 25)).heap.size=wb.heap.size+1:=by simp
     have h4:(wb.alloc (.cells #[aA aB 0,aA aB 0,aE aD 0 0,aE aD 0 0] 25)).drew.heap.size=(wb.alloc (.cells #[aA aB 0,aA aB 0,aE aD 0 0,aE aD 0 0] 25)).heap.size:=rfl;omega
    have ho:=cP.ofTree (ex:=[wb.heap.size,w.heap.size+1,w.heap.size]) (B:=w.heap.size) hq hc1 hc2 HOK.out (by omega) (by simp;omega);exact⟨_,_,_,rfl,⟨setRow_heap _ wb.heap.size _ _ _ _ hXB,ho.kept (bS _ _ _) (aCw ..),hx2,aBq _⟩⟩
 case rest=>
  obtain⟨X,g,cap,rfl,HR0⟩:=hcut;obtain⟨ib,ib1,ib2,ib3,ib4⟩:=info_parts info40;obtain⟨ba',bc',hbe,_,_,_,hbE⟩:=jD HBV.out;cases hbe;have HBE:=hid hbE;clear hbE;generalize hbz:s.aK.length=z at *;have HZB:=hid hbz;clear hbz;clear a0 a1 a2 a3
  go_wp2_with fail
  go_loopw [4] (fun c wr=>∃ (k:Nat) (v:Value),c=aA aB k/\k<=z/\Hid (yO w wb X (aE (aC ⟨g,0,aD⟩) s.aN.length cap) s (s.aK.take k) v wr)) (fun c _=>z - (intOf c).toNat)
  case atStart=>exact⟨0,_,rfl,by omega,HR0⟩
  case round=>
   obtain⟨k,v,rfl,hk,HA⟩:=hrel;obtain⟨_,_,_,k3⟩:=HS0.out wr HA.out.ext;have hXw:X < wr.heap.size:=(aBy.1 HA.out.box).1;have hXB:=HA.out.low;by_cases hlt:k < z
   ·have hlt':(k:Int) < (z:Int):=by omega
    have hlen:(s.aK.take k).length=k:=by rw[aCH,HZB.out];omega
    obtain⟨va,vcc,rfl,hrow⟩:=HA.out.own.vform;rw[hlen] at hrow HA;have HROW:=hid hrow;obtain⟨css,o1,hmore⟩:=HA.out.own.more (by rw[hlen];omega);rw[hlen] at o1;have HO1:=hid o1;have HMORE:=hid hmore;obtain⟨_,_,he,hgB,hgs⟩:=HA.out.own.uform;cases he;obtain⟨x,hxk⟩:=bT (f:=s.aK) (k:=k) (by rw[HZB.out];exact hlt);have hlx:sF x:=HLV.out x (aBJ hxk);obtain⟨bb,bo,rfl,hbb,hEE⟩:=HBE.out (by omega);obtain⟨pv,bv,c0,c1,c2,c3,c4,c5,c6,hp,hbi⟩:=cZ (iR.mono w wr bb _ x (HX0.out.tr HA.out.ext) (hEE k x hxk));have hX0:=hid (show I64 x.Id/\I64 x.aP.aG/\I64 x.aP.aI/\I64 x.aP.aH/\I64 x.aP.aJ from by
     obtain⟨cs,⟨qs,bv,rfl,⟨pv,rfl,hp,i1,i2,i3,i4⟩,hb,i5⟩,_⟩:=hEE k x hxk;exact⟨i5,i1,i2,i3,i4⟩)
    have OB:=hid (fun(W:World) (h:Ext wr W)=>sV W pv bv x (hp.mono h) (hbi.mono h) hlx);have HTK:=hid (show s.aK.take (k+1)=s.aK.take k++[x] from by rw[aD6,hxk];rfl);obtain⟨pa,pc,rfl,_,_,_⟩:=hp.form;obtain⟨ia,ic,rfl,_,_,_⟩:=hbi.form;have HLX:=hid hlx;have e3:wr.cell? ⟨X,3,aD⟩=aC (aE va k vcc):=cell_of_row _ _ 3 _ _ _ HA.out.box;have t1:=deF (show ¬ (k:Int) < 0 by omega);have t2:=deF (show ¬ (z:Int)<=(k:Int) by omega);have t3:=deF (show ¬ z<=k by omega);have hbbw:bb < wr.heap.size:=aBA hbb (HX0.out.tr HA.out.ext).size;have hrw2:∀ r,(aE va k vcc).ownBlock=aC r->w.heap.size<=r/\r < wr.heap.size/\r≠X/\r≠w.heap.size/\r≠w.heap.size+1:=fun r hr=>⟨(hrow r hr).1,(hrow r hr).2,HA.out.own.vne r hr X (aCw ..),HA.out.own.vne r hr w.heap.size (by simp),HA.out.own.vne r hr (w.heap.size+1) (by simp)⟩;clear hp hbi hxk hlx hrow o1 hmore hEE
    go_wp2_with fail
    refine dF 11 (fun W=>W.cell? ⟨X,3,aD⟩=aC (aE va k vcc)/\W.cell? ⟨w.heap.size,3,aD⟩=aC (aE (aC ⟨bb,bo,aD⟩) z bc)/\W.cell? ⟨bb,bo+k*7,aD⟩=aC (aA aB x.Id)/\W.cell? ⟨bb,bo+k*7+1,aD⟩=aC (aA aB x.aP.aG)/\W.cell? ⟨bb,bo+k*7+2,aD⟩=aC (aA aB x.aP.aI)/\W.cell? ⟨bb,bo+k*7+3,aD⟩=aC (aA aB x.aP.aH)/\W.cell? ⟨bb,bo+k*7+4,aD⟩=aC (aA aB x.aP.aJ)/\W.cell? ⟨bb,bo+k*7+5,aD⟩=aC (aE pa x.aP.aF.length pc)/\W.cell? ⟨bb,bo+k*7+6,aD⟩=aC (aE ia x.aO.length ic)) (by kernel_rfl) ⟨e3,k3,c0,c1,c2,c3,c4,c5,c6⟩ (fun hHeld=>?_);refine tkT 0 ?_;refine tkT 1 ?_;refine tkT 2 ?_;refine tkT 3 ?_;refine tkT 4 ?_;refine tkT 5 ?_;refine tkT 6 ?_;refine dG (i:=7) (by kernel_rfl) rfl (fun K hK=>?_);simp only[zA,zB,zC];go_simp;refine(OB.out _ (Ext.rf wr).dr).mono ?_;rintro e W2 ⟨g1,cp1,g2,cp2,rfl,hg1,hg2,hp2,hv2,hx2⟩
    go_wp2_with fail
    have hx02:Ext wr W2:=(Ext.rf wr).dr.tr hx2;refine hK.out _ _ ?_ (fun hHeld=>?_)
    ·(obtain⟨k0,k1,k2,k3,k4,k5,k6,k7,k8⟩:=hHeld;exact⟨hx2.ce' k0,hx2.ce' k1,hx2.ce' k2,hx2.ce' k3,hx2.ce' k4,hx2.ce' k5,hx2.ce' k6,hx2.ce' k7,hx2.ce' k8⟩)
    clear hK K;refine dG (i:=8) (by kernel_rfl) rfl (fun K hK=>?_);simp only[zA,zB,zC];go_simp;have hal:=(Ext.rf W2).al (.cells #[aA aB x.Id,aA aB x.aP.aG,aA aB x.aP.aI,aA aB x.aP.aH,aA aB x.aP.aJ,aE (aC ⟨g1,0,aD⟩) x.aP.aF.length cp1,aE (aC ⟨g2,0,aD⟩) x.aO.length cp2] 40);refine hK.out _ _ ?_ (fun hHeld=>?_)
    ·(obtain⟨k0,k1,k2,k3,k4,k5,k6,k7,k8⟩:=hHeld;exact⟨hal.ce' k0,hal.ce' k1,hal.ce' k2,hal.ce' k3,hal.ce' k4,hal.ce' k5,hal.ce' k6,hal.ce' k7,hal.ce' k8⟩)
    clear hK K;have HX2:=hid (hx02.tr hal);have HN7:=hid (xO W2 [aA aB x.Id,aA aB x.aP.aG,aA aB x.aP.aI,aA aB x.aP.aH,aA aB x.aP.aJ,aE (aC ⟨g1,0,aD⟩) x.aP.aF.length cp1,aE (aC ⟨g2,0,aD⟩) x.aO.length cp2] 40 rfl);have HG:=hid (zK (W:=wr) (W1:=W2.alloc (.cells #[aA aB x.Id,aA aB x.aP.aG,aA aB x.aP.aI,aA aB x.aP.aH,aA aB x.aP.aJ,aE (aC ⟨g1,0,aD⟩) x.aP.aF.length cp1,aE (aC ⟨g2,0,aD⟩) x.aO.length cp2] 40)) (B:=w.heap.size) (ex:=[X,w.heap.size+1,w.heap.size]) (u:=aE (aC ⟨g,0,aD⟩) s.aN.length cap) (v:=aE va k vcc) (n1:=x.aP.aF.length) (n2:=x.aO.length) (c1:=cp1) (c2:=cp2) (x:=x) (HX0.out.tr HA.out.ext).size hg1 hg2 (by rw[aCl];have:=zJ hp2 HLX.out.1.1;omega) (by rw[aCl];have:=zJ hv2 HLX.out.1.2;omega) (fun r hr=>by
     have h2:r=X\/r=w.heap.size+1\/r=w.heap.size:=by simpa using hr
     have:=HSB.out;omega) (fun r hr=>by
     have h2:g=r:=by simpa[aCZ] using hr
     omega) (fun r hr=>(hrw2 r hr).2.1))
    have HBC:=hid (show fE (W2.alloc (.cells #[aA aB x.Id,aA aB x.aP.aG,aA aB x.aP.aI,aA aB x.aP.aH,aA aB x.aP.aJ,aE (aC ⟨g1,0,aD⟩) x.aP.aF.length cp1,aE (aC ⟨g2,0,aD⟩) x.aO.length cp2] 40)) [aA aB x.Id,aA aB x.aP.aG,aA aB x.aP.aI,aA aB x.aP.aH,aA aB x.aP.aJ,aE (aC ⟨g1,0,aD⟩) x.aP.aF.length cp1,aE (aC ⟨g2,0,aD⟩) x.aO.length cp2] x from ⟨_,_,rfl,⟨_,rfl,hp2.mono ((Ext.rf W2).al _),hX0.out.2⟩,hv2.mono ((Ext.rf W2).al _),hX0.out.1⟩);clear hp2 hv2 hal hx02;refine dG (i:=9) (by kernel_rfl) rfl (fun K hK=>?_);simp only[zA,zB,zC];rw[if_pos (by rfl)];refine wp_append_lies _ _ _ _ (by rfl) w.heap.size 40 ib _ 7 88 underlying23 ib1 ib2 ib3 ib4 rfl (by decide) (aE va k vcc) k css.flatten (by rfl) (bE HO1.out HX2.out) ⟨W2.heap.size,0,aD⟩ 1 1 [aA aB x.Id,aA aB x.aP.aG,aA aB x.aP.aI,aA aB x.aP.aH,aA aB x.aP.aJ,aE (aC ⟨g1,0,aD⟩) x.aP.aF.length cp1,aE (aC ⟨g2,0,aD⟩) x.aO.length cp2] (by rfl) (by rfl) HN7.out (by simp[aBz]) (by omega) (by unfold maxLen;omega) (by omega) ((HX0.out.tr HA.out.ext).tr HX2.out).size (W2.heap.size+1) (by simp) ?_;intro g3 cp3 W3 hown hgrow hlie hlt3;have hgn:∀ (b:Nat) (o:Nat) (u:Value),(W2.alloc (.cells #[aA aB x.Id,aA aB x.aP.aG,aA aB x.aP.aI,aA aB x.aP.aH,aA aB x.aP.aJ,aE (aC ⟨g1,0,aD⟩) x.aP.aF.length cp1,aE (aC ⟨g2,0,aD⟩) x.aO.length cp2] 40)).cell? ⟨b,o,aD⟩=aC u->(b < w.heap.size\/b=w.heap.size\/b=X)->W3.cell? ⟨b,o,aD⟩=aC u:=fun b o u h hb=>fP hgrow h (fun r hr e=>by
     subst e;have h2:=hrw2 r hr;omega)
    refine hK.out _ _ ?_ (fun hHeld=>?_)
    ·(obtain⟨k0,k1,k2,k3,k4,k5,k6,k7,k8⟩:=hHeld;exact⟨hgn _ _ _ k0 (.inr (.inr rfl)),hgn _ _ _ k1 (.inr (.inl rfl)),hgn _ _ _ k2 (.inl hbb),hgn _ _ _ k3 (.inl hbb),hgn _ _ _ k4 (.inl hbb),hgn _ _ _ k5 (.inl hbb),hgn _ _ _ k6 (.inl hbb),hgn _ _ _ k7 (.inl hbb),hgn _ _ _ k8 (.inl hbb)⟩)
    clear hK K;have hb3:W3.heap[X]?=aC (.cells #[aA aB s.aL,aA aB s.aM,aE (aC ⟨g,0,aD⟩) s.aN.length cap,aE va k vcc] 25 (0,0)):=
     (hgrow.block X (aBA hXw HX2.out.size) (fun e=>(hrw2 X e.symm).2.2.1 rfl)).trans ((HX2.out.block X hXw).trans HA.out.box)
    have f3:=frozen_of_row W3 X 3 _ _ hb3;have hgs3:=aY W3 X 3 (aE (aC ⟨g3,0,aD⟩) (k+1) cp3);have HA3:=hid (show yO w wb X (aE (aC ⟨g,0,aD⟩) s.aN.length cap) s (s.aK.take (k+1)) (aE (aC ⟨g3,0,aD⟩) (k+1) cp3) (W3.setCell ⟨X,3,aD⟩ (aE (aC ⟨g3,0,aD⟩) (k+1) cp3)) from by
     refine⟨heap_setCell_same W3 X 3 _ _ _ hb3,?_,((HA.out.ext.tr HX2.out).gr hgrow (fun r hr=>by have:=hrw2 r hr;have:=HSB.out;omega)).se hXB _,hXB⟩;rw[HTK.out];refine(HMORE.out _ W3 g3 (k+1) cp3 _ x HX2.out HBC.out HLX.out HG.out hown (by rw[hlen]) hgrow (by rw[aCl];exact hlie) (fun r hr=>?_)).kept hgs3 (aCw ..);have h2:r=X\/r=w.heap.size+1\/r=w.heap.size:=by simpa using hr
     have:=HSB.out;have:=HX2.out.size;omega)
    clear hgn hown hgrow hlie hb3 hgs3;refine tkT 10 ?_;refine eM (t:=11) (by kernel_rfl) rfl (by kernel_rfl) (fun K hK=>?_);simp only[zA,zB,zC];obtain⟨k0,_⟩:=hHeld;go_simp;refine hK.out _ _ ?_;clear hK K
    go_wp2_with fail
    go_roundw
    case rel=>exact⟨k+1,_,by go_num,by omega,HA3⟩
    case measure=>simp[intOf];omega
   ·obtain rfl:k=z:=by omega
    have hlt':¬ (k:Int) < (k:Int):=by omega
    have htk:s.aK.take k=s.aK:=aCM (by rw[HZB.out];omega);obtain⟨va,vcc,rfl,hrow⟩:=HA.out.own.vform;rw[htk,HZB.out] at HA;have hown:=HA.out.own;have d0:wr.cell? ⟨X,0,aD⟩=aC (aA aB s.aL):=cell_of_row _ _ 0 _ _ _ HA.out.box;have d1:wr.cell? ⟨X,1,aD⟩=aC (aA aB s.aM):=cell_of_row _ _ 1 _ _ _ HA.out.box;have d2:wr.cell? ⟨X,2,aD⟩=aC (aE (aC ⟨g,0,aD⟩) s.aN.length cap):=cell_of_row _ _ 2 _ _ _ HA.out.box;have d3:wr.cell? ⟨X,3,aD⟩=aC (aE va k vcc):=cell_of_row _ _ 3 _ _ _ HA.out.box;have HZ:=hid (HZ0.out wr HA.out.ext);have HR9:=hid (setRow_heap wr (w.heap.size+1) _ #[aA aB s.aL,aA aB s.aM,aE (aC ⟨g,0,aD⟩) s.aN.length cap,aE va k vcc] _ _ HZ.out);have HO9:=hid ((hown.kept (bS wr (w.heap.size+1) #[aA aB s.aL,aA aB s.aM,aE (aC ⟨g,0,aD⟩) s.aN.length cap,aE va k vcc]) (by simp)).low (ex2:=[]) (aBq _) (fun r hr=>by cases hr));have HX9:=hid ((HX0.out.tr HA.out.ext).sr (b:=w.heap.size+1) (by omega) #[aA aB s.aL,aA aB s.aM,aE (aC ⟨g,0,aD⟩) s.aN.length cap,aE va k vcc]);clear hown htk hrow
    go_wp2_with (refine wpList_store_row rfl 25 _ _ rfl (w.heap.size+1) #[aA aB s.aL,aA aB s.aM,aE (aC ⟨g,0,aD⟩) s.aN.length cap,aE va k vcc] rfl rfl 25 _ HZ.out size25 rfl (by simp[aBz]) ?_)
    exact bodyPost_ret (results_cell_row rfl _ _ (w.heap.size+1) 25 #[aA aB s.aL,aA aB s.aM,aE (aC ⟨g,0,aD⟩) s.aN.length cap,aE va k vcc] (0,0) _ rfl HR9.out underlying25 rfl size25) rfl ⟨_,_,rfl,HO9.out,HX9.out⟩
theorem Ml (w:World) (tv bv pv:Value) (s:aV) (r:aS) (hl:aX w tv s.aN) (hb:bD w bv s.aK) (hp:aU w pv r.aF) (h0:aZ s≠0) :
  Calls prog 45 #[.agg #[aA aB s.aL,aA aB s.aM,tv,bv],.agg #[aA aB r.aG,aA aB r.aI,aA aB r.aH,aA aB r.aJ,pv]] w (dN w (dC s r)):=by
 have F:=hid (fun(W:World) (h:Ext w W)=>cI W tv bv s (hl.mono h) (hb.mono h));have G:=hid (fun(W:World) (h:Ext w W)=>kA W tv pv s.aN r (hl.mono h) (hp.mono h));obtain⟨wb,hwb,HX,HSS,HRR,HZZ,hszb⟩:=iS w s r tv bv pv;have HX0:=hid HX;have HS0:=hid HSS;have HR0:=hid HRR;have HZ0:=hid HZZ;have HWB:=hid hwb;clear HX HSS HRR hwb HZZ;have HR:=hid (show dC s r=(fA,0,aZ s) from by rw[mZ (by rw[xQ h0];exact h0),xQ h0]);have hne:=neT h0;obtain⟨qa,qc,rfl,_,_,_⟩:=hl.form;obtain⟨ba,bc,rfl,_,_,_⟩:=hb.form;obtain⟨pa,pc,rfl,_,_,_⟩:=hp.form;clear hl hb hp;clear h0;generalize aZ s=se at *;generalize s.aN.length=n at *;generalize s.aK.length=z at *;generalize r.aF.length=pn at *;go_enter func45,ntmps45
 go_wp2_with fail
 rw[HWB.out];refine(F.out _ HX0.out).mono ?_;rintro e w2 ⟨rfl,hx2⟩;have HB:=hid (HZ0.out w2 (hx2));have HX2:=hid ((HX0.out.tr (hx2)).sr (b:=w.heap.size+1+1) (by omega) #[aA aB 0,aA aB 0,aE aD 0 0,aE aD 0 0]);have HB2:=hid (setRow_heap w2 (w.heap.size+1+1) _ #[aA aB 0,aA aB 0,aE aD 0 0,aE aD 0 0] _ _ HB.out)
 go_wp2_with (refine wpList_store_row rfl 25 _ _ rfl (w.heap.size+1+1) #[aA aB 0,aA aB 0,aE aD 0 0,aE aD 0 0] rfl rfl 25 _ HB.out size25 rfl (by simp[aBz]) ?_)
 exact bodyPost_ret (bH (u1:=5) (u2:=6) rfl _ _ (w.heap.size+1+1) 25 #[aA aB 0,aA aB 0,aE aD 0 0,aE aD 0 0] (0,0) _ rfl HB2.out underlying25 rfl size25) rfl (cA HR.out HX2.out)
theorem Mk (w:World) (tv bv pv:Value) (s:aV) (r:aS) (hl:aX w tv s.aN) (hb:bD w bv s.aK) (hp:aU w pv r.aF) (h0:aZ s=0) (h1:fQ s.aN r≠0) :
  Calls prog 45 #[.agg #[aA aB s.aL,aA aB s.aM,tv,bv],.agg #[aA aB r.aG,aA aB r.aI,aA aB r.aH,aA aB r.aJ,pv]] w (dN w (dC s r)):=by
 have F:=hid (fun(W:World) (h:Ext w W)=>cI W tv bv s (hl.mono h) (hb.mono h));have G:=hid (fun(W:World) (h:Ext w W)=>kA W tv pv s.aN r (hl.mono h) (hp.mono h));obtain⟨wb,hwb,HX,HSS,HRR,HZZ,hszb⟩:=iS w s r tv bv pv;have HX0:=hid HX;have HS0:=hid HSS;have HR0:=hid HRR;have HZ0:=hid HZZ;have HWB:=hid hwb;clear HX HSS HRR hwb HZZ;have HR:=hid (show dC s r=(fA,0,fQ s.aN r) from by rw[mZ (by rw[xP h0 h1];exact h1),xP h0 h1]);have hne:=neT h1;rw[h0] at F;obtain⟨qa,qc,rfl,_,_,_⟩:=hl.form;obtain⟨ba,bc,rfl,_,_,_⟩:=hb.form;obtain⟨pa,pc,rfl,_,_,_⟩:=hp.form;clear hl hb hp;clear h0 h1;generalize fQ s.aN r=re at *;generalize s.aN.length=n at *;generalize s.aK.length=z at *;generalize r.aF.length=pn at *;go_enter func45,ntmps45
 go_wp2_with fail
 rw[HWB.out];refine(F.out _ HX0.out).mono ?_;rintro e w2 ⟨rfl,hx2⟩;obtain⟨a0,a1,a2,a3⟩:=HS0.out w2 hx2;obtain⟨c0,c1,c2,c3,c4⟩:=HR0.out w2 hx2
 go_wp2_with fail
 refine(G.out _ (HX0.out.tr hx2)).mono ?_;rintro e w3 ⟨rfl,hx3⟩;clear a0 a1 a2 a3 c0 c1 c2 c3 c4;obtain⟨a0,a1,a2,a3⟩:=HS0.out w3 (hx2.tr hx3);obtain⟨c0,c1,c2,c3,c4⟩:=HR0.out w3 (hx2.tr hx3);have HB:=hid (HZ0.out w3 (hx2.tr hx3));have HX2:=hid ((HX0.out.tr (hx2.tr hx3)).sr (b:=w.heap.size+1+1) (by omega) #[aA aB 0,aA aB 0,aE aD 0 0,aE aD 0 0]);have HB2:=hid (setRow_heap w3 (w.heap.size+1+1) _ #[aA aB 0,aA aB 0,aE aD 0 0,aE aD 0 0] _ _ HB.out)
 go_wp2_with (refine wpList_store_row rfl 25 _ _ rfl (w.heap.size+1+1) #[aA aB 0,aA aB 0,aE aD 0 0,aE aD 0 0] rfl rfl 25 _ HB.out size25 rfl (by simp[aBz]) ?_)
 exact bodyPost_ret (bH (u1:=5) (u2:=6) rfl _ _ (w.heap.size+1+1) 25 #[aA aB 0,aA aB 0,aE aD 0 0,aE aD 0 0] (0,0) _ rfl HB2.out underlying25 rfl size25) rfl (cA HR.out HX2.out)
theorem Ih (w:World) (tv bv pv:Value) (s:aV) (r:aS) (hl:aX w tv s.aN) (hb:bD w bv s.aK) (hp:aU w pv r.aF) (h0:aZ s=0) (h1:fQ s.aN r=0) (h2:r.aI < s.aL) :
  Calls prog 45 #[.agg #[aA aB s.aL,aA aB s.aM,tv,bv],.agg #[aA aB r.aG,aA aB r.aI,aA aB r.aH,aA aB r.aJ,pv]] w (dN w (dC s r)):=by
 have F:=hid (fun(W:World) (h:Ext w W)=>cI W tv bv s (hl.mono h) (hb.mono h));have G:=hid (fun(W:World) (h:Ext w W)=>kA W tv pv s.aN r (hl.mono h) (hp.mono h));obtain⟨wb,hwb,HX,HSS,HRR,HZZ,hszb⟩:=iS w s r tv bv pv;have HX0:=hid HX;have HS0:=hid HSS;have HR0:=hid HRR;have HZ0:=hid HZZ;have HWB:=hid hwb;clear HX HSS HRR hwb HZZ;have HR:=hid (show dC s r=(fA,0,9) from by rw[mZ (by rw[uN h0 h1 h2];decide),uN h0 h1 h2]);rw[h0] at F;rw[h1] at G;obtain⟨qa,qc,rfl,_,_,_⟩:=hl.form;obtain⟨ba,bc,rfl,_,_,_⟩:=hb.form;obtain⟨pa,pc,rfl,_,_,_⟩:=hp.form;clear hl hb hp;clear h0 h1;generalize s.aN.length=n at *;generalize s.aK.length=z at *;generalize r.aF.length=pn at *;go_enter func45,ntmps45
 go_wp2_with fail
 rw[HWB.out];refine(F.out _ HX0.out).mono ?_;rintro e w2 ⟨rfl,hx2⟩;obtain⟨a0,a1,a2,a3⟩:=HS0.out w2 hx2;obtain⟨c0,c1,c2,c3,c4⟩:=HR0.out w2 hx2
 go_wp2_with fail
 refine(G.out _ (HX0.out.tr hx2)).mono ?_;rintro e w3 ⟨rfl,hx3⟩;clear a0 a1 a2 a3 c0 c1 c2 c3 c4;obtain⟨a0,a1,a2,a3⟩:=HS0.out w3 (hx2.tr hx3);obtain⟨c0,c1,c2,c3,c4⟩:=HR0.out w3 (hx2.tr hx3);have HB:=hid (HZ0.out w3 (hx2.tr hx3));have HX2:=hid ((HX0.out.tr (hx2.tr hx3)).sr (b:=w.heap.size+1+1) (by omega) #[aA aB 0,aA aB 0,aE aD 0 0,aE aD 0 0]);have HB2:=hid (setRow_heap w3 (w.heap.size+1+1) _ #[aA aB 0,aA aB 0,aE aD 0 0,aE aD 0 0] _ _ HB.out)
 go_wp2_with (refine wpList_store_row rfl 25 _ _ rfl (w.heap.size+1+1) #[aA aB 0,aA aB 0,aE aD 0 0,aE aD 0 0] rfl rfl 25 _ HB.out size25 rfl (by simp[aBz]) ?_)
 exact bodyPost_ret (bH (u1:=5) (u2:=6) rfl _ _ (w.heap.size+1+1) 25 #[aA aB 0,aA aB 0,aE aD 0 0,aE aD 0 0] (0,0) _ rfl HB2.out underlying25 rfl size25) rfl (cA HR.out HX2.out)
theorem Ig (w:World) (tv bv pv:Value) (s:aV) (r:aS) (hl:aX w tv s.aN) (hb:bD w bv s.aK) (hp:aU w pv r.aF) (h0:aZ s=0) (h1:fQ s.aN r=0) (h2:¬ r.aI < s.aL) (h3:s.aK.length=12\/s.aM=1048576) :
  Calls prog 45 #[.agg #[aA aB s.aL,aA aB s.aM,tv,bv],.agg #[aA aB r.aG,aA aB r.aI,aA aB r.aH,aA aB r.aJ,pv]] w (dN w (dC s r)):=by
 have F:=hid (fun(W:World) (h:Ext w W)=>cI W tv bv s (hl.mono h) (hb.mono h));have G:=hid (fun(W:World) (h:Ext w W)=>kA W tv pv s.aN r (hl.mono h) (hp.mono h));obtain⟨wb,hwb,HX,HSS,HRR,HZZ,hszb⟩:=iS w s r tv bv pv;have HX0:=hid HX;have HS0:=hid HSS;have HR0:=hid HRR;have HZ0:=hid HZZ;have HWB:=hid hwb;clear HX HSS HRR hwb HZZ;have HR:=hid (rD (Cs h0 h1 h2) h3);rw[h0] at F;rw[h1] at G;obtain⟨qa,qc,rfl,_,_,_⟩:=hl.form;obtain⟨ba,bc,rfl,_,_,_⟩:=hb.form;obtain⟨pa,pc,rfl,_,_,_⟩:=hp.form;clear hl hb hp;clear h0 h1;generalize s.aN.length=n at *;generalize s.aK.length=z at *;generalize r.aF.length=pn at *;go_enter func45,ntmps45
 go_wp2_with fail
 rw[HWB.out];refine(F.out _ HX0.out).mono ?_;rintro e w2 ⟨rfl,hx2⟩;obtain⟨a0,a1,a2,a3⟩:=HS0.out w2 hx2;obtain⟨c0,c1,c2,c3,c4⟩:=HR0.out w2 hx2
 go_wp2_with fail
 refine(G.out _ (HX0.out.tr hx2)).mono ?_;rintro e w3 ⟨rfl,hx3⟩;clear a0 a1 a2 a3 c0 c1 c2 c3 c4;obtain⟨a0,a1,a2,a3⟩:=HS0.out w3 (hx2.tr hx3);obtain⟨c0,c1,c2,c3,c4⟩:=HR0.out w3 (hx2.tr hx3);by_cases hz:(z:Int)=12
 ·have t1:=eqT hz;have HB:=hid (HZ0.out w3 (hx2.tr hx3));have HX2:=hid ((HX0.out.tr (hx2.tr hx3)).sr (b:=w.heap.size+1+1) (by omega) #[aA aB 0,aA aB 0,aE aD 0 0,aE aD 0 0]);have HB2:=hid (setRow_heap w3 (w.heap.size+1+1) _ #[aA aB 0,aA aB 0,aE aD 0 0,aE aD 0 0] _ _ HB.out)
  go_wp2_with (refine wpList_store_row rfl 25 _ _ rfl (w.heap.size+1+1) #[aA aB 0,aA aB 0,aE aD 0 0,aE aD 0 0] rfl rfl 25 _ HB.out size25 rfl (by simp[aBz]) ?_)
  exact bodyPost_ret (bH (u1:=5) (u2:=6) rfl _ _ (w.heap.size+1+1) 25 #[aA aB 0,aA aB 0,aE aD 0 0,aE aD 0 0] (0,0) _ rfl HB2.out underlying25 rfl size25) rfl (cA HR.out HX2.out)
 ·have hn:s.aM=1048576:=by omega
  have t1:=eqF hz;have t2:=eqT hn;have HB:=hid (HZ0.out w3 (hx2.tr hx3));have HX2:=hid ((HX0.out.tr (hx2.tr hx3)).sr (b:=w.heap.size+1+1) (by omega) #[aA aB 0,aA aB 0,aE aD 0 0,aE aD 0 0]);have HB2:=hid (setRow_heap w3 (w.heap.size+1+1) _ #[aA aB 0,aA aB 0,aE aD 0 0,aE aD 0 0] _ _ HB.out)
  go_wp2_with (refine wpList_store_row rfl 25 _ _ rfl (w.heap.size+1+1) #[aA aB 0,aA aB 0,aE aD 0 0,aE aD 0 0] rfl rfl 25 _ HB.out size25 rfl (by simp[aBz]) ?_)
  exact bodyPost_ret (bH (u1:=5) (u2:=6) rfl _ _ (w.heap.size+1+1) 25 #[aA aB 0,aA aB 0,aE aD 0 0,aE aD 0 0] (0,0) _ rfl HB2.out underlying25 rfl size25) rfl (cA HR.out HX2.out)
theorem If (w:World) (tv bv pv:Value) (s:aV) (r:aS) (hl:aX w tv s.aN) (hb:bD w bv s.aK) (hp:aU w pv r.aF) (hI:I64 r.aG/\I64 r.aI/\I64 r.aH/\I64 r.aJ) (h0:aZ s=0) (h01:fQ s.aN r=0) (h02:¬ r.aI < s.aL) (h1:¬ (s.aK.length=12\/s.aM=1048576)) :
  Calls prog 45 #[.agg #[aA aB s.aL,aA aB s.aM,tv,bv],.agg #[aA aB r.aG,aA aB r.aI,aA aB r.aH,aA aB r.aJ,pv]] w (dN w (dC s r)):=by
 have F:=hid (fun(W:World) (h:Ext w W)=>cI W tv bv s (hl.mono h) (hb.mono h));have G:=hid (fun(W:World) (h:Ext w W)=>kA W tv pv s.aN r (hl.mono h) (hp.mono h));obtain⟨wb,hwb,HX,HSS,HRR,HZZ,hszb⟩:=iS w s r tv bv pv;have HX0:=hid HX;have HS0:=hid HSS;have HR0:=hid HRR;have HZ0:=hid HZZ;have HWB:=hid hwb;clear HX HSS HRR hwb HZZ;have hm:=Cs h0 h01 h02;have HN:=hid (rE hm h1);have HI:=hid (rC hm h1);rw[h0] at F;rw[h01] at G;obtain⟨hs,hrq,g1,g2,hfine,_⟩:=Rh hm;obtain⟨q,hq⟩:∃ q:Nat,r.aG=q:=⟨r.aG.toNat,by omega⟩;obtain⟨ok,h12,hbok⟩:=iI hs;obtain⟨m1,m3⟩:=hrq.many;obtain⟨_,hin,_⟩:=cS (cL hs).1;have RI:=hid (show ∀ (W:World),Ext w W->Calls prog 95 #[tv,bv,aA aB r.aG] W (Gg W (kB s r)) from fun W h=>by
  have:=Ap W tv bv s.aN s.aK q (by omega) (hl.mono h) (hb.mono h) ok hbok h12;rw[<- hq] at this;have e:tab (gX s.aN s.aK r.aG)=tab (kB s r):=zI (fun t ht=>by unfold kB;rw[fL ht]);refine this.mono fun e' w' ⟨h1,h2⟩=>⟨by rw[h1,e],h2⟩)
 have PI:=hid (fun(W:World) (h:Ext w W)=>Oz W (kB s r) r pv (hp.mono h) hrq (vQ hfine));have OW:=hid (fun(W:World) (h:Ext w W)=>lU W tv bv s (hl.mono h) (hb.mono h) ok h12 hbok);have HLV:=hid (nF hbok);have HCP:=hid (kZ ok);have t1:=eqF (a:=(s.aK.length:Int)) (b:=12) (fun h=>h1 (.inl (by omega)));have t2:=eqF (a:=s.aM) (b:=1048576) (fun h=>h1 (.inr h));have hnx:0<=s.aM/\s.aM < 1048576:=⟨hin.2.2.1,by have:=hin.2.2.2;have:s.aM≠1048576:=fun h=>h1 (.inr h);omega⟩;have hz12:s.aK.length < 12:=by have:s.aK.length≠12:=fun h=>h1 (.inl h);omega
 have HPM:=hid (And.intro m1 m3);have HPW:=hid hp;have HPN:=hid (show r.aF≠[] from fun h=>by rw[h] at m1;exact absurd m1 (by decide));have HII:=hid hI;have HLL:=hid (fun h:cK (kB s r) r≠[]=>(⟨g1,g2,pI hrq h⟩:cB s.aN ⟨s.aM,r,cK (kB s r) r⟩).many.2);obtain⟨qa,qc,rfl,_,_,_⟩:=hl.form;obtain⟨ba,bc,rfl,_,_,_⟩:=hb.form;obtain⟨pa,pc,rfl,_,_,_⟩:=hp.form;clear hl hb hp h0 h01 hs hrq hfine ok h12 hbok h1 hm hq g1 g2 hin m1 m3 hI;generalize cK (kB s r) r=L at *;generalize kB s r=x at *;generalize dC s r=sr at *;generalize hqn:s.aN.length=n at *;generalize hbz:s.aK.length=z at *;generalize hrp:r.aF.length=pn at *;have HQN:=hid hqn;have HBZ:=hid hbz;have HRP:=hid hrp;clear hqn hbz hrp;go_enter func45,ntmps45
 go_wp2_with fail
 rw[HWB.out];refine(F.out _ HX0.out).mono ?_;rintro e w2 ⟨rfl,hx2⟩;obtain⟨a0,a1,a2,a3⟩:=HS0.out w2 hx2;obtain⟨c0,c1,c2,c3,c4⟩:=HR0.out w2 hx2
 go_wp2_with fail
 refine(G.out _ (HX0.out.tr hx2)).mono ?_;rintro e w3 ⟨rfl,hx3⟩;clear a0 a1 a2 a3 c0 c1 c2 c3 c4;have hx02:=hid (HX0.out.tr (hx2.tr hx3));have hxb2:=hid (hx2.tr hx3);obtain⟨a0,a1,a2,a3⟩:=HS0.out w3 (hx2.tr hx3);obtain⟨c0,c1,c2,c3,c4⟩:=HR0.out w3 (hx2.tr hx3);clear hx2 hx3
 go_wp2_with fail
 go_region_held3 (fun w'=>(w'.cell? ⟨w.heap.size,2,aD⟩=aC (aE qa n qc)/\w'.cell? ⟨w.heap.size,3,aD⟩=aC (aE ba z bc)/\w'.cell? ⟨w.heap.size+1,0,aD⟩=aC (aA aB r.aG)/\w'.cell? ⟨w.heap.size+1,1,aD⟩=aC (aA aB r.aI)/\w'.cell? ⟨w.heap.size+1,2,aD⟩=aC (aA aB r.aH)/\w'.cell? ⟨w.heap.size+1,3,aD⟩=aC (aA aB r.aJ)/\w'.cell? ⟨w.heap.size+1,4,aD⟩=aC (aE pa pn pc)))
  (first
   | go_keep
   | (
     go_split_ands
     exact⟨hxk.ce' (by assumption),hxk.ce' (by assumption),hxk.ce' (by assumption),hxk.ce' (by assumption),hxk.ce' (by assumption),hxk.ce' (by assumption),hxk.ce' (by assumption)⟩))
  (first
   | (go_at_call 95;refine(RI.out _ hx02.out.dr).mono ?_;rintro e W1 ⟨rfl,hxk⟩;have HX1:=hid (hx02.out.dr.tr hxk);have HXB1:=hid (hxb2.out.dr.tr hxk))
   | (go_at_call 53;refine(PI.out _ HX1.out).mono ?_;rintro e W2 ⟨u,bb,rfl,hxk,hy,hn⟩;have Hy:=hid hy;have Hn:=hid hn;have HX2:=hid (HX1.out.tr hxk);have HXB2:=hid (HXB1.out.tr hxk);clear hy hn))
 clear a0 a1 a2 a3 c0 c1 c2 c3 c4;cases bb with
 | false=>
  have HR:=hid (HN.out (Hn.out rfl));clear HN HI Hy Hn;have HB:=hid (HZ0.out W2 (HXB2.out));have HX3:=hid ((HX2.out).sr (b:=w.heap.size+1+1) (by omega) #[aA aB 0,aA aB 0,aE aD 0 0,aE aD 0 0]);have HB2:=hid (setRow_heap W2 (w.heap.size+1+1) _ #[aA aB 0,aA aB 0,aE aD 0 0,aE aD 0 0] _ _ HB.out)
  go_wp2_with (refine wpList_store_row rfl 25 _ _ rfl (w.heap.size+1+1) #[aA aB 0,aA aB 0,aE aD 0 0,aE aD 0 0] rfl rfl 25 _ HB.out size25 rfl (by simp[aBz]) ?_)
  exact bodyPost_ret (bH (u1:=5) (u2:=6) rfl _ _ (w.heap.size+1+1) 25 #[aA aB 0,aA aB 0,aE aD 0 0,aE aD 0 0] (0,0) _ rfl HB2.out underlying25 rfl size25) rfl (cA HR.out HX3.out)
 | true=>
  obtain⟨hL,hv⟩:=Hy.out rfl;have HR:=hid (HI.out hL);have HV:=hid hv;obtain⟨va,vc,rfl,hvc,hvc9,hvl,hvE⟩:=kM HV.out;have hz1:1<=L.length:=aD4.2 hL;obtain⟨vb,vo,rfl,hvb,hE⟩:=hvE hz1;have HLN:=hid hL;clear HN HI Hy Hn hvE hE hL hv;generalize hzz:L.length=m at *;have Hm:=hid hzz;clear hzz;obtain⟨a0,a1,a2,a3⟩:=HS0.out W2 HXB2.out
  go_wp2_with fail
  refine(OW.out _ HX2.out).mono ?_;rintro e w7 ⟨u7,v7,rfl,hO7,hx7⟩;clear a0 a1 a2 a3;obtain⟨gq,qcp,rfl,hgB,hgs⟩:=hO7.uform;obtain⟨ra,rc,rfl,hrw⟩:=hO7.vform;rw[HBZ.out] at hO7 hrw ⊢;rw[HQN.out] at hO7 ⊢;have HX7:=hid (HX2.out.tr hx7);have HXB7:=hid (HXB2.out.tr hx7);have HVR:=hid hrw;have HGQ:=hid (And.intro hgB hgs);obtain⟨W8,hW8⟩:∃ W8,(w7.alloc (.cells #[aA aB 0,aA aB 0,aE aD 0 0,aE aD 0 0] 25)).setRow w7.heap.size #[aA aB s.aL,aA aB s.aM,aE (aC ⟨gq,0,aD⟩) n qcp,aE ra z rc]=W8:=⟨_,rfl⟩;have hx8:Ext w7 W8:=hW8▸((Ext.rf w7).al _).sr (b:=w7.heap.size) (aBq _) _;have hb8:W8.heap[w7.heap.size]?=aC (.cells #[aA aB s.aL,aA aB s.aM,aE (aC ⟨gq,0,aD⟩) n qcp,aE ra z rc] 25 (0,0)):=hW8▸setRow_heap (w7.alloc _) w7.heap.size _ _ _ _ (heap_alloc_new w7 _);have HW8:=hid hW8;have HX8:=hid (HX7.out.tr hx8);have HXB8:=hid (HXB7.out.tr hx8);have HO8:=hid ((((hO7.under (r:=w.heap.size+1+1) (by have:=HXB2.out.size;omega)).low (B2:=w.heap.size) HX2.out.size (fun r hr=>hr)).box (aBq _)).ext hx8);have HB8:=hid hb8;have HS8:=hid (show w7.heap.size < W8.heap.size from (aBy.1 hb8).1);have HV8:=hid ((HV.out:bJ W2 _ L).mono (hx7.tr hx8));have HP8:=hid (HPW.out.mono (HX7.out.tr hx8));have OB:=hid (fun(W:World) (h:Ext W8 W)=>sV W (aE pa pn pc) (aE (aC ⟨vb,vo,aD⟩) m vc) ⟨s.aM,r,L⟩ (by have:=aU.mono HP8.out h;exact this) (by have:=bJ.mono HV8.out h;exact this) ⟨⟨HPN.out,HLN.out⟩,by show 1<=r.aF.length/\r.aF.length<=3;rw[HRP.out];exact HPM.out,by show 1<=L.length;rw[Hm.out];exact hz1,by show L.length<=3;rw[Hm.out];exact HLL.out HLN.out⟩);have HSZ:=hid (And.intro HXB2.out.size hx7.size);clear hx7 hx8 hb8 hW8 hO7 hrw hgB hgs
  go_wp2_with (refine wpList_store_row rfl 25 _ _ rfl w7.heap.size #[aA aB s.aL,aA aB s.aM,aE (aC ⟨gq,0,aD⟩) n qcp,aE ra z rc] rfl rfl 25 _ (heap_alloc_new w7 _) size25 rfl (by simp[aBz]) ?_)
  rw[HW8.out];obtain⟨ib,ib1,ib2,ib3,ib4⟩:=info_parts info40;have e3:W8.cell? ⟨w7.heap.size,3,aD⟩=aC (aE ra z rc):=cell_of_row _ _ 3 _ _ _ HB8.out;obtain⟨a0,a1,a2,a3⟩:=HS0.out W8 HXB8.out;obtain⟨c0,c1,c2,c3,c4⟩:=HR0.out W8 HXB8.out;obtain⟨css,o1,hmore⟩:=HO8.out.more (by rw[HBZ.out];exact hz12);rw[HBZ.out] at o1;have HO1:=hid o1;have HMORE:=hid hmore;clear o1 hmore;have hne0:∀ k,(aE ra z rc).ownBlock=aC k->w.heap.size+1+1 < k:=fun k hk=>by have:=(HVR.out k hk).1;have:=HSZ.out.1;omega
  refine dF 11 (fun W=>W.cell? ⟨w7.heap.size,3,aD⟩=aC (aE ra z rc)/\W.cell? ⟨w.heap.size,1,aD⟩=aC (aA aB s.aM)/\W.cell? ⟨w.heap.size+1,0,aD⟩=aC (aA aB r.aG)/\W.cell? ⟨w.heap.size+1,1,aD⟩=aC (aA aB r.aI)/\W.cell? ⟨w.heap.size+1,2,aD⟩=aC (aA aB r.aH)/\W.cell? ⟨w.heap.size+1,3,aD⟩=aC (aA aB r.aJ)/\W.cell? ⟨w.heap.size+1,4,aD⟩=aC (aE pa pn pc)) (by kernel_rfl) ⟨e3,a1,c0,c1,c2,c3,c4⟩ (fun hHeld=>?_);clear e3 a0 a1 a2 a3 c0 c1 c2 c3 c4;refine tkT 0 ?_;refine tkT 1 ?_;refine tkT 2 ?_;refine tkT 3 ?_;refine tkT 4 ?_;refine tkT 5 ?_;refine tkT 6 ?_;refine dG (i:=7) (by kernel_rfl) rfl (fun K hK=>?_);simp only[zA,zB,zC];go_simp;refine(OB.out _ (Ext.rf W8).dr).mono ?_;rintro e W9 ⟨g9,cp9,gv,cpv,he,hg9,hgv,hp9,hv9,hx9⟩;have he':e=.returned (.agg #[aA aB s.aM,aA aB r.aG,aA aB r.aI,aA aB r.aH,aA aB r.aJ,aE (aC ⟨g9,0,aD⟩) pn cp9,aE (aC ⟨gv,0,aD⟩) m cpv]):=by
   have e1:(⟨s.aM,r,L⟩:aT).aP.aF.length=pn:=HRP.out;have e2:(⟨s.aM,r,L⟩:aT).aO.length=m:=Hm.out;rw[he,e1,e2]
  subst he';have hp9:aU W9 (aE (aC ⟨g9,0,aD⟩) pn cp9) r.aF:=by have h:=hp9;rw[show (⟨s.aM,r,L⟩:aT).aP.aF.length=pn from HRP.out] at h;exact h
  have hv9:bJ W9 (aE (aC ⟨gv,0,aD⟩) m cpv) L:=by have h:=hv9;rw[show (⟨s.aM,r,L⟩:aT).aO.length=m from Hm.out] at h;exact h
  go_wp2_with fail
  refine hK.out _ _ ?_ (fun hHeld=>?_)
  ·(obtain⟨k0,k1,k2,k3,k4,k5,k6⟩:=hHeld;exact⟨hx9.ce' k0,hx9.ce' k1,hx9.ce' k2,hx9.ce' k3,hx9.ce' k4,hx9.ce' k5,hx9.ce' k6⟩)
  clear hK K;refine dG (i:=8) (by kernel_rfl) rfl (fun K hK=>?_);simp only[zA,zB,zC];go_simp;refine hK.out _ _ ?_ (fun hHeld=>?_)
  ·(obtain⟨k0,k1,k2,k3,k4,k5,k6⟩:=hHeld;have hal:=(Ext.rf W9).al (.cells #[aA aB s.aM,aA aB r.aG,aA aB r.aI,aA aB r.aH,aA aB r.aJ,aE (aC ⟨g9,0,aD⟩) pn cp9,aE (aC ⟨gv,0,aD⟩) m cpv] 40);exact⟨hal.ce' k0,hal.ce' k1,hal.ce' k2,hal.ce' k3,hal.ce' k4,hal.ce' k5,hal.ce' k6⟩)
  clear hK K;have hx89:Ext W8 W9:=(Ext.rf W8).dr.tr hx9;have hal9:=hx89.al (.cells #[aA aB s.aM,aA aB r.aG,aA aB r.aI,aA aB r.aH,aA aB r.aJ,aE (aC ⟨g9,0,aD⟩) pn cp9,aE (aC ⟨gv,0,aD⟩) m cpv] 40);have hsz9:w7.heap.size < W9.heap.size:=aBA HS8.out hx89.size;have HX9:=hid (HX8.out.tr hal9);have HP9:=hid (hp9.mono ((Ext.rf W9).al (.cells #[aA aB s.aM,aA aB r.aG,aA aB r.aI,aA aB r.aH,aA aB r.aJ,aE (aC ⟨g9,0,aD⟩) pn cp9,aE (aC ⟨gv,0,aD⟩) m cpv] 40)));have HV9:=hid (hv9.mono ((Ext.rf W9).al (.cells #[aA aB s.aM,aA aB r.aG,aA aB r.aI,aA aB r.aH,aA aB r.aJ,aE (aC ⟨g9,0,aD⟩) pn cp9,aE (aC ⟨gv,0,aD⟩) m cpv] 40)));have HA9:=hid hal9;have HN7:=hid (xO W9 [aA aB s.aM,aA aB r.aG,aA aB r.aI,aA aB r.aH,aA aB r.aJ,aE (aC ⟨g9,0,aD⟩) pn cp9,aE (aC ⟨gv,0,aD⟩) m cpv] 40 rfl);refine dG (i:=9) (by kernel_rfl) rfl (fun K hK=>?_);simp only[zA,zB,zC];rw[if_pos (by rfl)];refine wp_append_lies _ _ _ _ (by rfl) w.heap.size 40 ib _ 7 88 underlying23 ib1 ib2 ib3 ib4 rfl (by decide) (aE ra z rc) z css.flatten (by rfl) (bE HO1.out HA9.out) ⟨W9.heap.size,0,aD⟩ 1 1 [aA aB s.aM,aA aB r.aG,aA aB r.aI,aA aB r.aH,aA aB r.aJ,aE (aC ⟨g9,0,aD⟩) pn cp9,aE (aC ⟨gv,0,aD⟩) m cpv] (by rfl) (by rfl) HN7.out (by simp[aBz]) (by omega) (by unfold maxLen;omega) (by omega) HX9.out.size (W9.heap.size+1) (by simp) ?_;intro g2 cp2 W10 hown hgrow hlie hlt;have hgn:∀ (b:Nat) (o:Nat) (u:Value),(W9.alloc (.cells #[aA aB s.aM,aA aB r.aG,aA aB r.aI,aA aB r.aH,aA aB r.aJ,aE (aC ⟨g9,0,aD⟩) pn cp9,aE (aC ⟨gv,0,aD⟩) m cpv] 40)).cell? ⟨b,o,aD⟩=aC u->(b<=w.heap.size+1\/b=w7.heap.size)->W10.cell? ⟨b,o,aD⟩=aC u:=fun b o u h hb=>by
   rw[aCk (a:=⟨b,o,aD⟩) (hgrow.block b (aBx _ ⟨b,o,aD⟩ h) (fun e=>by have h1:=hne0 b e.symm;have h2:=(HVR.out b e.symm).2;omega))];exact h
  refine hK.out _ _ ?_ (fun hHeld=>?_)
  ·(obtain⟨k0,k1,k2,k3,k4,k5,k6⟩:=hHeld;exact⟨hgn _ _ _ k0 (.inr rfl),hgn _ _ _ k1 (.inl (by omega)),hgn _ _ _ k2 (.inl (by omega)),hgn _ _ _ k3 (.inl (by omega)),hgn _ _ _ k4 (.inl (by omega)),hgn _ _ _ k5 (.inl (by omega)),hgn _ _ _ k6 (.inl (by omega))⟩)
  clear hK K;have hb10:W10.heap[w7.heap.size]?=aC (.cells #[aA aB s.aL,aA aB s.aM,aE (aC ⟨gq,0,aD⟩) n qcp,aE ra z rc] 25 (0,0)):=
   (hgrow.block w7.heap.size (by simp;omega) (fun e=>by have h2:=(HVR.out _ e.symm).2;omega)).trans ((HA9.out.block _ HS8.out).trans HB8.out)
  have f3:=frozen_of_row W10 w7.heap.size 3 _ _ hb10;have HB10:=hid hb10;have HOW:=hid hown;have HGRW:=hid hgrow;have HLIE:=hid hlie;clear hown hgrow hlie hgn hb10;refine tkT 10 ?_;refine eM (t:=11) (by kernel_rfl) rfl (by kernel_rfl) (fun K hK=>?_);simp only[zA,zB,zC];obtain⟨k0,_⟩:=hHeld;go_simp;refine hK.out _ _ ?_;clear hK K;have hgr11:=aY W10 w7.heap.size 3 (aE (aC ⟨g2,0,aD⟩) (z+1) cp2);have hO10:cP [w7.heap.size,w.heap.size+1+1] w.heap.size W10 (aE (aC ⟨gq,0,aD⟩) n qcp) (aE (aC ⟨g2,0,aD⟩) (z+1) cp2) s.aN (s.aK++[⟨s.aM,r,L⟩]):=by
   refine HMORE.out _ W10 g2 (z+1) cp2 [aA aB s.aM,aA aB r.aG,aA aB r.aI,aA aB r.aH,aA aB r.aJ,aE (aC ⟨g9,0,aD⟩) pn cp9,aE (aC ⟨gv,0,aD⟩) m cpv] ⟨s.aM,r,L⟩ HA9.out ⟨_,_,rfl,⟨_,rfl,by have h:=HP9.out;exact h,HII.out.1,HII.out.2.1,HII.out.2.2.1,HII.out.2.2.2⟩,HV9.out,⟨by show -9223372036854775808<=s.aM;omega,by show s.aM<=9223372036854775807;omega⟩⟩ ?_ ?_ HOW.out (by rw[HBZ.out]) HGRW.out (by have h:=HLIE.out;rw[aCl];exact h) ?_
   ·exact⟨⟨HPN.out,HLN.out⟩,by show 1<=r.aF.length/\r.aF.length<=3;rw[HRP.out];exact HPM.out,by show 1<=L.length;rw[Hm.out];exact hz1,by show L.length<=3;rw[Hm.out];exact HLL.out HLN.out⟩
   ·have h:=zK (W:=W8) (W1:=W9.alloc (.cells #[aA aB s.aM,aA aB r.aG,aA aB r.aI,aA aB r.aH,aA aB r.aJ,aE (aC ⟨g9,0,aD⟩) pn cp9,aE (aC ⟨gv,0,aD⟩) m cpv] 40)) (B:=w.heap.size) (ex:=[w7.heap.size,w.heap.size+1+1]) (u:=aE (aC ⟨gq,0,aD⟩) n qcp) (v:=aE ra z rc) (n1:=pn) (n2:=m) (c1:=cp9) (c2:=cpv) (x:=⟨s.aM,r,L⟩) HX8.out.size hg9 hgv (by rw[aCl];have:=zJ hp9 HPN.out;omega) (by rw[aCl];have:=zJ hv9 HLN.out;omega) (fun k hk=>by
     have h2:k=w7.heap.size\/k=w.heap.size+1+1:=by simpa using hk
     have:=HSZ.out;have:=HS8.out;omega) (fun k hk=>by
     have h2:gq=k:=by simpa[aCZ] using hk
     have:=HGQ.out;have:=HS8.out;omega) (fun k hk=>by
     have:=HVR.out k hk;have:=HS8.out;omega)
    exact h
   ·intro r' hr';rw[aCl];have h2:r'=w7.heap.size\/r'=w.heap.size+1+1:=by simpa using hr'
    have:=HSZ.out;omega
  obtain⟨W11,hW11⟩:∃ W11,W10.setCell ⟨w7.heap.size,3,aD⟩ (aE (aC ⟨g2,0,aD⟩) (z+1) cp2)=W11:=⟨_,rfl⟩;have hb11:W11.heap[w7.heap.size]?=aC (.cells #[aA aB s.aL,aA aB s.aM,aE (aC ⟨gq,0,aD⟩) n qcp,aE (aC ⟨g2,0,aD⟩) (z+1) cp2] 25 (0,0)):=hW11▸heap_setCell_same W10 w7.heap.size 3 _ _ _ HB10.out;have hXs:w.heap.size+1+1 < w7.heap.size:=by have:=HSZ.out;omega
  have hx10:Ext w W10:=HX9.out.gr HGRW.out (fun k hk=>by have:=hne0 k hk;omega);have HO11:=hid (hW11▸hO10.kept hgr11 (aCw ..));have HX11:=hid (hW11▸hx10.se (b:=w7.heap.size) (o:=3) (by omega) (aE (aC ⟨g2,0,aD⟩) (z+1) cp2));have hold:∀ b,b<=w.heap.size+1+1->W11.heap[b]?=wb.heap[b]?:=fun b hb=>by
   have hbw:b < wb.heap.size:=by omega
   have hb8:b < W8.heap.size:=by have:=HXB8.out.size;omega
   rw[<- hW11,heap_setCell_other W10 ⟨w7.heap.size,3,aD⟩ b _ (by show b≠w7.heap.size;omega),HGRW.out.block b (by have:=HA9.out.size;omega) (fun e=>by have:=hne0 b e.symm;omega),HA9.out.block b hb8,HXB8.out.block b hbw]
  have HOLD:=hid hold;have hzz11:=(hold (w.heap.size+1+1) (aBq _)).trans (HZ0.out wb (Ext.rf wb));have HZ11:=hid hzz11;have HB11:=hid hb11;rw[hW11];clear hW11 hgr11 hO10 hx10 HB10 HOW HGRW HLIE k0 hzz11;have e1:W11.cell? ⟨w7.heap.size,1,aD⟩=aC (aA aB s.aM):=cell_of_row _ _ 1 _ _ _ hb11;have f1:=frozen_of_row W11 w7.heap.size 1 _ _ hb11;have hwr:IntKind.i64.wrap (s.aM+1)=s.aM+1:=by rw[IntKind.wrap_i64];omega
  clear hb11 hold f3
  go_wp2_with fail
  obtain⟨W12,hW12⟩:∃ W12,W11.setCell ⟨w7.heap.size,1,aD⟩ (aA aB (s.aM+1))=W12:=⟨_,rfl⟩;rw[hW12];have hgr12:W11.grownBy W12 (aC w7.heap.size):=hW12▸aY W11 w7.heap.size 1 (aA aB (s.aM+1));have hb12:W12.heap[w7.heap.size]?=aC (.cells #[aA aB s.aL,aA aB (s.aM+1),aE (aC ⟨gq,0,aD⟩) n qcp,aE (aC ⟨g2,0,aD⟩) (z+1) cp2] 25 (0,0)):=hW12▸heap_setCell_same W11 w7.heap.size 1 _ _ _ HB11.out;have HO12:=hid (HO11.out.kept hgr12 (aCw ..));have HX12:=hid (hW12▸HX11.out.se (b:=w7.heap.size) (o:=1) (by omega) (aA aB (s.aM+1)));have hzz12:W12.heap[w.heap.size+1+1]?=aC (.cells #[aA aB 0,aA aB 0,aE aD 0 0,aE aD 0 0] 25 (0,0)):=by
   rw[<- hW12,heap_setCell_other W11 ⟨w7.heap.size,1,aD⟩ _ _ (by show w.heap.size+1+1≠w7.heap.size;omega)];exact HZ11.out
  have a1:W12.cell? ⟨w.heap.size,1,aD⟩=aC (aA aB s.aM):=by
   obtain⟨_,h1,_⟩:=HS0.out wb (Ext.rf wb);rw[<- h1];refine aCk (a:=⟨w.heap.size,1,aD⟩) ?_;rw[<- hW12];exact(heap_setCell_other W11 ⟨w7.heap.size,1,aD⟩ _ _ (by show w.heap.size≠w7.heap.size;omega)).trans (HOLD.out w.heap.size (by omega))
  have d0:W12.cell? ⟨w7.heap.size,0,aD⟩=aC (aA aB s.aL):=cell_of_row _ _ 0 _ _ _ hb12;have d1:W12.cell? ⟨w7.heap.size,1,aD⟩=aC (aA aB (s.aM+1)):=cell_of_row _ _ 1 _ _ _ hb12;have d2:W12.cell? ⟨w7.heap.size,2,aD⟩=aC (aE (aC ⟨gq,0,aD⟩) n qcp):=cell_of_row _ _ 2 _ _ _ hb12;have d3:W12.cell? ⟨w7.heap.size,3,aD⟩=aC (aE (aC ⟨g2,0,aD⟩) (z+1) cp2):=cell_of_row _ _ 3 _ _ _ hb12;have z0:W12.cell? ⟨w.heap.size+1+1,0,aD⟩=aC (aA aB 0):=cell_of_row _ _ 0 _ _ _ hzz12;have z1:W12.cell? ⟨w.heap.size+1+1,1,aD⟩=aC (aA aB 0):=cell_of_row _ _ 1 _ _ _ hzz12;have z2:W12.cell? ⟨w.heap.size+1+1,2,aD⟩=aC (aE aD 0 0):=cell_of_row _ _ 2 _ _ _ hzz12;have z3:W12.cell? ⟨w.heap.size+1+1,3,aD⟩=aC (aE aD 0 0):=cell_of_row _ _ 3 _ _ _ hzz12;have y0:=frozen_of_row W12 (w.heap.size+1+1) 0 _ _ hzz12;have y1:=frozen_of_row W12 (w.heap.size+1+1) 1 _ _ hzz12;have y2:=frozen_of_row W12 (w.heap.size+1+1) 2 _ _ hzz12;have y3:=frozen_of_row W12 (w.heap.size+1+1) 3 _ _ hzz12;have n1:w.heap.size+1+1≠w7.heap.size:=by omega
  have n2:w.heap.size+1+1≠w.heap.size:=by omega
  have HZ12:=hid hzz12;clear hW12 hgr12 hb12 hzz12 e1 f1
  go_region_held3 (fun w'=>(w'.cell? ⟨w7.heap.size,0,aD⟩=aC (aA aB s.aL)/\w'.cell? ⟨w7.heap.size,1,aD⟩=aC (aA aB (s.aM+1))/\w'.cell? ⟨w7.heap.size,2,aD⟩=aC (aE (aC ⟨gq,0,aD⟩) n qcp)/\w'.cell? ⟨w7.heap.size,3,aD⟩=aC (aE (aC ⟨g2,0,aD⟩) (z+1) cp2)/\w'.cell? ⟨w.heap.size,1,aD⟩=aC (aA aB s.aM)))
   (go_keep) (fail)
  have hO13:=HO12.out.kept (rM W12 (w.heap.size+1+1) (aA aB s.aL) (aA aB (s.aM+1)) (aE (aC ⟨gq,0,aD⟩) n qcp) (aE (aC ⟨g2,0,aD⟩) (z+1) cp2)) (aBl _ (aCw ..));have hX13:=(((HX12.out.se (b:=w.heap.size+1+1) (o:=0) (by omega) (aA aB s.aL)).se (b:=w.heap.size+1+1) (o:=1) (by omega) (aA aB (s.aM+1))).se (b:=w.heap.size+1+1) (o:=2) (by omega) (aE (aC ⟨gq,0,aD⟩) n qcp)).se (b:=w.heap.size+1+1) (o:=3) (by omega) (aE (aC ⟨g2,0,aD⟩) (z+1) cp2);have HO13:=hid (hO13.ext (Ext.rf _).dr);have HX13:=hid hX13.dr;have HB13:=hid (xH (a0:=aA aB s.aL) (a1:=aA aB (s.aM+1)) (a2:=aE (aC ⟨gq,0,aD⟩) n qcp) (a3:=aE (aC ⟨g2,0,aD⟩) (z+1) cp2) HZ12.out);clear hO13 hX13
  go_wp2_with fail
  exact bodyPost_ret (bH (u1:=5) (u2:=6) rfl _ _ (w.heap.size+1+1) 25 #[aA aB s.aL,aA aB (s.aM+1),aE (aC ⟨gq,0,aD⟩) n qcp,aE (aC ⟨g2,0,aD⟩) (z+1) cp2] (0,0) _ rfl HB13.out underlying25 rfl size25) rfl (lI (s:=Jl s r L) HR.out (.inl (HO13.out.low (aBq _) (fun r hr=>by cases hr))) HX13.out)
theorem SubmitOf_any (w:World) (tv bv pv:Value) (s:aV) (r:aS) (hl:aX w tv s.aN) (hb:bD w bv s.aK) (hp:aU w pv r.aF) (hI:I64 r.aG/\I64 r.aI/\I64 r.aH/\I64 r.aJ) :
  Calls prog 45 #[.agg #[aA aB s.aL,aA aB s.aM,tv,bv],.agg #[aA aB r.aG,aA aB r.aI,aA aB r.aH,aA aB r.aJ,pv]] w (dN w (dC s r)):=by
 by_cases h0:aZ s=0
 ·by_cases h1:fQ s.aN r=0
  ·by_cases h2:r.aI < s.aL
   ·exact Ih w tv bv pv s r hl hb hp h0 h1 h2
   ·by_cases h3:s.aK.length=12\/s.aM=1048576
    ·exact Ig w tv bv pv s r hl hb hp h0 h1 h2 h3
    ·exact If w tv bv pv s r hl hb hp hI h0 h1 h2 h3
  ·exact Mk w tv bv pv s r hl hb hp h0 h1
 ·exact Ml w tv bv pv s r hl hb hp h0
theorem mP {α:Type}:∀ (css:List (List α)),(∀ cs∈css,cs.length=7)->∀ k,css.flatten.take (k*7)=(css.take k).flatten
 | [],_,k=>by simp
 | c::css,h,0=>by simp
 | c::css,h,k+1=>by
  have h1:=h c (aCw ..);rw[List.take_succ_cons,aCT,aCT,List.take_append,h1,aCM (by omega),show (k+1)*7 - 7=k*7 by omega,mP css (fun d hd=>h d (aBl _ hd)) k]
theorem eW {α:Type}:∀ (css:List (List α)),(∀ cs∈css,cs.length=7)->∀ k,css.flatten.drop (k*7)=(css.drop k).flatten
 | [],_,k=>by simp
 | c::css,h,0=>by simp
 | c::css,h,k+1=>by
  have h1:=h c (aCw ..);rw[List.drop_succ_cons,aCT,List.drop_append,h1,List.drop_eq_nil_of_le (by omega),aCh,show (k+1)*7 - 7=k*7 by omega,eW css (fun d hd=>h d (aBl _ hd)) k]
theorem cP.rerow {ex:List Nat} {B g z cap:Nat} {W:World} {u:Value} {l:List Queue} {b:List aT} (h:cP ex B W u (aE (aC ⟨g,0,aD⟩) z cap) l b) (hz:b.length=z) :
  ∃ (css:List (List Value)) (cur:Array Value),W.heap[g]?=aC (.cells cur 40 (0,0))/\cur.size=cap*7/\cur.toList.take (z*7)=css.flatten/\css.length=z/\(∀ cs∈css,cs.length=7)/\(∀ u∈css.flatten,u.oneCell'=true)/\z<=cap/\cap<=maxLen/\B<=g/\(∀ W',W.grownBy W' (aC g)->∀ (k:Nat) (cs:List Value) (x:aT),css[k]?=aC cs->b[k]?=aC x->fE W' cs x)/\
   ∀ (W':World) (n':Nat) (css':List (List Value)) (b':List aT) (cur':Array Value),W.grownBy W' (aC g)->W'.heap[g]?=aC (.cells cur' 40 (0,0))->cur'.size=cap*7->cur'.toList.take (n'*7)=css'.flatten->n'<=cap->b'.length=n'->css'.length=n'->n'<=12->
    (∀ (k:Nat) (cs:List Value) (x:aT),css'[k]?=aC cs->b'[k]?=aC x->∃ j:Nat,css[j]?=aC cs/\b[j]?=aC x)->cP ex B W' u (aE (aC ⟨g,0,aD⟩) n' cap) l b':=by
 obtain⟨gq,qc,rfl,h1,h2,h5,h12,hgB,hs,he,hl,hc,⟨css,o1,o2,o3,o4⟩,hne,hq⟩:=h;rcases o1.2 with ⟨hv,_⟩ | ⟨g',cap',cur,hv,hb,hcur,hnc,hcm,hcs,htk⟩
 ·cases hv
 ·cases hv;rw[hz] at *;refine⟨css,cur,hcur,hcs,htk,by rw[o2.len,hz],o2.seven,o2.one,hnc,hcm,hb,fun W' hg k cs x h1 h2=>gE (o2.each k cs x h1 h2) hg (o4 g rfl cs (aBJ h1)),fun W' n' css' b' cur' hg hcur' hs' ht' hn' hb' hc' h12' hsub=>?_⟩;have hpair:∀ cs∈css',∃ (x:aT) (j:Nat),x∈b'/\css[j]?=aC cs/\b[j]?=aC x:=fun cs hm=>by
   obtain⟨k,hk⟩:=aCU.1 hm;have hkl:=(aBD.1 hk).1;obtain⟨x,hx⟩:=bT (f:=b') (k:=k) (by omega);obtain⟨j,hj1,hj2⟩:=hsub k cs x hk hx;exact⟨x,j,aBJ hx,hj1,hj2⟩
  have hin:∀ cs∈css',cs∈css:=fun cs hm=>by
   obtain⟨x,j,_,h,_⟩:=hpair cs hm;exact aBJ h
  have hlive:yQ b':=fun x hx=>by
   obtain⟨k,hk⟩:=aCU.1 hx;have hkl:=(aBD.1 hk).1;obtain⟨cs,hcs⟩:=bT (f:=css') (k:=k) (by omega);obtain⟨j,_,hj⟩:=hsub k cs x hcs hk;exact hl x (aBJ hj)
  have h4:=o4 g rfl;refine⟨gq,qc,rfl,h1,h2,h5,by omega,hgB,aBA hs hg.size,he,hlive,hc,⟨css',⟨?_,.inr ⟨g,cap,cur',by rw[hb'],hb,hcur',by omega,hcm,hs',by rw[hb'];exact ht'⟩⟩,⟨by omega,fun k cs x hk hx=>?_⟩,fun cs hm=>o3 cs (hin cs hm),fun g' hg'=>?_⟩,fun r hr=>hne r hr,?_⟩
  ·rw[gU css' (fun cs hm=>o2.seven cs (hin cs hm)),hc',hb']
  ·obtain⟨j,hj1,hj2⟩:=hsub k cs x hk hx;exact gE (o2.each j cs x hj1 hj2) hg (h4 cs (aBJ hj1))
  ·obtain rfl:g=g':=by simpa[aCZ] using hg'
   exact fun cs hm=>h4 cs (hin cs hm)
  ·exact hq.kept hg (aD1 _ (aCB.2 rfl)) (hne g rfl).1
theorem rH {g:Nat} {T:TypeId}:∀ (vs:List Value) (o:Nat) (W:World) (cur:Array Value),W.heap[g]?=aC (.cells cur T (0,0))->
  ∃ cur',(W.setCells g o vs).heap[g]?=aC (.cells cur' T (0,0))/\cur'.size=cur.size/\cur'.toList.take o=cur.toList.take o/\W.grownBy (W.setCells g o vs) (aC g)
 | [],o,W,cur,h=>⟨cur,h,rfl,rfl,bI (Ext.rf W)⟩
 | v::vs,o,W,cur,h=>by
  obtain⟨cur',h1,h2,h3,h4⟩:=rH vs (o+1) (W.setCell ⟨g,o,aD⟩ v) _ (heap_setCell_same W g o cur T v h);refine⟨cur',h1,by simpa using h2,?_,bG (aY W g o v) h4⟩;have e:cur'.toList.take o=(cur'.toList.take (o+1)).take o:=by rw[aD7];congr 1;omega
  rw[e,h3,aD7,show min o (o+1)=o by omega,aD8,aD9 (aBq _)]
def oH (n:Nat):List Value:=(Builtin.zeroCells #[aA aB 0,aA aB 0,aA aB 0,aA aB 0,aA aB 0,aE aD 0 0,aE aD 0 0] n).toList
theorem Dn (w:World) (ty:TypeId) (b o n c:Nat) (hn:0 < n) (hc:∀ j,j < n*7->(w.cell? ⟨b,o+j,aD⟩).isSome=true) (hf:∀ j,j < n*7->w.frozen? ⟨b,o+j,aD⟩=false) :
  (Builtin.clear_ #[23] ty #[aE (aC ⟨b,o,aD⟩) n c]).run prog w=.ok (.tuple #[]) (w.setCells b o (oH n)):=by
 have hl:(oH n).length=n*7:=by
  unfold oH;rw[aDa,size_zeroCells];rfl
 have h1:∀ v∈oH n,v.oneCell'=true:=fun v hv=>by
  unfold oH Builtin.zeroCells at hv;rw[Array.toList_map,List.mem_map] at hv;obtain⟨i,_,rfl⟩:=hv;have hi:i % 7 < 7:=Nat.mod_lt _ (by omega);show (#[aA aB 0,aA aB 0,aA aB 0,aA aB 0,aA aB 0,aE aD 0 0,aE aD 0 0]:Array Value)[i % 7]!.oneCell'=true;generalize i % 7=j at hi;rcases(by omega:j=0\/j=1\/j=2\/j=3\/j=4\/j=5\/j=6) with rfl | rfl | rfl | rfl | rfl | rfl | rfl <;> rfl
 have hst:=run_storeCells_cells (P:=prog) b o (oH n) 0 w (by rw[hl];simpa using hc) (by rw[hl];simpa using hf) h1;simp only[aBS] at hst;obtain⟨m,rfl⟩:∃ m,n=m+1:=⟨n - 1,by omega⟩;unfold oH at hst ⊢;simp[Builtin.clear_,run_underlying underlying23,Value.cells,hst]
theorem pR {P:Program} {o:Oper} {a:Act} {w:World} {K:Act->World->Prop} {Q:Exit->Act->World->Prop} (s x:Operand) (t:TypeId)
  (ho:o.op=.call { callee:=.builtin .append,args:=#[s,x],argTypes:=#[t,t]}) (e:TypeId) (i:TypeInfo) (ht:P.underlying t=aC (.slice e)) (hi:P.info? e=aC i)
  (g n cap:Nat) (cur:Array Value) (hg:w.heap[g]?=aC (.cells cur e (0,0))) (hs:a.eval s=aE (aC ⟨g,0,aD⟩) n cap) (ad:Addr) (m c:Nat) (news:List Value) (hx:a.eval x=aE (aC ad) m c)
  (hl:news.length=m*i.size) (hnews:∀ j u,news[j]?=aC u->w.cell? (ad.add j)=aC u) (h1:∀ u∈news,u.oneCell'=true) (hroom:n+m<=cap) (hfit:n*i.size+news.length<=cur.size)
  (h:K (a.put o.dst (aE (aC ⟨g,0,aD⟩) (n+m) cap)) (w.setRow g (cur.toList.take (n*i.size)++news++cur.toList.drop (n*i.size+news.length)).toArray)):o.wp P a w K Q:=by
 have hr:=run_append_room (P:=P) w t o.type e i ht hi g n cap cur hg ad m c news hl hnews h1 hroom hfit;unfold Oper.wp execOp;simp only[ho,resolve,invoke,builtin,Sem.run_bind,Sem.run_pure,Result.andThen_ok,List.map_toArray,List.map_cons,List.map_nil,hs,hx,hr];exact h
theorem yL (g o j:Nat):(⟨g,o,aD⟩:Addr).add j=⟨g,o+j,aD⟩:=kN g o j
theorem kG {W:World} {g:Nat} {cur:Array Value} {T:TypeId} (h:W.heap[g]?=aC (.cells cur T (0,0))) {o:Nat} {u:Value} (hu:cur.toList[o]?=aC u):W.cell? ⟨g,o,aD⟩=aC u:=by
 rw[cell_of_row W g o cur T _ h];simpa using hu
theorem Gr (ex:List Nat) (B:Nat) (w:World) (u:Value) (g z cap k:Nat) (l:List Queue) (b:List aT) (h:cP ex B w u (aE (aC ⟨g,0,aD⟩) z cap) l b) (hz:b.length=z) (hk:k < z) (h12:z<=12) :
  Calls prog 78 #[aE (aC ⟨g,0,aD⟩) z cap,aA aB (k:Int),aA aB ((k:Int)+1)] w fun e w'=>e=.returned (aE (aC ⟨g,0,aD⟩) (z - 1) cap)/\cP ex B w' u (aE (aC ⟨g,0,aD⟩) (z - 1) cap) l (b.eraseIdx k)/\w.grownBy w' (aC g):=by
 obtain⟨css,cur,hcur,hcs,htk,hlen,h7,h1,hzc,hcm,hgB,hbc,hre⟩:=h.rerow hz;obtain⟨ib,ib1,ib2,ib3,ib4⟩:=info_parts info40;have hk1:((k:Int) == (k:Int)+1)=false:=eqF (by omega);have hkc:k<=cap:=by omega
 have hb1:(0:Int)<=(k:Int)+1:=by omega
 have hb2:(k:Int)+1<=(z:Int):=by omega
 obtain⟨news,hnews⟩:∃ news,news=(css.drop (k+1)).flatten:=⟨_,rfl⟩;have hnl:news.length=(z - (k+1))*7:=by rw[hnews,gU _ (fun cs hm=>h7 cs (aDb hm)),aDc,hlen]
 have hcell:∀ (j:Nat) v,j < z*7->css.flatten[j]?=aC v->w.cell? ⟨g,j,aD⟩=aC v:=fun j v hj hv=>kG hcur (by rw[<- htk,aCY hj] at hv;exact hv);obtain⟨A,hA,hsrc⟩:∃ A:Addr,(if cap=k+1 then aC (⟨g,0,aD⟩:Addr) else aC ⟨g,(k+1)*7,aD⟩)=aC A/\Hid (∀ (j:Nat) v,news[j]?=aC v->w.drew.cell? (A.add j)=aC v):=by
  by_cases hc:cap=k+1
  ·refine⟨⟨g,0,aD⟩,by simp[hc],fun j v hv=>?_⟩;have h0:news.length=0:=by rw[hnl];omega
   rw[aDd.1 h0] at hv;simp at hv
  ·refine⟨⟨g,(k+1)*7,aD⟩,by simp[hc],fun j v hv=>?_⟩;have hjl:j < (z - (k+1))*7:=by rw[<- hnl];exact(aBD.1 hv).1
   rw[yL];refine hcell _ v (by omega) ?_;rw[hnews,<- eW css h7,aBN] at hv;exact hv
 have HCUR:=hid hcur;have HRE:=hid hre;have HTK:=hid htk;have HNW:=hid hnews;have HNL:=hid hnl;have HN1:=hid (show ∀ v∈news,v.oneCell'=true from fun v hv=>by
  rw[hnews,<- eW css h7] at hv;exact h1 v (aDb hv))
 have HH7:=hid h7;clear hcur hre htk hnews hnl hcell hbc h1 h;go_enter func78,ntmps78
 go_wp2_with fail
 refine wp_region_held_drew (S:=fun _=>True) (by kernel_rfl) trivial (fun hHeld=>?_);refine tkH 0 ?_;refine tkH 1 ?_;refine tkH 2 ?_;refine tkH 3 ?_;refine tkH 4 ?_;refine tkH 5 ?_;refine wpAnyH_ready (rs:=[6]) (by kernel_rfl) (by simp) ?_;refine AllReadyH.cons rfl (fun K hK=>?_) AllReadyH.nil;simp only[zA,zB,zC];rw[if_pos (by rfl)];refine pR _ _ _ (by rfl) 40 ib underlying23 ib1 g k cap cur HCUR.out (by rfl) A (z - (k+1)) (cap - (k+1)) news (by rfl) (by rw[HNL.out,ib3]) hsrc.out HN1.out (by omega) (by rw[HNL.out,ib3,hcs];omega) ?_;refine hK.out _ _ ?_ (fun hHeld=>?_)
 ·trivial
 clear hK K;refine tkH 7 ?_;refine wpAnyH_done (by kernel_rfl) ?_ _;rw[ib3,HNL.out];obtain⟨m,hm⟩:∃ m,k+(z - (k+1))=m:=⟨_,rfl⟩;rw[hm];have hm1:z - m=1:=by omega
 have hmz:m<=z:=by omega
 have hmc:m<=cap:=by omega
 have hmi:(m:Int)<=(z:Int):=by omega
 have hcne:¬ cap=m:=by omega
 obtain⟨cur1,hcur1⟩:∃ cur1,(cur.toList.take (k*7)++news++cur.toList.drop (k*7+(z - (k+1))*7)).toArray=cur1:=⟨_,rfl⟩;rw[hcur1];obtain⟨W1,hW1⟩:∃ W1,w.drew.setRow g cur1=W1:=⟨_,rfl⟩;have hb1':W1.heap[g]?=aC (.cells cur1 40 (0,0)):=hW1▸setRow_heap w.drew g cur cur1 _ _ HCUR.out;have hg1:w.grownBy W1 (aC g):=hW1▸bG (bI (Ext.rf w).dr) (bS w.drew g cur1);have hs1:cur1.size=cap*7:=by
  rw[<- hcur1];simp only[aC9,aBk,aCH,aDc,aDa,HNL.out,hcs];omega
 have ht1:cur1.toList.take (m*7)=(css.eraseIdx k).flatten:=by
  rw[<- hcur1,aDe,aD3,<- HNW.out];have e1:cur.toList.take (k*7)=(css.take k).flatten:=by
   rw[<- mP css HH7.out k,<- HTK.out,aD7,show min (k*7) (z*7)=k*7 by omega]
  have e2:(cur.toList.take (k*7)++news).length=m*7:=by rw[aBk,aCH,aDa,HNL.out,hcs];omega
  rw[<- e1,<- e2];exact aDf
 obtain⟨cur2,hc2,hs2,ht2,hg2⟩:=rH (oH 1) (m*7) W1 cur1 hb1';have hcl:∀ ty,(Builtin.clear_ #[23] ty #[aE (aC ⟨g,m*7,aD⟩) 1 (cap - m)]).run prog W1=.ok (.tuple #[]) (W1.setCells g (m*7) (oH 1)):=fun ty=>
  Dn W1 ty g (m*7) 1 (cap - m) (by omega) (fun j hj=>by
   rw[cell_of_row W1 g _ _ _ _ hb1',aBT (by rw[hs1];omega)];rfl) (fun j hj=>frozen_of_row W1 g _ _ _ hb1')
 have HF:=hid (HRE.out _ m (css.eraseIdx k) (b.eraseIdx k) cur2 (bG hg1 hg2) hc2 (by omega) (by rw[ht2,ht1]) (by omega) (by rw[aDg];split <;> omega) (by rw[aDg];split <;> omega) (by omega) (fun j cs x h1 h2=>by
  rw[aDh] at h1 h2;split at h1
  ·rename_i hj
   rw[if_pos hj] at h2;exact⟨j,h1,h2⟩
  ·rename_i hj
   rw[if_neg hj] at h2;exact⟨j+1,h1,h2⟩))
 have HG:=hid (bG hg1 hg2);have HW1:=hid hW1;have HM:=hid (show z - 1=m by omega);rw[HW1.out];clear hb1' hg1 hs1 ht1 hc2 hs2 ht2 hg2 hW1 hcur1 hm HCUR HRE HTK HNW HNL HN1 HH7 hsrc hA
 go_wp2_with fail
 go_ret;exact⟨by rw[HM.out];rfl,by rw[HM.out];exact HF.out,HG.out⟩
theorem cP.cut {ex:List Nat} {B g z cap k:Nat} {w:World} {u:Value} {l:List Queue} {b:List aT} (h:cP ex B w u (aE (aC ⟨g,0,aD⟩) z cap) l b) (hz:b.length=z) (hk:k < z) (h12:z<=12) :
  ∃ (cur:Array Value) (news:List Value) (A:Addr),w.heap[g]?=aC (.cells cur 40 (0,0))/\cur.size=cap*7/\z<=cap/\(if cap=k+1 then aC (⟨g,0,aD⟩:Addr) else aC ⟨g,(k+1)*7,aD⟩)=aC A/\news.length=(z - (k+1))*7/\
   (∀ (j:Nat) v,news[j]?=aC v->w.cell? (A.add j)=aC v)/\(∀ v∈news,v.oneCell'=true)/\
   cP ex B (w.setRow g (cur.toList.take (k*7)++news++cur.toList.drop (k*7+(z - (k+1))*7)).toArray) u (aE (aC ⟨g,0,aD⟩) (z - 1) cap) l (b.eraseIdx k)/\
   w.grownBy (w.setRow g (cur.toList.take (k*7)++news++cur.toList.drop (k*7+(z - (k+1))*7)).toArray) (aC g):=by
 obtain⟨css,cur,hcur,hcs,htk,hlen,h7,h1,hzc,hcm,hgB,hbc,hre⟩:=h.rerow hz;obtain⟨news,hnews⟩:∃ news,news=(css.drop (k+1)).flatten:=⟨_,rfl⟩;have hnl:news.length=(z - (k+1))*7:=by rw[hnews,gU _ (fun cs hm=>h7 cs (aDb hm)),aDc,hlen]
 have hcell:∀ (j:Nat) v,j < z*7->css.flatten[j]?=aC v->w.cell? ⟨g,j,aD⟩=aC v:=fun j v hj hv=>kG hcur (by rw[<- htk,aCY hj] at hv;exact hv);obtain⟨A,hA,hsrc⟩:∃ A:Addr,(if cap=k+1 then aC (⟨g,0,aD⟩:Addr) else aC ⟨g,(k+1)*7,aD⟩)=aC A/\(∀ (j:Nat) v,news[j]?=aC v->w.cell? (A.add j)=aC v):=by
  by_cases hc:cap=k+1
  ·refine⟨⟨g,0,aD⟩,by simp[hc],fun j v hv=>?_⟩;have h0:news.length=0:=by rw[hnl];omega
   rw[aDd.1 h0] at hv;simp at hv
  ·refine⟨⟨g,(k+1)*7,aD⟩,by simp[hc],fun j v hv=>?_⟩;have hjl:j < (z - (k+1))*7:=by rw[<- hnl];exact(aBD.1 hv).1
   rw[yL];refine hcell _ v (by omega) ?_;rw[hnews,<- eW css h7,aBN] at hv;exact hv
 have hg:=bS w g (cur.toList.take (k*7)++news++cur.toList.drop (k*7+(z - (k+1))*7)).toArray;refine⟨cur,news,A,hcur,hcs,hzc,hA,hnl,hsrc,fun v hv=>?_,?_,hg⟩
 ·rw[hnews,<- eW css h7] at hv;exact h1 v (aDb hv)
 ·refine hre _ (z - 1) (css.eraseIdx k) (b.eraseIdx k) _ hg (setRow_heap w g cur _ _ _ hcur) ?_ ?_ (by omega) (by rw[aDg];split <;> omega) (by rw[aDg];split <;> omega) (by omega) (fun j cs x h1 h2=>?_)
  ·simp only[aC9,aBk,aCH,aDc,aDa,hnl,hcs];omega
  ·rw[aDe,aD3,<- hnews];have e1:cur.toList.take (k*7)=(css.take k).flatten:=by
    rw[<- mP css h7 k,<- htk,aD7,show min (k*7) (z*7)=k*7 by omega]
   have e2:(cur.toList.take (k*7)++news).length=(z - 1)*7:=by rw[aBk,aCH,aDa,hnl,hcs];omega
   rw[<- e1,<- e2];exact aDf
  ·rw[aDh] at h1 h2;split at h1
   ·rename_i hj
    rw[if_pos hj] at h2;exact⟨j,h1,h2⟩
   ·rename_i hj
    rw[if_neg hj] at h2;exact⟨j+1,h1,h2⟩
def Ax (css:List (List Value)) (b:List aT) (p:aT->Bool) (j:Nat):List (List Value × aT):=((css.zip b).take j).filter fun q=>!p q.2
def gR (css:List (List Value)) (b:List aT) (p:aT->Bool) (j:Nat):List (List Value):=(Ax css b p j).map Prod.fst
theorem Rn (css:List (List Value)) (b:List aT) (p:aT->Bool):gR css b p 0=[]:=by simp[gR,Ax]
theorem mN {css:List (List Value)} {b:List aT} {p:aT->Bool} {j:Nat} {cs:List Value} {x:aT} (h1:css[j]?=aC cs) (h2:b[j]?=aC x):gR css b p (j+1)=if p x=true then gR css b p j else gR css b p j++[cs]:=by
 have hz:(css.zip b)[j]?=aC (cs,x):=by rw[aDi];exact⟨h1,h2⟩
 unfold gR Ax;rw[aD6,hz,List.filter_append,List.map_append];by_cases hp:p x=true
 ·rw[if_pos hp];simp[hp]
 ·rw[if_neg hp];simp[hp]
theorem Yz {css:List (List Value)} {b:List aT} {p:aT->Bool} (hl:css.length=b.length):(Ax css b p b.length).map Prod.snd=b.filter fun x=>!p x:=by
 unfold Ax;rw[aCM (by rw[List.length_zip];omega)];have e:(css.zip b).map Prod.snd=b:=by rw[List.map_snd_zip (by omega)]
 conv=>rhs;rw[<- e]
 rw[List.filter_map];rfl
theorem We {css:List (List Value)} {b:List aT} {p:aT->Bool} {j k:Nat} {cs:List Value} {x:aT} (h1:(gR css b p j)[k]?=aC cs) (h2:((Ax css b p j).map Prod.snd)[k]?=aC x):∃ i:Nat,css[i]?=aC cs/\b[i]?=aC x:=by
 unfold gR at h1;rw[List.getElem?_map] at h1 h2;cases hq:(Ax css b p j)[k]? with
 | none=>rw[hq] at h1;cases h1
 | some q=>
  rw[hq] at h1 h2;simp only[Option.map_some,Option.some.injEq] at h1 h2;have hm:=List.mem_of_mem_take (List.mem_filter.1 (aBJ hq)).1;obtain⟨i,hi⟩:=aCU.1 hm;rw[aDi] at hi;exact⟨i,by rw[<- h1];exact hi.1,by rw[<- h2];exact hi.2⟩
structure yS (w:World) (g cap:Nat) (cur0:Array Value) (css:List (List Value)) (b:List aT) (p:aT->Bool) (j:Nat) (W:World):Prop where
 grown:w.grownBy W (aC g)
 row:∃ cur:Array Value,W.heap[g]?=aC (.cells cur 40 (0,0))/\cur.size=cap*7/\cur.toList.take ((gR css b p j).length*7)=(gR css b p j).flatten/\∀ m,j*7<=m->cur.toList[m]?=cur0.toList[m]?
 less:(gR css b p j).length+1<=j
theorem jX {g:Nat} {T:TypeId}:∀ (vs:List Value) (o:Nat) (W:World) (cur:Array Value),W.heap[g]?=aC (.cells cur T (0,0))->o+vs.length<=cur.size->
  ∃ cur',(W.setCells g o vs).heap[g]?=aC (.cells cur' T (0,0))/\cur'.size=cur.size/\cur'.toList.take (o+vs.length)=cur.toList.take o++vs/\∀ m,o+vs.length<=m->cur'.toList[m]?=cur.toList[m]?
 | [],o,W,cur,h,_=>⟨cur,h,rfl,by simp,fun m _=>rfl⟩
 | v::vs,o,W,cur,h,ho=>by
  simp only[aBB] at ho;obtain⟨cur',h1,h2,h3,h4⟩:=jX vs (o+1) (W.setCell ⟨g,o,aD⟩ v) _ (heap_setCell_same W g o cur T v h) (by rw[Array.size_setIfInBounds];omega);refine⟨cur',h1,by simpa using h2,?_,fun m hm=>?_⟩
  ·rw[aBB,show o+(vs.length+1)=o+1+vs.length by omega,h3,aD8,aD6,aD9 (aBq _),List.getElem?_set_self (by rw[aDa];omega)];simp
  ·simp only[aBB] at hm;rw[h4 m (by omega),aD8,List.getElem?_set_ne (by omega)]
theorem eV (W:World) (g:Nat):∀ (vs:List Value) (o:Nat),W.grownBy (W.setCells g o vs) (aC g):=fun vs=>by
 induction vs generalizing W with
 | nil=>exact fun o=>bI (Ext.rf W)
 | cons v vs ih=>exact fun o=>bG (aY W g o v) (ih _ (o+1))
theorem Oq {α:Type} {p:α->Bool} {xs:List α} (h:0<=fM p xs):∃ (k:Nat) (x:α),fM p xs=k/\xs[k]?=aC x/\p x=true/\∀ j y,j < k->xs[j]?=aC y->p y=false:=by
 unfold fM at h ⊢;cases hf:xs.findIdx? p with
 | none=>rw[hf] at h;exact absurd h (by decide)
 | some i=>
  obtain⟨hi,hp,ha⟩:=aBW.1 hf;refine⟨i,xs[i],rfl,aBu hi,hp,fun j y hj hy=>?_⟩;obtain⟨hjl,rfl⟩:=aBD.1 hy;have:=ha j hj;simpa using this
theorem En {css:List (List Value)} {b:List aT} {p:aT->Bool}:∀ (j:Nat),j<=css.length->css.length=b.length->(∀ i y,i < j->b[i]?=aC y->p y=false)->gR css b p j=css.take j
 | 0,_,_,_=>by rw[Rn];rfl
 | j+1,hj,hl,h=>by
  obtain⟨cs,hcs⟩:=bT (f:=css) (k:=j) (by omega);obtain⟨x,hx⟩:=bT (f:=b) (k:=j) (by omega);rw[mN hcs hx,if_neg (by rw[h j x (by omega) hx];simp),En j (by omega) hl (fun i y hi hy=>h i y (by omega) hy),aD6,hcs];rfl
theorem yS.keep {w W W':World} {g cap j:Nat} {cur0:Array Value} {css:List (List Value)} {b:List aT} {p:aT->Bool} {cs:List Value} {x:aT} (h:yS w g cap cur0 css b p j W) (hx:Ext W W') (h1:css[j]?=aC cs) (h2:b[j]?=aC x) (hp:p x=true):yS w g cap cur0 css b p (j+1) W':=by
 obtain⟨cur,r1,r2,r3,r4⟩:=h.row;have e:gR css b p (j+1)=gR css b p j:=by rw[mN h1 h2,if_pos hp]
 exact⟨bG h.grown (bI hx),⟨cur,(hx.block g (aBy.1 r1).1).trans r1,r2,by rw[e];exact r3,fun m hm=>r4 m (by omega)⟩,by rw[e];have:=h.less;omega⟩
theorem yS.move {w W W':World} {g cap z j:Nat} {cur0:Array Value} {css:List (List Value)} {b:List aT} {p:aT->Bool} {cs:List Value} {x:aT} (h:yS w g cap cur0 css b p j W) (hx:Ext W W') (hj:j < z) (hz:z<=cap) (h7:cs.length=7) (h1:css[j]?=aC cs) (h2:b[j]?=aC x) (hp:p x=false):yS w g cap cur0 css b p (j+1) (W'.setCells g ((gR css b p j).length*7) cs):=by
 obtain⟨cur,r1,r2,r3,r4⟩:=h.row;have hl:=h.less;have e:gR css b p (j+1)=gR css b p j++[cs]:=by rw[mN h1 h2,if_neg (by rw[hp];simp)]
 have r1':=(hx.block g (aBy.1 r1).1).trans r1;obtain⟨cur',q1,q2,q3,q4⟩:=jX cs ((gR css b p j).length*7) W' cur r1' (by rw[h7,r2];omega);rw[h7] at q3 q4;refine⟨bG h.grown (bG (bI hx) (eV W' g cs _)),⟨cur',q1,by omega,?_,fun m hm=>?_⟩,by rw[e,aBk];simp;omega⟩
 ·rw[e,aBk,aD3,<- r3];simp only[aBB,List.length_nil,aCT,List.flatten_nil,List.append_nil];rw[<- q3]
  congr 1;omega
 ·rw[q4 m (by omega),r4 m (by omega)]
theorem sG (ex:List Nat) (B:Nat) (w:World) (u:Value) (g z cap:Nat) (l:List Queue) (b:List aT) (G:Nat) (lb:Array Value) (p:aT->Bool) (h:cP ex B w u (aE (aC ⟨g,0,aD⟩) z cap) l b) (hz:b.length=z) (h12:z<=12)
  (heg:∀ (args:Array Value) (w:World),(callFunc G args).run prog w=.ok (.enter G args) w)
  (hp:∀ (k:Nat) (x:aT),b[k]?=aC x->∀ W pv bv,w.grownBy W (aC g)->aU W pv x.aP.aF->bJ W bv x.aO->Calls prog G (#[.agg #[aA aB x.Id,aA aB x.aP.aG,aA aB x.aP.aI,aA aB x.aP.aH,aA aB x.aP.aJ,pv,bv]]++lb) W fun e w'=>e=.returned (.bool (p x))/\Ext W w') :
  Calls prog 79 #[aE (aC ⟨g,0,aD⟩) z cap,.func (.func G) #[] lb] w fun e w'=>∃ n',e=.returned (aE (aC ⟨g,0,aD⟩) n' cap)/\n'=(b.filter fun x=>!p x).length/\cP ex B w' u (aE (aC ⟨g,0,aD⟩) n' cap) l (b.filter fun x=>!p x)/\w.grownBy w' (aC g):=by
 obtain⟨css,cur,hcur,hcs,htk,hlen,h7,h1,hzc,hcm,hgB,hbc,hre⟩:=h.rerow hz;have hbv:=h.books;have hgw:g < w.heap.size:=(aBy.1 hcur).1;have hE:∀ k x,b[k]?=aC x->iR w g (0+k*7) x:=by
  rcases hbv with ⟨h0,_⟩ | ⟨_,_,_,e,_,_,_,_,hE⟩
  ·intro k x hk;rw[h0] at hk;simp at hk
  ·cases e;exact hE
 have IF:=hid (show Calls prog 136 #[aE (aC ⟨g,0,aD⟩) z cap,.func (.func G) #[] lb] w (fun e w'=>e=.returned (aA aB (fM p b))/\Ext w w') from by
  have:=uC w g 0 cap b G lb p (by omega) hgw hE heg (fun k x hk W pv bv hx=>hp k x hk W pv bv (bI hx))
  rwa [hz] at this)
 have hrow:∀ (k:Nat) cs x,css[k]?=aC cs->b[k]?=aC x->∀ j v,j < 7->cs[j]?=aC v->cur.toList[k*7+j]?=aC v:=fun k cs x hk hx j v hj hv=>by
  have hkz:k < z:=by rw[<- hz];exact(aBD.1 hx).1
  have e:css.flatten[k*7+j]?=aC v:=by rw[Bd css h7 k j hj,hk];exact hv
  rw[<- htk,aCY (by omega)] at e;exact e
 have HROW:=hid hrow;have HCUR:=hid hcur;have HRE:=hid hre;have HTK:=hid htk;have HH7:=hid h7;have HBC:=hid hbc;have HP:=hid hp;have HH:=hid h;have hbz:=hz;by_cases hix:0<=fM p b
 ·obtain⟨k0,x0,hi0,hk0,hp0,hall0⟩:=Oq hix;rw[hi0] at IF;have hk0z:k0 < z:=by rw[<- hz];exact(aBD.1 hk0).1
  have hlb:css.length=b.length:=by omega
  obtain⟨cs0,hcs0⟩:=bT (f:=css) (k:=k0) (by omega);have hkc0:=En k0 (by omega) hlb hall0;have hkc1:gR css b p (k0+1)=css.take k0:=by rw[mN hcs0 hk0,if_pos hp0,hkc0]
  have HST:=hid (fun(W:World) (hx:Ext w W)=>show yS w g cap cur css b p (k0+1) W from by
   refine⟨bI hx,⟨cur,(hx.block g hgw).trans hcur,hcs,?_,fun m _=>rfl⟩,?_⟩
   ·rw[hkc1,aCH,Nat.min_eq_left (by omega),<- mP css h7,<- htk,aD7,show min (k0*7) (z*7)=k0*7 by omega]
   ·rw[hkc1,aCH];omega)
  have HKL:=hid (show (gR css b p (k0+1)).length=k0 from by rw[hkc1,aCH];omega);have hn1:=eqF (a:=(k0:Int)) (b:=-1) (by omega);have hwr0:IntKind.i64.wrap ((k0:Int)+1)=(k0:Int)+1:=by rw[IntKind.wrap_i64];omega
  clear hbv hE hrow hcur hre htk h7 hbc hp h1 h hix hall0 hkc0 hkc1 hp0 hcs0 hk0 hi0;go_enter func79,ntmps79
  go_wp2_with fail
  refine IF.out.mono ?_;rintro e w2 ⟨rfl,hx2⟩;have HD0:=hid (HST.out w2 hx2)
  go_wp2_with fail
  go_loopw [5,6] (fun ci cj wr=>∃ j:Nat,cj=aA aB j/\ci=aA aB ((gR css b p j).length:Nat)/\k0 < j/\j<=z/\Hid (yS w g cap cur css b p j wr)) (fun _ cj _=>z - (intOf cj).toNat)
  case atStart=>exact⟨k0+1,by go_num,by rw[HKL.out],by omega,by omega,HD0⟩
  case round=>
   obtain⟨j,rfl,rfl,hj0,hj,HD⟩:=hrel;have hless:=HD.out.less;by_cases hlt:j < z
   ·have hlt':(j:Int) < (z:Int):=by omega
    obtain⟨cs,hcs'⟩:=bT (f:=css) (k:=j) (by omega);obtain⟨x,hxj⟩:=bT (f:=b) (k:=j) (by omega);have hcs7:=HH7.out cs (aBJ hcs');obtain⟨curj,r1,r2,r3,r4⟩:=HD.out.row;have hBC:=HBC.out wr HD.out.grown j cs x hcs' hxj;obtain⟨qs,bv,rfl,⟨pv,rfl,hpv,_⟩,hbi,_⟩:=hBC;have cell:∀ i v,i < 7->([aA aB x.Id,aA aB x.aP.aG,aA aB x.aP.aI,aA aB x.aP.aH,aA aB x.aP.aJ,pv,bv]:List Value)[i]?=aC v->wr.cell? ⟨g,j*7+i,aD⟩=aC v:=fun i v hi hv=>kG r1 (by rw[r4 _ (by omega)];exact HROW.out j _ x hcs' hxj i v hi hv);have c0:=cell 0 _ (by omega) rfl;have c1:=cell 1 _ (by omega) rfl;have c2:=cell 2 _ (by omega) rfl;have c3:=cell 3 _ (by omega) rfl;have c4:=cell 4 _ (by omega) rfl;have c5:=cell 5 _ (by omega) rfl;have c6:=cell 6 _ (by omega) rfl;rw[aBS] at c0;have HPC:=hid (fun(W:World) (hx:Ext wr W)=>HP.out j x hxj W pv bv (bG HD.out.grown (bI hx)) (hpv.mono hx) (hbi.mono hx));obtain⟨pa,pc,rfl,_,_,_⟩:=hpv.form;obtain⟨ia,ic,rfl,_,_,_⟩:=hbi.form;have HCS:=hid hcs';have HXJ:=hid hxj;have hthere:∀ W,Ext wr W->W.there g ((gR css b p j).length*7) 7:=fun W hx i hi=>by
     have hlt2:(gR css b p j).length*7+i < curj.toList.length:=by
      have e:curj.toList.length=cap*7:=by rw[aDa];exact r2
      rw[e];omega
     refine⟨?_,?_⟩
     ·rw[hx.ce' (kG r1 (aBu hlt2))];rfl
     ·exact frozen_of_row W g _ _ _ ((hx.block g (aBy.1 r1).1).trans r1)
    have HTH:=hid hthere;have HLK:=hid (show (gR css b p j).length < z from by omega);have hgwr:g < wr.heap.size:=(aBy.1 r1).1;have t1:=deF (show ¬ (j:Int) < 0 by omega);have t2:=deF (show ¬ (z:Int)<=(j:Int) by omega);clear cell r1 r2 r3 r4 hpv hbi hthere hcs' hxj hless;generalize hkl:(gR css b p j).length=kl at *;have HKL2:=hid hkl;clear hkl;cases hpx:p x with
    | true=>
     rw[hpx] at HPC;have HPX:=hid hpx;clear hpx
     go_wp2_with fail
     refine(HPC.out _ ((Ext.rf wr).al _)).mono ?_;rintro e w3 ⟨rfl,hx3⟩;have HD3:=hid (HD.out.keep (((Ext.rf wr).al _).tr hx3) HCS.out HXJ.out HPX.out);have HKE:=hid (show (gR css b p (j+1)).length=kl from by rw[mN HCS.out HXJ.out,if_pos HPX.out];exact HKL2.out)
     go_wp2_with fail
     go_roundw
     case rel=>exact⟨j+1,by go_num,by rw[HKE.out],by omega,by omega,HD3⟩
     case measure=>simp[intOf];omega
    | false=>
     rw[hpx] at HPC;have HPX:=hid hpx;clear hpx
     go_wp2_with fail
     refine(HPC.out _ ((Ext.rf wr).al _)).mono ?_;rintro e w3 ⟨rfl,hx3⟩;have hxa:=((Ext.rf wr).al (.cells #[aA aB x.Id,aA aB x.aP.aG,aA aB x.aP.aI,aA aB x.aP.aH,aA aB x.aP.aJ,aE pa x.aP.aF.length pc,aE ia x.aO.length ic] 40)).tr hx3;have hbx:w3.heap[wr.heap.size]?=aC (.cells #[aA aB x.Id,aA aB x.aP.aG,aA aB x.aP.aI,aA aB x.aP.aH,aA aB x.aP.aJ,aE pa x.aP.aF.length pc,aE ia x.aO.length ic] 40 (0,0)):=(hx3.block _ (by simp)).trans (heap_alloc_new wr _);obtain⟨k0',k1,k2,k3,k4,k5,k6,_⟩:=dX hbx;have HTH3:Hid (w3.there g (kl*7) 7):=hid (HTH.out w3 hxa);have HD3:=hid (HD.out.move (z:=z) hxa hlt hzc hcs7 HCS.out HXJ.out HPX.out);have HKE:=hid (show (gR css b p (j+1)).length=kl+1 from by rw[mN HCS.out HXJ.out,if_neg (by rw[HPX.out];simp),aBk,HKL2.out];rfl);have hkl':(kl:Int) < (z:Int):=by have:=HLK.out;omega
     have t3:=deF (show ¬ (kl:Int) < 0 by omega);have t4:=deF (show ¬ (z:Int)<=(kl:Int) by omega);have hwk:IntKind.i64.wrap ((kl:Int)+1)=(kl:Int)+1:=by rw[IntKind.wrap_i64];omega
     rw[HKL2.out] at HD3;obtain⟨w4,hw4⟩:∃ w4,w3.setCells g (kl*7) (#[aA aB x.Id,aA aB x.aP.aG,aA aB x.aP.aI,aA aB x.aP.aH,aA aB x.aP.aJ,aE pa x.aP.aF.length pc,aE ia x.aO.length ic]:Array Value).toList=w4:=⟨_,rfl⟩;have HD4:Hid (yS w g cap cur css b p (j+1) w4):=hw4▸HD3;have HW4:=hid hw4;clear hbx hxa HD3 hw4
     go_wp2_with (refine wpList_store_mid rfl 40 (.tmp 33) (.tmp 32) rfl g (kl*7) #[aA aB x.Id,aA aB x.aP.aG,aA aB x.aP.aI,aA aB x.aP.aH,aA aB x.aP.aJ,aE pa x.aP.aF.length pc,aE ia x.aO.length ic] rfl rfl HTH3.out size40 (by simp[aBz]) ?_;rw[HW4.out])
     go_roundw
     case rel=>exact⟨j+1,by go_num,by rw[HKE.out];go_num,by omega,by omega,HD4⟩
     case measure=>simp[intOf];omega
   ·obtain rfl:j=z:=by omega
    have hlt':¬ (j:Int) < (j:Int):=by omega
    obtain⟨curj,r1,r2,r3,r4⟩:=HD.out.row;obtain⟨m,hm⟩:∃ m,(gR css b p j).length=m:=⟨_,rfl⟩;rw[hm] at hless r3 ⊢;obtain⟨cur2,hc2,hs2,ht2,hg2⟩:=rH (oH (j - m)) (m*7) wr curj r1;have hcl:∀ ty,(Builtin.clear_ #[23] ty #[aE (aC ⟨g,m*7,aD⟩) (j - m) (cap - m)]).run prog wr=.ok (.tuple #[]) (wr.setCells g (m*7) (oH (j - m))):=fun ty=>
     Dn wr ty g (m*7) (j - m) (cap - m) (by omega) (fun i hi=>by
      rw[cell_of_row wr g _ _ _ _ r1,aBT (by rw[r2];omega)];rfl) (fun i hi=>frozen_of_row wr g _ _ _ r1)
    have hkb:((Ax css b p j).map Prod.snd)=b.filter fun x=>!p x:=by rw[<- hbz];exact Yz (by omega)
    have hml:(b.filter fun x=>!p x).length=m:=by rw[<- hkb,aCC,<- hm];unfold gR;rw[aCC]
    have HF:=hid (HRE.out _ m (gR css b p j) (b.filter fun x=>!p x) cur2 (bG HD.out.grown hg2) hc2 (by omega) (by rw[ht2,r3]) (by omega) hml hm (by omega) (fun i cs x h1 h2=>We (j:=j) h1 (by rw[hkb];exact h2)));have HG:=hid (bG HD.out.grown hg2);have HM:=hid hml;have hmj:m<=j:=by omega
    have hmc:m<=cap:=by omega
    have hmi:(m:Int)<=(j:Int):=by omega
    have hcne:¬ cap=m:=by omega
    clear r1 r2 r3 r4 hm hc2 hs2 ht2 hg2 hkb hml
    go_wp2_with fail
    go_ret;exact⟨m,rfl,HM.out.symm,HF.out,HG.out⟩
 ·have hall:b.any p=false:=by rw[<- qO];simpa using hix
  have hix1:fM p b=-1:=jO (fun j y hj hy=>by
   have:=aBY.1 hall y (aBJ hy);simpa using this)
  rw[hix1] at IF;have hf:(b.filter fun x=>!p x)=b:=List.filter_eq_self.2 (fun x hx=>by
   have:=aBY.1 hall x hx;simpa using this)
  clear hbv hE hrow hcur hre htk h7 hbc hp h1 h hix hall;go_enter func79,ntmps79
  go_wp2_with fail
  refine IF.out.mono ?_;rintro e w2 ⟨rfl,hx2⟩
  go_wp2_with fail
  go_ret;exact⟨z,rfl,by rw[hf,hbz],by rw[hf];exact HH.out.ext hx2,bI hx2⟩
theorem Gl (w:World) (G:Nat) (lb:Array Value) (c:Nat) :
  Calls prog 136 #[aE aD 0 c,.func (.func G) #[] lb] w fun e w'=>e=.returned (aA aB (-1))/\w'=w:=by
 go_enter func136,ntmps136
 go_wp2
 go_loopw [8] (fun i wr=>i=aA aB 0/\wr=w) (fun i _=>0)
 case atStart=>exact⟨rfl,rfl⟩
 case round=>
  obtain⟨rfl,rfl⟩:=hrel
  go_wp2
  go_ret;exact⟨rfl,rfl⟩
theorem Cm (w:World) (G:Nat) (lb:Array Value) (c:Nat) :
  Calls prog 79 #[aE aD 0 c,.func (.func G) #[] lb] w fun e w'=>e=.returned (aE aD 0 c)/\w'=w:=by
 have IF:=hid (Gl w G lb c);go_enter func79,ntmps79
 go_wp2_with fail
 refine IF.out.mono ?_;rintro e w2 ⟨rfl,hw⟩;obtain rfl:=hw.symm
 go_wp2_with fail
 go_ret;exact⟨rfl,rfl⟩
theorem Gs (ex:List Nat) (B:Nat) (w:World) (u v:Value) (l:List Queue) (b:List aT) (G:Nat) (lb:Array Value) (p:aT->Bool) (h:cP ex B w u v l b)
  (heg:∀ (args:Array Value) (w:World),(callFunc G args).run prog w=.ok (.enter G args) w)
  (hp:∀ (k:Nat) (x:aT),b[k]?=aC x->∀ W pv bv,w.grownBy W v.ownBlock->aU W pv x.aP.aF->bJ W bv x.aO->Calls prog G (#[.agg #[aA aB x.Id,aA aB x.aP.aG,aA aB x.aP.aI,aA aB x.aP.aH,aA aB x.aP.aJ,pv,bv]]++lb) W fun e w'=>e=.returned (.bool (p x))/\Ext W w') :
  Calls prog 79 #[v,.func (.func G) #[] lb] w fun e w'=>∃ v',e=.returned v'/\cP ex B w' u v' l (b.filter fun x=>!p x)/\w.grownBy w' v.ownBlock/\∀ r,v'.ownBlock=aC r->v.ownBlock=aC r:=by
 have h12:b.length<=12:=by obtain⟨g,cap,rfl,_,_,_,h12,_⟩:=h;exact h12
 by_cases hb:b=[]
 ·subst hb;obtain⟨a,cap,rfl,_⟩:=h.vform;cases a with
  | none=>
   refine(Cm w G lb cap).mono ?_;rintro e w' ⟨rfl,hw⟩;subst hw;exact⟨_,rfl,h,⟨rfl,rfl,rfl,aBq _,fun _ _ _=>rfl⟩,fun r hr=>hr⟩
  | some ad=>
   obtain⟨g,hg⟩:∃ g,ad=⟨g,0,aD⟩:=by
    obtain⟨g0,c0,_,_,_,_,_,_,_,_,_,_,⟨css,o1,_⟩,_⟩:=h;rcases o1.2 with ⟨hv,_⟩ | ⟨gb,cb,_,hv,_⟩
    ·cases hv
    ·cases hv;exact⟨gb,rfl⟩
   subst hg;refine(sG ex B w u g 0 cap l [] G lb p h rfl (by omega) heg hp).mono ?_;rintro e w' ⟨n',rfl,hn,ho,hg⟩;exact⟨_,rfl,ho,hg,fun r hr=>hr⟩
 ·obtain⟨g,cap,rfl,_,_⟩:=h.vsome (aD4.2 hb);refine(sG ex B w u g b.length cap l b G lb p h rfl h12 heg hp).mono ?_;rintro e w' ⟨n',rfl,hn,ho,hg⟩;exact⟨_,rfl,ho,hg,fun r hr=>hr⟩
def Ty (s:aV) (k:Nat):aV:=⟨s.aL,s.aM,s.aN,s.aK.eraseIdx k⟩
@[irreducible] noncomputable def mW (s:aV) (id:Int):aV × Int:=if(kK s id).2≠0 then(fA,(kK s id).2) else(Ty s (kK s id).1.toNat,0)
theorem Bk {s:aV} {id:Int} (h:(kK s id).2≠0):mW s id=(fA,(kK s id).2):=by unfold mW;rw[if_pos h]
theorem Fv {s:aV} {id:Int} {k:Nat} (h:kK s id=((k:Int),0)):mW s id=(Ty s k,0):=by unfold mW;rw[h];simp
theorem Rq {α:Type} {p:α->Bool} {xs:List α} (h:0<=fM p xs):∃ (k:Nat) (x:α),fM p xs=k/\xs[k]?=aC x/\p x=true:=by
 unfold fM at h ⊢;cases hf:xs.findIdx? p with
 | none=>rw[hf] at h;exact absurd h (by decide)
 | some i=>
  obtain⟨hi,hp,_⟩:=aBW.1 hf;exact⟨i,xs[i],rfl,aBu hi,hp⟩
theorem Bi (s:aV) (id:Int):(∃ e,kK s id=(0,e)/\e≠0)\/(aZ s=0/\∃ k:Nat,k < s.aK.length/\kK s id=((k:Int),0)):=by
 by_cases h0:aZ s=0
 ·by_cases h1:0<=fM (rL id) s.aK
  ·right;obtain⟨k,x,e,hk,_⟩:=Rq h1;exact⟨h0,k,(aBD.1 hk).1,by rw[Fg h0 h1,e]⟩
  ·left;exact⟨6,yB h0 h1,by decide⟩
 ·left;exact⟨_,Af h0,h0⟩
def eO (w:World) (x:aV × Int) (e:Ending) (w':World):Prop:=
 ∃ u v,e=.returned (.tuple #[.agg #[aA aB x.1.aL,aA aB x.1.aM,u,v],aA aB x.2])/\StS w.heap.size w' u v x.1/\Ext w w'
theorem eS {w w':World} {x:aV × Int} {s:aV} {m:Int} {u v:Value} (h:x=(s,m)) (h1:StS w.heap.size w' u v s) (hx:Ext w w'):eO w x (.returned (.tuple #[.agg #[aA aB s.aL,aA aB s.aM,u,v],aA aB m])) w':=by
 subst h;exact⟨u,v,rfl,h1,hx⟩
theorem lJ {w w':World} {x:aV × Int} {m:Int} (h:x=(fA,m)) (hx:Ext w w'):eO w x (.returned (.tuple #[.agg #[aA aB 0,aA aB 0,aE aD 0 0,aE aD 0 0],aA aB m])) w':=
 eS (s:=fA) h (.inr ⟨rfl,rfl,rfl,rfl⟩) hx
theorem Tn (w:World) (tv bv:Value) (s:aV) (id:Int) (hl:aX w tv s.aN) (hb:bD w bv s.aK) :
  Calls prog 39 #[.agg #[aA aB s.aL,aA aB s.aM,tv,bv],aA aB id] w (eO w (mW s id)):=by
 obtain⟨wb,hwb,HX,HSS,HZZ,hszb⟩:=eD w s tv bv;have HX0:=hid HX;have HS0:=hid HSS;have HZ0:=hid HZZ;have HWB:=hid hwb;have HSB:=hid hszb;clear HX HSS HZZ hwb hszb;have F:=hid (fun(W:World) (h:Ext w W)=>Lo W tv bv s id (hl.mono h) (hb.mono h));rcases Bi s id with ⟨er,hf,hne0⟩ | ⟨hs,k,hk,hf⟩
 ·have HR:=hid (Bk (s:=s) (id:=id) (by rw[hf];exact hne0));rw[hf] at F HR;have hne:=neT hne0;obtain⟨qa,qc,rfl,_,_,_⟩:=hl.form;obtain⟨ba,bc,rfl,_,_,_⟩:=hb.form;clear hl hb hf hne0;generalize s.aN.length=n at *;generalize s.aK.length=z at *;go_enter func39,ntmps39
  go_wp2_with fail
  rw[HWB.out];refine(F.out _ HX0.out).mono ?_;rintro e w2 ⟨rfl,hx2⟩;have HB:=hid (HZ0.out w2 hx2);have HX2:=hid ((HX0.out.tr hx2).sr (b:=w.heap.size+1) (by omega) #[aA aB 0,aA aB 0,aE aD 0 0,aE aD 0 0]);have HB2:=hid (setRow_heap w2 (w.heap.size+1) _ #[aA aB 0,aA aB 0,aE aD 0 0,aE aD 0 0] _ _ HB.out)
  go_wp2_with (refine wpList_store_row rfl 25 _ _ rfl (w.heap.size+1) #[aA aB 0,aA aB 0,aE aD 0 0,aE aD 0 0] rfl rfl 25 _ HB.out size25 rfl (by simp[aBz]) ?_)
  exact bodyPost_ret (bZ (u:=5) rfl _ _ (w.heap.size+1) 25 #[aA aB 0,aA aB 0,aE aD 0 0,aE aD 0 0] (0,0) _ rfl HB2.out underlying25 rfl size25) rfl (lJ HR.out HX2.out)
 ·have HR:=hid (Fv hf);rw[hf] at F;obtain⟨ok,h12,hbok⟩:=iI hs;have OW:=hid (fun(W:World) (h:Ext w W)=>Up W tv bv s (hl.mono h) (hb.mono h) ok h12 hbok);obtain⟨qa,qc,rfl,_,_,_⟩:=hl.form;obtain⟨ba,bc,rfl,_,_,_⟩:=hb.form;clear hl hb hf hs ok hbok;generalize hqn:s.aN.length=n at *;generalize hbz:s.aK.length=z at *;have HQN:=hid hqn;have HBZ:=hid hbz;clear hqn hbz;go_enter func39,ntmps39
  go_wp2_with fail
  rw[HWB.out];refine(F.out _ HX0.out).mono ?_;rintro e w2 ⟨rfl,hx2⟩;obtain⟨a0,a1,a2,a3⟩:=HS0.out w2 hx2;have HX2:=hid (HX0.out.tr hx2);have HXB2:=hid hx2;clear hx2
  go_wp2_with fail
  refine(OW.out _ HX2.out).mono ?_;rintro e w7 ⟨u7,v7,rfl,hO7,hx7⟩;clear a0 a1 a2 a3;obtain⟨gq,qcp,rfl,hgB,hgs⟩:=hO7.uform;obtain⟨gb,rc,rfl,hbB,hbs⟩:=hO7.vsome (by rw[HBZ.out];omega);rw[HBZ.out] at hO7 ⊢;rw[HQN.out] at hO7 ⊢;have HX7:=hid (HX2.out.tr hx7);have HXB7:=hid (HXB2.out.tr hx7);have HSZ:=hid (And.intro HXB2.out.size hx7.size);have HGQ:=hid (And.intro (And.intro hgB hgs) (And.intro hbB hbs));obtain⟨W8,hW8⟩:∃ W8,(w7.alloc (.cells #[aA aB 0,aA aB 0,aE aD 0 0,aE aD 0 0] 25)).setRow w7.heap.size #[aA aB s.aL,aA aB s.aM,aE (aC ⟨gq,0,aD⟩) n qcp,aE (aC ⟨gb,0,aD⟩) z rc]=W8:=⟨_,rfl⟩;have hx8:Ext w7 W8:=hW8▸((Ext.rf w7).al _).sr (b:=w7.heap.size) (aBq _) _;have hb8:W8.heap[w7.heap.size]?=aC (.cells #[aA aB s.aL,aA aB s.aM,aE (aC ⟨gq,0,aD⟩) n qcp,aE (aC ⟨gb,0,aD⟩) z rc] 25 (0,0)):=hW8▸setRow_heap (w7.alloc _) w7.heap.size _ _ _ _ (heap_alloc_new w7 _);have hO8:=(((hO7.under (r:=w.heap.size+1) (by have:=HXB2.out.size;have:=HSB.out;omega)).low (B2:=w.heap.size) HX2.out.size (fun r hr=>hr)).box (aBq _)).ext hx8;have DE:=hid (Gr [w7.heap.size,w.heap.size+1] w.heap.size W8 (aE (aC ⟨gq,0,aD⟩) n qcp) gb z rc k s.aN s.aK hO8 HBZ.out hk h12);have HW8:=hid hW8;have HX8:=hid (HX7.out.tr hx8);have HXB8:=hid (HXB7.out.tr hx8);have HB8:=hid hb8;have HS8:=hid (show w7.heap.size < W8.heap.size from (aBy.1 hb8).1);have e3:W8.cell? ⟨w7.heap.size,3,aD⟩=aC (aE (aC ⟨gb,0,aD⟩) z rc):=cell_of_row _ _ 3 _ _ _ hb8;have hwr:IntKind.i64.wrap ((k:Int)+1)=(k:Int)+1:=by rw[IntKind.wrap_i64];omega
  clear hx7 hx8 hb8 hW8 hO7 hO8 hgB hgs hbB hbs
  go_wp2_with (refine wpList_store_row rfl 25 _ _ rfl w7.heap.size #[aA aB s.aL,aA aB s.aM,aE (aC ⟨gq,0,aD⟩) n qcp,aE (aC ⟨gb,0,aD⟩) z rc] rfl rfl 25 _ (heap_alloc_new w7 _) size25 rfl (by simp[aBz]) ?_;rw[HW8.out])
  refine DE.out.mono ?_;rintro e W9 ⟨rfl,hO9,hg9⟩;have hgx:gb≠w7.heap.size:=by have:=HGQ.out;omega
  have hb9:W9.heap[w7.heap.size]?=aC (.cells #[aA aB s.aL,aA aB s.aM,aE (aC ⟨gq,0,aD⟩) n qcp,aE (aC ⟨gb,0,aD⟩) z rc] 25 (0,0)):=(hg9.block _ HS8.out (fun e=>hgx (Option.some.inj e).symm)).trans HB8.out;have f3:=frozen_of_row W9 w7.heap.size 3 _ _ hb9;have k3:W9.cell? ⟨w7.heap.size,3,aD⟩=aC (aE (aC ⟨gb,0,aD⟩) z rc):=cell_of_row _ _ 3 _ _ _ hb9;obtain⟨W10,hW10⟩:∃ W10,W9.setCell ⟨w7.heap.size,3,aD⟩ (aE (aC ⟨gb,0,aD⟩) (z - 1) rc)=W10:=⟨_,rfl⟩;have hb10:W10.heap[w7.heap.size]?=aC (.cells #[aA aB s.aL,aA aB s.aM,aE (aC ⟨gq,0,aD⟩) n qcp,aE (aC ⟨gb,0,aD⟩) (z - 1) rc] 25 (0,0)):=hW10▸heap_setCell_same W9 w7.heap.size 3 _ _ _ hb9;have hO10:=hW10▸hO9.kept (aY W9 w7.heap.size 3 (aE (aC ⟨gb,0,aD⟩) (z - 1) rc)) (aCw ..);have hX10:Ext w W10:=hW10▸(HX8.out.gr (v:=aE (aC ⟨gb,0,aD⟩) z rc) hg9 (fun k hk=>by have e2:=Option.some.inj hk;have:=HGQ.out;have:=HX2.out.size;simp at e2;omega)).se (b:=w7.heap.size) (o:=3) (by have:=HX7.out.size;omega) _;have hz10:W10.heap[w.heap.size+1]?=aC (.cells #[aA aB 0,aA aB 0,aE aD 0 0,aE aD 0 0] 25 (0,0)):=by
   have h1:=HZ0.out W8 HXB8.out;have hsz:=HSZ.out;have hsb:=HSB.out;have hgq:=HGQ.out;rw[<- hW10,heap_setCell_other W9 ⟨w7.heap.size,3,aD⟩ _ _ (by show w.heap.size+1≠w7.heap.size;omega),hg9.block _ (by have:=HS8.out;omega) (fun e=>by have e2:=Option.some.inj e;omega)];exact h1
  have d0:W9.cell? ⟨w7.heap.size,0,aD⟩=aC (aA aB s.aL):=cell_of_row _ _ 0 _ _ _ hb9;have d1:W9.cell? ⟨w7.heap.size,1,aD⟩=aC (aA aB s.aM):=cell_of_row _ _ 1 _ _ _ hb9;have d2:W9.cell? ⟨w7.heap.size,2,aD⟩=aC (aE (aC ⟨gq,0,aD⟩) n qcp):=cell_of_row _ _ 2 _ _ _ hb9;have HW10:=hid hW10;have HO11:=hid ((hO10.kept (bS W10 (w.heap.size+1) #[aA aB s.aL,aA aB s.aM,aE (aC ⟨gq,0,aD⟩) n qcp,aE (aC ⟨gb,0,aD⟩) (z - 1) rc]) (by simp)).low (ex2:=[]) (aBq _) (fun r hr=>by cases hr));have HX11:=hid (hX10.sr (b:=w.heap.size+1) (by omega) #[aA aB s.aL,aA aB s.aM,aE (aC ⟨gq,0,aD⟩) n qcp,aE (aC ⟨gb,0,aD⟩) (z - 1) rc]);have HR11:=hid (setRow_heap W10 (w.heap.size+1) _ #[aA aB s.aL,aA aB s.aM,aE (aC ⟨gq,0,aD⟩) n qcp,aE (aC ⟨gb,0,aD⟩) (z - 1) rc] _ _ hz10);have HZ10:=hid hz10;clear hO9 hg9 hb9 hW10 hb10 hO10 hX10 hz10 e3
  go_wp2_with (first
   | (rw[HW10.out];refine wpList_store_row rfl 25 _ _ rfl (w.heap.size+1) #[aA aB s.aL,aA aB s.aM,aE (aC ⟨gq,0,aD⟩) n qcp,aE (aC ⟨gb,0,aD⟩) (z - 1) rc] rfl rfl 25 _ HZ10.out size25 rfl (by simp[aBz]) ?_))
  exact bodyPost_ret (bZ (u:=5) rfl _ _ (w.heap.size+1) 25 #[aA aB s.aL,aA aB s.aM,aE (aC ⟨gq,0,aD⟩) n qcp,aE (aC ⟨gb,0,aD⟩) (z - 1) rc] (0,0) _ rfl HR11.out underlying25 rfl size25) rfl (eS (s:=Ty s k) HR.out (.inl HO11.out) HX11.out)
theorem sI (w:World) (tv bv:Value) (s:aV) (k:Nat) (hl:aX w tv s.aN) (hb:bD w bv s.aK) (ok:fB s.aN) (h12:s.aK.length<=12) (hok:∀ x∈s.aK,cB s.aN x) (hk:k < s.aK.length) :
  Calls prog 97 #[.agg #[aA aB s.aL,aA aB s.aM,tv,bv],aA aB (k:Int)] w fun e w'=>∃ u v,e=.returned (.agg #[aA aB s.aL,aA aB s.aM,u,v])/\cP [] w.heap.size w' u v s.aN (s.aK.eraseIdx k)/\Ext w w'/\∃ g cap,v=aE (aC ⟨g,0,aD⟩) (s.aK.eraseIdx k).length cap:=by
 obtain⟨wb,hwb,HX,HSS,HZZ,hszb⟩:=eD w s tv bv;have HX0:=hid HX;have HS0:=hid HSS;have HZ0:=hid HZZ;have HWB:=hid hwb;have HSB:=hid hszb;have OW:=hid (fun(W:World) (h:Ext w W)=>lU W tv bv s (hl.mono h) (hb.mono h) ok h12 hok);obtain⟨a0,a1,a2,a3⟩:=HSS wb (Ext.rf wb);clear HX HSS HZZ hwb hszb;obtain⟨qa,qc,rfl,_,_,_⟩:=hl.form;obtain⟨ba,bc,rfl,_,_,_⟩:=hb.form;clear hl hb ok hok;generalize hqn:s.aN.length=n at *;generalize hbz:s.aK.length=z at *;have HQN:=hid hqn;have HBZ:=hid hbz;clear hqn hbz;go_enter func97,ntmps97
 go_wp2_with fail
 rw[HWB.out];refine(OW.out _ HX0.out).mono ?_;rintro e w7 ⟨u7,v7,rfl,hO7,hx7⟩;clear a0 a1 a2 a3;obtain⟨gq,qcp,rfl,hgB,hgs⟩:=hO7.uform;obtain⟨gb,rc,rfl,hbB,hbs⟩:=hO7.vsome (by rw[HBZ.out];omega);rw[HBZ.out] at hO7 ⊢;rw[HQN.out] at hO7 ⊢;have HX7:=hid (HX0.out.tr hx7);have HGQ:=hid (And.intro (And.intro hgB hgs) (And.intro hbB hbs));obtain⟨W8,hW8⟩:∃ W8,(w7.alloc (.cells #[aA aB 0,aA aB 0,aE aD 0 0,aE aD 0 0] 25)).setRow w7.heap.size #[aA aB s.aL,aA aB s.aM,aE (aC ⟨gq,0,aD⟩) n qcp,aE (aC ⟨gb,0,aD⟩) z rc]=W8:=⟨_,rfl⟩;have hx8:Ext w7 W8:=hW8▸((Ext.rf w7).al _).sr (b:=w7.heap.size) (aBq _) _;have hb8:W8.heap[w7.heap.size]?=aC (.cells #[aA aB s.aL,aA aB s.aM,aE (aC ⟨gq,0,aD⟩) n qcp,aE (aC ⟨gb,0,aD⟩) z rc] 25 (0,0)):=hW8▸setRow_heap (w7.alloc _) w7.heap.size _ _ _ _ (heap_alloc_new w7 _);have hO8:=(((hO7.under (r:=w.heap.size+1) (by have:=HSB.out;omega)).low (B2:=w.heap.size) HX0.out.size (fun r hr=>hr)).box (aBq _)).ext (hx8.tr (Ext.rf W8).dr);obtain⟨cur,news,A,q1,q2,q3,q4,q5,q6,q7,q8,q9⟩:=hO8.cut HBZ.out hk h12;obtain⟨ib,ib1,ib2,ib3,ib4⟩:=info_parts info40;have hkc:k<=rc:=by omega
 have hkz:k<=z:=by omega
 have hb1:(0:Int)<=(k:Int)+1:=by omega
 have hb2:(k:Int)+1<=(z:Int):=by omega
 have hwr:IntKind.i64.wrap ((k:Int)+1)=(k:Int)+1:=by rw[IntKind.wrap_i64];omega
 have HQ1:=hid q1;have HQ5:=hid q5;have HQ6:=hid q6;have HQ7:=hid q7;have HQ8:=hid q8;have HQ9:=hid q9;have HW8:=hid hW8;have HX8:=hid (HX7.out.tr hx8);have HXB8:=hid (hx7.tr hx8);have HB8:=hid hb8;have HS8:=hid (show w7.heap.size < W8.heap.size from (aBy.1 hb8).1);have e3:W8.cell? ⟨w7.heap.size,3,aD⟩=aC (aE (aC ⟨gb,0,aD⟩) z rc):=cell_of_row _ _ 3 _ _ _ hb8;have hgx:gb≠w7.heap.size:=by omega
 clear hx7 hx8 hb8 hW8 hO7 hO8 hgB hgs hbB hbs q1 q5 q6 q7 q8 q9
 go_wp2_with (refine wpList_store_row rfl 25 _ _ rfl w7.heap.size #[aA aB s.aL,aA aB s.aM,aE (aC ⟨gq,0,aD⟩) n qcp,aE (aC ⟨gb,0,aD⟩) z rc] rfl rfl 25 _ (heap_alloc_new w7 _) size25 rfl (by simp[aBz]) ?_;rw[HW8.out])
 refine dF 11 (fun W=>W.cell? ⟨w7.heap.size,3,aD⟩=aC (aE (aC ⟨gb,0,aD⟩) z rc)) (by kernel_rfl) e3 (fun hHeld=>?_);refine tkT 0 ?_;refine tkT 1 ?_;refine tkT 2 ?_;refine tkT 3 ?_;refine tkT 4 ?_;refine tkT 5 ?_;refine tkT 6 ?_;refine tkT 7 ?_;refine tkT 8 ?_;refine dG (i:=9) (by kernel_rfl) rfl (fun K hK=>?_);simp only[zA,zB,zC];rw[if_pos (by rfl)];refine pR _ _ _ (by rfl) 40 ib underlying23 ib1 gb k rc cur HQ1.out (by rfl) A (z - (k+1)) (rc - (k+1)) news (by rfl) (by rw[HQ5.out,ib3]) HQ6.out HQ7.out (by omega) (by rw[HQ5.out,ib3,q2];omega) ?_;rw[ib3,HQ5.out];obtain⟨m,hm⟩:∃ m,k+(z - (k+1))=m:=⟨_,rfl⟩;rw[hm];have HM:=hid (show z - 1=m by omega);obtain⟨W9,hW9⟩:∃ W9,W8.drew.setRow gb (cur.toList.take (k*7)++news++cur.toList.drop (k*7+(z - (k+1))*7)).toArray=W9:=⟨_,rfl⟩;have hg9:W8.grownBy W9 (aC gb):=hW9▸bG (bI (Ext.rf W8).dr) HQ9.out;have hO9:=hW9▸HQ8.out;rw[HM.out] at hO9;rw[hW9];have hb9:W9.heap[w7.heap.size]?=aC (.cells #[aA aB s.aL,aA aB s.aM,aE (aC ⟨gq,0,aD⟩) n qcp,aE (aC ⟨gb,0,aD⟩) z rc] 25 (0,0)):=(hg9.block _ HS8.out (fun e=>hgx (Option.some.inj e).symm)).trans HB8.out;refine hK.out _ _ ?_ (fun hHeld=>?_)
 ·(exact cell_of_row _ _ 3 _ _ _ hb9)
 clear hK K;have f3:=frozen_of_row W9 w7.heap.size 3 _ _ hb9;refine tkT 10 ?_;refine eM (t:=11) (by kernel_rfl) rfl (by kernel_rfl) (fun K hK=>?_);simp only[zA,zB,zC];go_simp;refine hK.out _ _ ?_;clear hK K;obtain⟨W10,hW10⟩:∃ W10,W9.setCell ⟨w7.heap.size,3,aD⟩ (aE (aC ⟨gb,0,aD⟩) m rc)=W10:=⟨_,rfl⟩;rw[hW10];have hb10:W10.heap[w7.heap.size]?=aC (.cells #[aA aB s.aL,aA aB s.aM,aE (aC ⟨gq,0,aD⟩) n qcp,aE (aC ⟨gb,0,aD⟩) m rc] 25 (0,0)):=hW10▸heap_setCell_same W9 w7.heap.size 3 _ _ _ hb9;have hO10:=hW10▸hO9.kept (aY W9 w7.heap.size 3 (aE (aC ⟨gb,0,aD⟩) m rc)) (aCw ..);have hX10:Ext w W10:=hW10▸(HX8.out.gr (v:=aE (aC ⟨gb,0,aD⟩) z rc) hg9 (fun k hk=>by have e2:=Option.some.inj hk;have:=HGQ.out;have:=HX0.out.size;simp at e2;omega)).se (b:=w7.heap.size) (o:=3) (by have:=HX7.out.size;omega) _;have hz10:W10.heap[w.heap.size+1]?=aC (.cells #[aA aB 0,aA aB 0,aE aD 0 0,aE aD 0 0] 25 (0,0)):=by
  have h1:=HZ0.out W8 HXB8.out;have hsb:=HSB.out;have hgq:=HGQ.out;rw[<- hW10,heap_setCell_other W9 ⟨w7.heap.size,3,aD⟩ _ _ (by show w.heap.size+1≠w7.heap.size;omega),hg9.block _ (by have:=HS8.out;omega) (fun e=>by have e2:=Option.some.inj e;omega)];exact h1
 have d0:W10.cell? ⟨w7.heap.size,0,aD⟩=aC (aA aB s.aL):=cell_of_row _ _ 0 _ _ _ hb10;have d1:W10.cell? ⟨w7.heap.size,1,aD⟩=aC (aA aB s.aM):=cell_of_row _ _ 1 _ _ _ hb10;have d2:W10.cell? ⟨w7.heap.size,2,aD⟩=aC (aE (aC ⟨gq,0,aD⟩) n qcp):=cell_of_row _ _ 2 _ _ _ hb10;have d3:W10.cell? ⟨w7.heap.size,3,aD⟩=aC (aE (aC ⟨gb,0,aD⟩) m rc):=cell_of_row _ _ 3 _ _ _ hb10;have HO11:=hid ((hO10.kept (bS W10 (w.heap.size+1) #[aA aB s.aL,aA aB s.aM,aE (aC ⟨gq,0,aD⟩) n qcp,aE (aC ⟨gb,0,aD⟩) m rc]) (by simp)).low (ex2:=[]) (aBq _) (fun r hr=>by cases hr));have HX11:=hid (hX10.sr (b:=w.heap.size+1) (by omega) #[aA aB s.aL,aA aB s.aM,aE (aC ⟨gq,0,aD⟩) n qcp,aE (aC ⟨gb,0,aD⟩) m rc]);have HR11:=hid (setRow_heap W10 (w.heap.size+1) _ #[aA aB s.aL,aA aB s.aM,aE (aC ⟨gq,0,aD⟩) n qcp,aE (aC ⟨gb,0,aD⟩) m rc] _ _ hz10);have HZ10:=hid hz10;clear hO9 hg9 hb9 hW10 hb10 hO10 hX10 hz10 hW9 hm
 go_wp2_with (refine wpList_store_row rfl 25 _ _ rfl (w.heap.size+1) #[aA aB s.aL,aA aB s.aM,aE (aC ⟨gq,0,aD⟩) n qcp,aE (aC ⟨gb,0,aD⟩) m rc] rfl rfl 25 _ HZ10.out size25 rfl (by simp[aBz]) ?_)
 exact bodyPost_ret (results_cell_row rfl _ _ (w.heap.size+1) 25 #[aA aB s.aL,aA aB s.aM,aE (aC ⟨gq,0,aD⟩) n qcp,aE (aC ⟨gb,0,aD⟩) m rc] (0,0) _ rfl HR11.out underlying25 rfl size25) rfl ⟨_,_,rfl,HO11.out,HX11.out,gb,rc,by rw[List.length_eraseIdx_of_lt (by rw[HBZ.out];exact hk),HBZ.out,HM.out]⟩
theorem Mu (w:World) (tv bv:Value) (s:aV) (id:Int) (hl:aX w tv s.aN) (hb:bD w bv s.aK) :
  Calls prog 46 #[.agg #[aA aB s.aL,aA aB s.aM,tv,bv],aA aB id] w (eO w (mW s id)):=by
 obtain⟨wb,hwb,HX,HSS,HZZ,hszb⟩:=eD w s tv bv;have HX0:=hid HX;have HS0:=hid HSS;have HZ0:=hid HZZ;have HWB:=hid hwb;have HSB:=hid hszb;clear HX HSS HZZ hwb hszb;have F:=hid (fun(W:World) (h:Ext w W)=>Mp W tv bv s id (hl.mono h) (hb.mono h));rcases Bi s id with ⟨er,hf,hne0⟩ | ⟨hs,k,hk,hf⟩
 ·have HR:=hid (Bk (s:=s) (id:=id) (by rw[hf];exact hne0));rw[hf] at F HR;have hne:=neT hne0;obtain⟨qa,qc,rfl,_,_,_⟩:=hl.form;obtain⟨ba,bc,rfl,_,_,_⟩:=hb.form;clear hl hb hf hne0;generalize s.aN.length=n at *;generalize s.aK.length=z at *;go_enter func46,ntmps46
  go_wp2_with fail
  rw[HWB.out];refine(F.out _ HX0.out).mono ?_;rintro e w2 ⟨rfl,hx2⟩;have HB:=hid (HZ0.out w2 hx2);have HX2:=hid ((HX0.out.tr hx2).sr (b:=w.heap.size+1) (by omega) #[aA aB 0,aA aB 0,aE aD 0 0,aE aD 0 0]);have HB2:=hid (setRow_heap w2 (w.heap.size+1) _ #[aA aB 0,aA aB 0,aE aD 0 0,aE aD 0 0] _ _ HB.out)
  go_wp2_with (refine wpList_store_row rfl 25 _ _ rfl (w.heap.size+1) #[aA aB 0,aA aB 0,aE aD 0 0,aE aD 0 0] rfl rfl 25 _ HB.out size25 rfl (by simp[aBz]) ?_)
  exact bodyPost_ret (bZ (u:=5) rfl _ _ (w.heap.size+1) 25 #[aA aB 0,aA aB 0,aE aD 0 0,aE aD 0 0] (0,0) _ rfl HB2.out underlying25 rfl size25) rfl (lJ HR.out HX2.out)
 ·have HR:=hid (Fv hf);rw[hf] at F;obtain⟨ok,h12,hbok⟩:=iI hs;have WO:=hid (fun(W:World) (h:Ext w W)=>sI W tv bv s k (hl.mono h) (hb.mono h) ok h12 hbok hk);obtain⟨qa,qc,rfl,_,_,_⟩:=hl.form;obtain⟨ba,bc,rfl,_,_,_⟩:=hb.form;clear hl hb hf hs ok hbok;generalize hqn:s.aN.length=n at *;generalize hbz:s.aK.length=z at *;clear hqn hbz;go_enter func46,ntmps46
  go_wp2_with fail
  rw[HWB.out];refine(F.out _ HX0.out).mono ?_;rintro e w2 ⟨rfl,hx2⟩;obtain⟨a0,a1,a2,a3⟩:=HS0.out w2 hx2;have HX2:=hid (HX0.out.tr hx2);have HXB2:=hid hx2;clear hx2
  go_wp2_with fail
  refine(WO.out _ HX2.out).mono ?_;rintro e w7 ⟨u7,v7,rfl,hO7,hx7,_⟩;obtain⟨gq,qcp,rfl,hgB,hgs⟩:=hO7.uform;obtain⟨ra,rc,rfl,hrw⟩:=hO7.vform;have HB:=hid (HZ0.out w7 (HXB2.out.tr hx7));have HX7:=hid ((HX2.out.tr hx7).sr (b:=w.heap.size+1) (by omega) #[aA aB s.aL,aA aB s.aM,aE (aC ⟨gq,0,aD⟩) s.aN.length qcp,aE ra (s.aK.eraseIdx k).length rc]);have HB2:=hid (setRow_heap w7 (w.heap.size+1) _ #[aA aB s.aL,aA aB s.aM,aE (aC ⟨gq,0,aD⟩) s.aN.length qcp,aE ra (s.aK.eraseIdx k).length rc] _ _ HB.out);have HO8:=hid ((((hO7.under (r:=w.heap.size+1) (by have:=HSB.out;have:=HXB2.out.size;omega)).kept (bS w7 (w.heap.size+1) #[aA aB s.aL,aA aB s.aM,aE (aC ⟨gq,0,aD⟩) s.aN.length qcp,aE ra (s.aK.eraseIdx k).length rc]) (aCw ..)).low (ex2:=[]) (B2:=w.heap.size) HX2.out.size (fun r hr=>by cases hr)));clear hO7 hx7 hrw a0 a1 a2 a3;generalize (s.aK.eraseIdx k).length=zk at *;generalize s.aN.length=nq at *
  go_wp2_with (refine wpList_store_row rfl 25 _ _ rfl (w.heap.size+1) #[aA aB s.aL,aA aB s.aM,aE (aC ⟨gq,0,aD⟩) nq qcp,aE ra zk rc] rfl rfl 25 _ HB.out size25 rfl (by simp[aBz]) ?_)
  exact bodyPost_ret (bZ (u:=5) rfl _ _ (w.heap.size+1) 25 #[aA aB s.aL,aA aB s.aM,aE (aC ⟨gq,0,aD⟩) nq qcp,aE ra zk rc] (0,0) _ rfl HB2.out underlying25 rfl size25) rfl (eS (s:=Ty s k) HR.out (.inl HO8.out) HX7.out)
end Go.Proofs.YtdcndkojmflhnaaGreat
