import Derived.Test.YtdcndkojmflhnaaGreatVFind
import Derived.Test.YtdcndkojmflhnaaGreatVTree
import Derived.Test.YtdcndkojmflhnaaGreatVCore
import Derived.WalkSpells
import Derived.StillTactics
import Derived.Tactics2
import Derived.Deep.RegionHeld3
import Derived.Test.YtdcndkojmflhnaaGreatProg
import Derived.Deep.Slices
import Derived.ChangeSame
import Derived.SizedLaws
import Derived.Deep.Strs
import Derived.ChangeArms
import Derived.Deep.RegionHeldLaw
set_option linter.unusedVariables false
set_option linter.unusedSimpArgs false
set_option maxRecDepth 100000
set_option maxHeartbeats 8000000
namespace Go.Proofs.YtdcndkojmflhnaaGreat
open Tryz
open Go.RowKit
open List renaming getElem_toArray->zA,getElem_cons_zero->zB,getElem_cons_succ->zC,setIfInBounds_toArray->zD,set_cons_zero->zE,set_cons_succ->zF
open _root_.List renaming mem_cons_of_mem->aBl,mem_cons_self->aCw,length_cons->aBB,length_nil->aCa,length_map->aCC,length_range->aCD,mem_cons->aC8,not_mem_nil->aCj,map_append->aCE,map_singleton->aCF,mem_map->aCn,getElem?_eq_some_iff->aBD,mem_of_getElem?->aBJ,length_take->aCH,mem_singleton->aCB,getElem?_append_left->aCI,getElem?_append_right->aCJ,length_append->aBk,getElem?_map->aCL,take_of_length_le->aCM,mem_append->aBm,mem_range->aC3,getElem?_range->aCN,getElem?_eq_none->aBZ,drop_zero->aCO,drop_succ_cons->aCP,take_succ_cons->aCQ,take_zero->aCR,map_cons->aCu,map_nil->aCS,flatten_cons->aCT,mem_iff_getElem?->aCU,eq_nil_of_length_eq_zero->aBC
open Go.Value renaming int->aA,slice->aE
open Go.IntKind renaming i64->aB
open _root_.Option renaming none->aD,some->aC
open _root_.Nat renaming le_trans->aC4,lt_of_lt_of_le->aBA,mul_one->aCv,le_refl->aBq,zero_mul->aBR,lt_irrefl->aBj,zero_add->aBE,lt_trichotomy->aCK
open _root_.Int renaming eq_ofNat_of_zero_le->aBP,toNat_natCast->aBQ,add_zero->aCG
open Go.World renaming size_alloc->aCl,block_lt_of_cell?->aBx,ownsRow_nil->aBV
open _root_.Array renaming getElem?_eq_some_iff->aBy
attribute [local go_sem] Oper.semAt_some
def nE (g:Nat->Int):List Nat->Int
 | []=>0
 | k::ks=>ks.foldl (fun a k=>min a (g k)) (g k)
theorem Ef (g:Nat->Int) {ks:List Nat} (k:Nat) (h:ks≠[]):nE g (ks++[k])=min (nE g ks) (g k):=by
 cases ks with
 | nil=>exact absurd rfl h
 | cons j ks=>simp[nE,List.foldl_append]
theorem Jn {g:Nat->Int} {a b:Int}:∀ (ks:List Nat),(∀ k∈ks,a<=g k/\g k<=b)->ks≠[]->a<=nE g ks/\nE g ks<=b
 | [],_,h=>absurd rfl h
 | k::ks,hg,_=>by
  have key:∀ (ks:List Nat) (c:Int),(∀ k∈ks,a<=g k/\g k<=b)->a<=c/\c<=b->a<=ks.foldl (fun a k=>min a (g k)) c/\ks.foldl (fun a k=>min a (g k)) c<=b:=by
   intro ks
   induction ks with
   | nil=>intro c _ h;exact h
   | cons j ks ih=>
    intro c hk h;refine ih _ (fun i hi=>hk i (aBl _ hi)) ?_;have:=hk j (aCw ..);show a<=min c (g j)/\min c (g j)<=b;omega
  exact key ks _ (fun i hi=>hg i (aBl _ hi)) (hg k (aCw ..))
def Lu (G:Nat->Nat->Int) (ks:List Nat):Nat->Int:=fun t=>nE (fun k=>G k t) ks
def bV (l:List Queue) (b:List aT) (k:Nat):Nat->Int:=fun t=>sp (cp l k) t - bL l b k t
def gX (l:List Queue) (b:List aT) (q:Int):Nat->Int:=Lu (bV l b) (cR l q)
theorem yG {l:List Queue} (h:fB l) {k:Nat} (hk:k < l.length) (t:Nat):0<=sp (cp l k) t/\sp (cp l k) t<=50:=by
 have hc:=h.caps k hk;obtain⟨r,hr,e⟩:=Di (cp l k) t (fun e=>by have:=hc.1.1;rw[e] at this;exact this);rw[e];exact hc.2 r hr
theorem tE {l:List Queue} {b:List aT} (h:fB l) (hb:∀ x∈b,cB l x) (h12:b.length<=12) (k t:Nat) (hk:k < l.length):-1800<=bV l b k t/\bV l b k t<=50:=by
 have h1:=yG h hk t;have h2:=oK (l:=l) k t b hb;unfold bV;omega
theorem room1 (a b:Int) (w:World) (ha:-1000000000<=a) (ha':a<=1000000000) (hb:-1000000000<=b) (hb':b<=1000000000):Calls prog 130 #[aA aB a,aA aB b] w fun e w'=>e=.returned (aA aB (a - b))/\w'=w:=by
 go_enter func130,ntmps130
 go_wp2
 go_ret;exact⟨rfl,rfl⟩
theorem room2 (a b:Int) (w:World):Calls prog 131 #[aA aB a,aA aB b] w fun e w'=>e=.returned (aA aB (min a b))/\w'=w:=by
 by_cases h:b < a
 ·rw[show min a b=b by omega];go_enter func131,ntmps131
  go_wp2
  go_ret;exact⟨rfl,rfl⟩
 ·rw[show min a b=a by omega];go_enter func131,ntmps131
  go_wp2
  go_ret;exact⟨rfl,rfl⟩
theorem Mx (G:Nat) (heg:∀ (args:Array Value) (w:World),(callFunc G args).run prog w=.ok (.enter G args) w)
  (hof:∀ (a b:Int) (w:World),-1000000000<=a->a<=1000000000->-1000000000<=b->b<=1000000000->Calls prog G #[aA aB a,aA aB b] w fun e w'=>e=.returned (aA aB (a - b))/\w'=w)
  (w:World) (vf vg:Value) (l:List Queue) (b:List aT) (k:Nat) (hk:k < l.length) (ok:fB l) (hb:∀ x∈b,cB l x) (h12:b.length<=12) (hf:bC w vf (cp l k)) (hg:bC w vg (bN (bL l b k))) :
  Calls prog 122 #[vf,vg,.func (.func G) #[] #[]] w (nO w (bN (bV l b k))):=by
 have hc:=ok.caps k hk;have h:=yM w vf vg _ _ hf hg hc.1.1 (eE _) G (fun a b=>a - b) heg (fun a ha c hcm=>by
  have h1:=hc.2 a ha;unfold kE at h1;have h2:=oT (p:=fun m=>0<=m/\m<=1800) (fun t _=>by have:=oK (l:=l) k t b hb;omega) c hcm;exact⟨I64.of (by omega) (by omega),fun V=>hof _ _ V (by omega) (by omega) (by omega) (by omega)⟩)
 rw[wM (y:=bV l b k) (fun t ht=>by rw[fL ht];rfl)] at h;exact h
theorem aAc (w:World) (vf vg:Value) (x y:Nat->Int) (hf:bC w vf (bN x)) (hg:bC w vg (bN y)) (hx:∀ t,t < 48->-100000000<=x t/\x t<=100000000) (hy:∀ t,t < 48->-100000000<=y t/\y t<=100000000) :
  Calls prog 122 #[vf,vg,.func (.func 131) #[] #[]] w (nO w (bN fun t=>min (x t) (y t))):=by
 have h:=yM w vf vg _ _ hf hg (eE x) (eE y) 131 (fun a b=>min a b) (enters_of func131 (by kernel_rfl) rfl) (fun a ha b hb=>by
  have h1:=oT (p:=fun m=>-100000000<=m/\m<=100000000) hx a ha;have h2:=oT (p:=fun m=>-100000000<=m/\m<=100000000) hy b hb;exact⟨I64.of (by omega) (by omega),fun V=>room2 _ _ V⟩)
 rw[wM (y:=fun t=>min (x t) (y t)) (fun t ht=>by rw[fL ht,fL ht])] at h;exact h
def aAz (bs:List Nat) (W:World) (v:Value) (G:Nat->Nat->Int) (pre:List Nat):Prop:=
 (pre=[]/\v=aE aD 0 0)\/(pre≠[]/\bC W v (bN (Lu G pre))/\bU bs v)
structure kD (w w1:World) (BT BO Bq top:Nat) (tv:Value) (G:Nat->Nat->Int) (pre:List Nat) (W:World):Prop where
 boxt:Boxed W BT 162 tv
 boxo:∃ v,Boxed W BO 29 v/\aAz [BO,Bq] W v G pre
 ext:Ext w1 W
 hi:top<=W.heap.size
structure Cw (w1:World) (BT BO Bq top:Nat):Prop where
 t:w1.heap.size<=BT/\BT < top/\BT≠Bq/\BT≠BO
 o:w1.heap.size<=BO/\BO < top/\BO≠Bq
 q:w1.heap.size<=Bq/\Bq < top
section
variable {w w1:World} {BT BO Bq top:Nat} {tv:Value} {G:Nat->Nat->Int} {pre:List Nat} {W W':World}
theorem aAz.grown {bs:List Nat} {v:Value} {row:Option Nat} (h:aAz bs W v G pre) (hg:W.grownBy W' row) (hr:∀ r,row=aC r->r∈bs):aAz bs W' v G pre:=by
 rcases h with h | ⟨h1,h2,h3⟩
 ·exact .inl h
 ·exact .inr ⟨h1,eI h2 h3 hg hr,h3⟩
theorem kD.grown {row:Option Nat} (h:kD w w1 BT BO Bq top tv G pre W) (hl:Cw w1 BT BO Bq top) (hg:W.grownBy W' row) (hr:∀ r,row=aC r->r=Bq):kD w w1 BT BO Bq top tv G pre W':=by
 obtain⟨v,hv,ho⟩:=h.boxo;exact⟨h.boxt.kept hg (fun e=>hl.t.2.2.1 (hr _ e.symm)),⟨v,hv.kept hg (fun e=>hl.o.2.2 (hr _ e.symm)),ho.grown hg (fun r e=>by rw[hr r e];simp)⟩,
  Below.grown h.ext hg h.ext.size (fun k e=>by rw[hr k e];exact hl.q.1),aC4 h.hi hg.size⟩
theorem kD.ownFrom {β:Type} (hl:Cw w1 BT BO Bq top) (G:Nat->Nat->Int) (f:β->List Nat):OwnFrom top (fun s W=>kD w w1 BT BO Bq top tv G (f s) W):=fun s W W' row h hg hr=>by
 obtain⟨v,hv,ho⟩:=h.boxo;refine⟨h.boxt.kept hg (fun e=>by have:=(hr _ e.symm).1;have:=hl.t.2.1;omega),⟨v,hv.kept hg (fun e=>by have:=(hr _ e.symm).1;have:=hl.o.2.1;omega),?_⟩,
  Below.grown h.ext hg h.ext.size (fun k e=>by have:=(hr k e).1;have:=hl.q;omega),aC4 h.hi hg.size⟩
 rcases ho with ho | ⟨h1,h2,h3⟩
 ·exact .inl ho
 ·exact .inr ⟨h1,xE h2 (fU _) hg (fun r e=>(hr r e).2),h3⟩
theorem kD.mono (h:kD w w1 BT BO Bq top tv G pre W) (hx:Ext W W'):kD w w1 BT BO Bq top tv G pre W':=by
 obtain⟨v,hv,ho⟩:=h.boxo;refine⟨(hx.block BT h.boxt.lt).trans h.boxt,⟨v,(hx.block BO hv.lt).trans hv,?_⟩,h.ext.tr hx,aC4 h.hi hx.size⟩;rcases ho with ho | ⟨h1,h2,h3⟩
 ·exact .inl ho
 ·exact .inr ⟨h1,h2.mono hx,h3⟩
theorem kD.step (h:kD w w1 BT BO Bq top tv G pre W) (hl:Cw w1 BT BO Bq top) {V:World} (hx:Ext W V) {v:Value} {k:Nat} (hv:bC V v (bN (Lu G (pre++[k])))) (hf:∀ a n c,v=aE (aC a) n c->top<=a.block) :
  kD w w1 BT BO Bq top tv G (pre++[k]) (V.setCell ⟨BO,0,aD⟩ v):=by
 have hg:=aY V BO 0 v;have ha:bU [BO,Bq] v:=by
  obtain⟨b,off,cap,rfl,_⟩:=cX hv (fU _);have:=hf _ _ _ rfl;have h1:=hl.o;have h2:=hl.q;exact gK (fun hm=>by simp at hm;rcases hm with rfl | rfl <;> simp at this <;> omega)
 obtain⟨u,hu,_⟩:=h.boxo;have hu1:Boxed V BO 29 u:=(hx.block BO hu.lt).trans hu;have ht1:Boxed V BT 162 tv:=(hx.block BT h.boxt.lt).trans h.boxt;exact⟨ht1.kept hg (fun e=>hl.t.2.2.2 (by have:=Option.some.inj e;exact this)),⟨v,hu1.set v,.inr ⟨by simp,eI hv ha hg (fun r e=>by cases e;simp),ha⟩⟩,
  (h.ext.tr hx).se hl.o.1 _,aC4 (aC4 h.hi hx.size) hg.size⟩
end
attribute [local go_sem] Oper.semAt_some
theorem Gf (w:World) (v bv:Value) (l:List Queue) (b:List aT) (q:Int) (hl:aX w v l) (hb:bD w bv b) (ok:fB l) (hok:∀ x∈b,cB l x) (hb12:b.length<=12) (hq0:0<=q) (hq1:q < l.length) :
  Calls prog 74 #[v,bv,aA aB q] w (Cx w (bN (gX l b q))):=by
 have TK:=hid (fun(W:World) (hx:Ext w W)=>Kl W v bv l b (hl.mono hx) (hb.mono hx) ok.pars ok.n5 hok hb12 ok.n1);obtain⟨qb,qo,qc,rfl,hqc,hqc9,hqb,hqE⟩:=jG hl ok.n1;obtain⟨ba,bc,rfl,_,_,_,_⟩:=jD hb;have HQE:=hid hqE;have OK:=hid ok;have HOK:=hid hok;have h5:=ok.n5;have HU:=hid (fun(W:World) (hx:Ext w W)=>Dc W qb qo qc l q ok.pars (by omega) hq1 ok.n5 (aBA hqb hx.size) (fun k x hk=>dS.mono w W qb _ x hx (hqE k x hk)));have HL5:=hid (mM ok.pars hq1 ok.n5);have HB12:=hid hb12;have HLN:=hid (show cR l q≠[] from by
  obtain⟨k,rfl⟩:=aBP hq0;rw[gT ok.pars (by omega)];simp)
 clear hl hb ok hok hqE hb12;generalize hnn:l.length=n at *;have Hn:=hid hnn;clear hnn;generalize hzz:b.length=z at *;have Hz:=hid hzz;clear hzz;refine(callsIn_wide (n:=3)).1 ?_;refine callsIn_of_wp_marks func74 rfl trivial ?_ rfl;simp only[ntmps74,List.size_toArray,aBB,aCa,Nat.reduceAdd,Nat.reduceSub,Array.replicate_succ,Array.replicate_zero,List.push_toArray,List.append_toArray,List.nil_append,List.cons_append];have HA0:=hid ((Ext.rf w).al (.cells #[aE (aC ⟨qb,qo,aD⟩) n qc] 22));have HBL:=hid (Boxed.new w 22 (aE (aC ⟨qb,qo,aD⟩) n qc))
 gi_wp2
 refine⟨trivial,(callsIn_wide.2 (TK.out _ HA0.out)).mono ?_⟩;rintro e w1 ⟨tv,rfl,htv,hx1⟩;have HX01:=hid (HA0.out.tr hx1);have HBL1:=hid (show Boxed w1 w.heap.size 22 (aE (aC ⟨qb,qo,aD⟩) n qc) from (hx1.block _ HBL.out.lt).trans HBL.out);obtain⟨tb,toff,tc,rfl,htl,htc,_,htb,htE⟩:∃ tb toff tc,tv=aE (aC ⟨tb,toff,aD⟩) n tc/\n<=tc/\tc<=9223372036854775807/\n<=17592186044416/\tb < w1.heap.size/\∀ k,k < n->Gq w1 tb (toff+k) (bN (bL l b k)):=by
  rcases htv with ⟨e,_⟩ | ⟨tb,toff,tc,rfl,q1,q2,q3,⟨q4,_⟩,q5⟩
  ·have:=congrArg List.length e;have:=HLN.out;simp at *;omega
  ·rw[aCC,aCD] at q1 q3;refine⟨tb,toff,tc,by simp,q1,q2,q3,q4,fun k hk=>?_⟩;have:=q5 k (bN (bL l b k)) (by simp[hk])
   rwa [aCv] at this
 have HTE:=hid htE;clear htv htE hx1;have HBT:=hid (Boxed.new w1 162 (aE (aC ⟨tb,toff,aD⟩) n tc));have HBO:=hid (Boxed.new (w1.alloc (.cells #[aE (aC ⟨tb,toff,aD⟩) n tc] 162)) 29 (aE aD 0 0));have HSZ:=hid (show ((w1.alloc (.cells #[aE (aC ⟨tb,toff,aD⟩) n tc] 162)).alloc (.cells #[aE aD 0 0] 29)).heap.size=w1.heap.size+1+1 from by simp only[aCl]);have Hx3:=hid (((Ext.rf w1).al (.cells #[aE (aC ⟨tb,toff,aD⟩) n tc] 162)).al (.cells #[aE aD 0 0] 29));have Hx23:=hid ((Ext.rf (w1.alloc (.cells #[aE (aC ⟨tb,toff,aD⟩) n tc] 162))).al (.cells #[aE aD 0 0] 29));have hbl3:=(Hx3.out.block _ HBL1.out.lt).trans HBL1.out;have hcl3:=(show Boxed _ w.heap.size 22 _ from hbl3).cell
 gi_wp2
 generalize hw4:((w1.alloc (.cells #[aE (aC ⟨tb,toff,aD⟩) n tc] 162)).alloc (.cells #[aE aD 0 0] 29))=w4 at *;refine⟨trivial,(callsIn_wide.2 (Sx _ _ _ _ _)).mono ?_⟩;rintro e w5 ⟨rfl,rfl⟩;have U:=HU.out w4 (HX01.out.tr Hx3.out);have hx6:=((Ext.rf w4).al (.cells #[aE (aC ⟨qb,qo,aD⟩) n qc] 22)).al (.cells #[aA aB q] 3);have hs6:((w4.alloc (.cells #[aE (aC ⟨qb,qo,aD⟩) n qc] 22)).alloc (.cells #[aA aB q] 3)).heap.size=w4.heap.size+1+1:=by simp only[aCl]
 have hBO4:Boxed w4 (w1.heap.size+1) 29 (aE aD 0 0):=by have:=HBO.out;rwa [aCl] at this
 have hBT4:Boxed w4 w1.heap.size 162 (aE (aC ⟨tb,toff,aD⟩) n tc):=(Hx23.out.block _ HBT.out.lt).trans HBT.out;have HLE:Cw w1 w1.heap.size (w1.heap.size+1) (w4.heap.size+1) ((w4.alloc (.cells #[aE (aC ⟨qb,qo,aD⟩) n qc] 22)).alloc (.cells #[aA aB q] 3)).heap.size:=by
  have e1:=HSZ.out;rw[hs6];exact⟨⟨by omega,by omega,by omega,by omega⟩,⟨by omega,by omega,by omega⟩,⟨by omega,by omega⟩⟩
 have HT0:=hid (show kD w w1 w1.heap.size (w1.heap.size+1) (w4.heap.size+1) ((w4.alloc (.cells #[aE (aC ⟨qb,qo,aD⟩) n qc] 22)).alloc (.cells #[aA aB q] 3)).heap.size (aE (aC ⟨tb,toff,aD⟩) n tc) (bV l b) [] ((w4.alloc (.cells #[aE (aC ⟨qb,qo,aD⟩) n qc] 22)).alloc (.cells #[aA aB q] 3)) from
  ⟨(hx6.block _ hBT4.lt).trans hBT4,⟨_,(hx6.block _ hBO4.lt).trans hBO4,.inl ⟨rfl,rfl⟩⟩,Hx3.out.tr hx6,aBq _⟩)
 clear hBO4 hBT4 hbl3 hcl3
 gi_wp2
 generalize ((w4.alloc (.cells #[aE (aC ⟨qb,qo,aD⟩) n qc] 22)).alloc (.cells #[aA aB q] 3))=w6 at *;refine vN (by omega) (gf:=167) (lb:=#[.pointer (aC ⟨w4.heap.size+1,0,aD⟩),.pointer (aC ⟨w4.heap.size,0,aD⟩)]) rfl (enters_of func167 (by kernel_rfl) rfl)
  (U.seq _ (by omega)) (fun h k=>h.tr k) (eH.put U.lt) (Below.refl _ _) (by omega) (fun _=>rfl)
  (fun(pre:List (Fin l.length)) W=>kD w w1 w1.heap.size (w1.heap.size+1) (w4.heap.size+1) w6.heap.size (aE (aC ⟨tb,toff,aD⟩) n tc) (bV l b) (pre.map (fun y=>y.1)) W)
  (fun _ _ _=>False) (kD.ownFrom HLE _ (fun pre:List (Fin l.length)=>pre.map (fun y=>y.1))) (fun _ _ _ _ _ hs _ _=>hs.elim) (fun s A B row hs hg hr=>by exact hs.grown HLE hg hr) (fun _ _ _ _ _ hs _ _=>hs.elim) HT0.out ?a1 ?assign ?body ?done ?stop
 case assign=>
  intro y i W K hK
  gi_wp2
  exact hK
 case body=>
  rintro y pre i W0 hI0 hlen;clear hs6;have hik:i.1 < n:=by have:=i.2;have:=Hn.out;omega
  refine wpIn_block ?_;refine wpIn_seq_k (fun K0 hK0=>?_);refine qC (S:=fun V=>Ext W0.drew V) K0 (by kernel_rfl) (by kernel_rfl) (fun a' w' h=>h) ?_;have HK0:=hid hK0;clear hK0;have HxW:=hid (Ext.dr (Ext.rf W0));have hI:=hI0.mono HxW.out;have HI:=hid hI;generalize W0.drew=W at *;have HS:=hid (Ext.rf W);have hx1W:=hI.ext;obtain⟨qx,hqx⟩:=bT (f:=l) (k:=i.1) i.2;obtain⟨_,_,_,_,cv,c3,hcv⟩:=dS.mono w W qb _ qx (HX01.out.tr hx1W) (HQE.out i.1 qx hqx);obtain⟨rv,c4,hrv⟩:=Gq.mono w1 W tb _ _ hx1W (HTE.out i.1 hik);have c1:=((show Boxed W w.heap.size 22 _ from (hx1W.block _ HBL1.out.lt).trans HBL1.out)).cell;have c2:=hI.boxt.cell;rw[<- (fC hqx).2.2] at hcv;have hne:cp l i.1≠[]:=fun e=>by have:=(OK.out.caps i.1 i.2).1.1;rw[e] at this;exact this
  have ZL:=hid (Mx 130 (enters_of func130 (by kernel_rfl) rfl) room1 W cv rv l b i.1 i.2 OK.out HOK.out (by rw[Hz.out];exact HB12.out) hcv hrv);obtain⟨cb,co,cc,rfl,_⟩:=cX hcv hne;obtain⟨rb,ro,rc,rfl,_⟩:=cX hrv (fU _);clear hI0 hI hcv hrv hne hqx;generalize (cp l i.1).length=cn at *;generalize (bN (bL l b i.1)).length=rn at *;have HPRE:=hid (show pre.length<=5 from by have:=HL5.out;omega);clear hlen;refine tkU 0 (v:=?_) (hQ:=fun _ _ _ h=>by cases h.1) HS.out ?_ ?_;rotate_left
  ·intro V hSw;have l1:=hSw.ce' c1;have l2:=hSw.ce' c2;have l3:=hSw.ce' c3;have l4:=hSw.ce' c4;go_simp;with_reducible rfl
  try simp only[Act.put,zD,zE,zF,zA,zC,zB]
  refine tkU 1 (v:=?_) (hQ:=fun _ _ _ h=>by cases h.1) HS.out ?_ ?_;rotate_left
  ·intro V hSw;have l1:=hSw.ce' c1;have l2:=hSw.ce' c2;have l3:=hSw.ce' c3;have l4:=hSw.ce' c4;go_simp;with_reducible rfl
  try simp only[Act.put,zD,zE,zF,zA,zC,zB]
  refine tkU 2 (v:=?_) (hQ:=fun _ _ _ h=>by cases h.1) HS.out ?_ ?_;rotate_left
  ·intro V hSw;have l1:=hSw.ce' c1;have l2:=hSw.ce' c2;have l3:=hSw.ce' c3;have l4:=hSw.ce' c4;go_simp;with_reducible rfl
  try simp only[Act.put,zD,zE,zF,zA,zC,zB]
  refine tkU 3 (v:=?_) (hQ:=fun _ _ _ h=>by cases h.1) HS.out ?_ ?_;rotate_left
  ·intro V hSw;have l1:=hSw.ce' c1;have l2:=hSw.ce' c2;have l3:=hSw.ce' c3;have l4:=hSw.ce' c4;go_simp;with_reducible rfl
  try simp only[Act.put,zD,zE,zF,zA,zC,zB]
  refine tkU 4 (v:=?_) (hQ:=fun _ _ _ h=>by cases h.1) HS.out ?_ ?_;rotate_left
  ·intro V hSw;have l1:=hSw.ce' c1;have l2:=hSw.ce' c2;have l3:=hSw.ce' c3;have l4:=hSw.ce' c4;go_simp;with_reducible rfl
  try simp only[Act.put,zD,zE,zF,zA,zC,zB]
  refine tkU 5 (v:=?_) (hQ:=fun _ _ _ h=>by cases h.1) HS.out ?_ ?_;rotate_left
  ·intro V hSw;have l1:=hSw.ce' c1;have l2:=hSw.ce' c2;have l3:=hSw.ce' c3;have l4:=hSw.ce' c4;go_simp;with_reducible rfl
  try simp only[Act.put,zD,zE,zF,zA,zC,zB]
  refine tkU 6 (v:=?_) (hQ:=fun _ _ _ h=>by cases h.1) HS.out ?_ ?_;rotate_left
  ·intro V hSw;have l1:=hSw.ce' c1;have l2:=hSw.ce' c2;have l3:=hSw.ce' c3;have l4:=hSw.ce' c4;go_simp;with_reducible rfl
  try simp only[Act.put,zD,zE,zF,zA,zC,zB]
  refine tkU 7 (v:=?_) (hQ:=fun _ _ _ h=>by cases h.1) HS.out ?_ ?_;rotate_left
  ·intro V hSw;have l1:=hSw.ce' c1;have l2:=hSw.ce' c2;have l3:=hSw.ce' c3;have l4:=hSw.ce' c4;go_simp;with_reducible rfl
  try simp only[Act.put,zD,zE,zF,zA,zC,zB]
  refine tkU 8 (v:=?_) (hQ:=fun _ _ _ h=>by cases h.1) HS.out ?_ ?_;rotate_left
  ·intro V hSw;have l1:=hSw.ce' c1;have l2:=hSw.ce' c2;have l3:=hSw.ce' c3;have l4:=hSw.ce' c4;go_simp;with_reducible rfl
  try simp only[Act.put,zD,zE,zF,zA,zC,zB]
  refine wpAnyH_ready (rs:=[9]) (by kernel_rfl) (by simp) ?_;refine AllReadyH.cons rfl (fun K hK=>?_) AllReadyH.nil;go_simp;refine ZL.out.mono ?_;rintro e W1 ⟨vz,rfl,hvz,hfr,hxz⟩;refine hK.out _ _ hxz (fun _=>?_);clear hK K
  try simp only[Act.put,zD,zE,zF,zA,zC,zB]
  obtain⟨zb,zo,zc,rfl,_⟩:=cX hvz (fU _);have HS1:=hid hxz;clear HS;refine wpAnyH_ready (rs:=[10]) (by kernel_rfl) (by simp) ?_;refine AllReadyH.cons rfl (fun K hK=>?_) AllReadyH.nil;go_simp;refine hK.out _ _ HS1.out (fun _=>?_);clear hK K
  try simp only[Act.put,zD,zE,zF,zA,zC,zB]
  refine wpAnyH_done (by kernel_rfl) ⟨rfl,HK0.out _ _ ?_⟩ _;clear HK0 K0;have hI1:=HI.out.mono HS1.out;have hzt:=aC4 HI.out.hi (hfr _ _ _ rfl);obtain⟨ov,hov,hO⟩:=hI1.boxo;have c8:=hov.cell;have f8:=hov.frozen;have HK1:=hid (And.intro (KeepsFrom.ext (B:=w6.heap.size) (HxW.out.tr HS1.out)) (eH.ext (bs:=[w4.heap.size,w4.heap.size+1,qb]) (HxW.out.tr HS1.out)));rcases hO with ⟨hp,rfl⟩ | ⟨hp,hrov,hap⟩
  ·have hST:=hid (hI1.step HLE (Ext.rf W1) (k:=i.1) (by rw[hp];exact hvz) (fun a n c e=>by cases e;exact hzt));clear hvz hfr hov hp hI1;generalize (bN (bV l b i.1)).length=zn at *;have hb1:Sem.run prog (binOp .eql 29 (aE aD 0 0) (aE aD 0 0)) W1=.ok (.bool true) W1:=by rfl
   gi_wp2
   refine⟨HK1.out.1.trans (KeepsFrom.sc _ _ _ _ _),HK1.out.2.tr (eH.grown (aY _ _ _ _) (fun r e=>by
      have e:=Option.some.inj e;have h2:=HX01.out.size;have h3:=HSZ.out;simp only[aC8,aCj,or_false];omega)),?_⟩
   show kD _ _ _ _ _ _ _ _ ((pre++[i]).map (fun y:Fin l.length=>y.1)) _;rw[aCE,aCF];exact hST.out
  ·have hin:∀ j∈pre.map (fun y:Fin l.length=>y.1),j < l.length:=fun j hj=>by
    obtain⟨y,_,rfl⟩:=aCn.1 hj;exact y.2
   have ZM:=hid (aAc W1 ov _ _ _ hrov hvz (fun t _=>by
    have:=Jn (g:=fun k=>bV l b k t) (a:=-1800) (b:=50) _ (fun j hj=>tE OK.out HOK.out (by rw[Hz.out];exact HB12.out) j t (hin j hj)) hp;unfold Lu;omega) (fun t _=>by have:=tE (t:=t) OK.out HOK.out (by rw[Hz.out];exact HB12.out) i.1 i.2;omega))
   obtain⟨ob,oo,oc,rfl,_⟩:=cX hrov (fU _);have HOV:=hid hov;have HP:=hid hp;have HI1:=hid hI1;clear hvz hfr hov hp hI1 hrov hap hin;generalize (bN (bV l b i.1)).length=zn at *;generalize (bN (Lu (bV l b) (pre.map (fun y:Fin l.length=>y.1)))).length=on at *;have hb1:Sem.run prog (binOp .eql 29 (aE (aC ⟨ob,oo,aD⟩) on oc) (aE aD 0 0)) W1=.ok (.bool false) W1:=by rfl
   gi_wp2
   refine⟨trivial,(CallsIn.inRound y (callsIn_wide.2 ZM.out)).mono ?_⟩;rintro e W2 ⟨vm,rfl,hvm,hfm,hx2⟩;have hST:=hid (HI1.out.step HLE hx2 (k:=i.1) (v:=vm) (by
    rw[show Lu (bV l b) (pre.map (fun y:Fin l.length=>y.1)++[i.1])=fun t=>min (Lu (bV l b) (pre.map (fun y:Fin l.length=>y.1)) t) (bV l b i.1 t) from funext fun t=>Ef _ _ HP.out];exact hvm) (fun a n c e=>aC4 (aC4 HI1.out.hi (aBq _)) (hfm a n c e)))
   obtain⟨mb,mo,mc,rfl,_⟩:=cX hvm (fU _);have hov2:Boxed W2 (w1.heap.size+1) 29 _:=(hx2.block _ HOV.out.lt).trans HOV.out;have c8':=hov2.cell;have f8':=hov2.frozen;have HK2:=hid (And.intro (HK1.out.1.trans (KeepsFrom.ext hx2)) (HK1.out.2.tr (eH.ext hx2)));clear hvm hfm hx2 hov2;generalize (bN fun t=>min (Lu (bV l b) (pre.map (fun y:Fin l.length=>y.1)) t) (bV l b i.1 t)).length=mn at *
   gi_wp2
   refine⟨HK2.out.1.trans (KeepsFrom.sc _ _ _ _ _),HK2.out.2.tr (eH.grown (aY _ _ _ _) (fun r e=>by
      have e:=Option.some.inj e;have h2:=HX01.out.size;have h3:=HSZ.out;simp only[aC8,aCj,or_false];omega)),?_⟩
   show kD _ _ _ _ _ _ _ _ ((pre++[i]).map (fun y:Fin l.length=>y.1)) _;rw[aCE,aCF];exact hST.out
 case done=>
  rintro D ys W hD hys hI hK;obtain⟨ov,hov,hO⟩:=hI.boxo;rw[hys] at hO;obtain⟨_,hrov,_⟩:=hO.resolve_left (fun h=>HLN.out h.1);obtain⟨ob,oo,oc,rfl,_⟩:=cX hrov (fU _);have c8:=hov.cell;have HR:=hid (xE hrov (fU _) (grownBy_putObj' W D (.deferred aD)) (fun r e=>by cases e;exact⟨_,hK,rfl⟩));have HEX:=hid ((HX01.out.tr hI.ext).trans (belowK_b (w:=w) (aBq _) W D _ (.deferred aD) (by have h1:=HX01.out.size;have h2:=HSZ.out;omega) hK rfl rfl));clear hys hI hov hO hrov;generalize (bN (Lu (bV l b) (cR l q))).length=rn at *
  gi_wp2
  refine⟨by simp,.inl ⟨_,_,rfl,run_takeDeferred hK,?_⟩⟩;refine⟨_,results_tmp rfl _ _ _,_,rfl,?_,HEX.out⟩;exact HR.out
 case stop=>
  rintro D c pre W _ _ h _;exact h.elim
theorem i64_small' {n:Int} (h1:-1000<=n) (h2:n<=1000):I64 n:=I64.of (by omega) (by omega)
def Ar:List Piece:=[⟨4,3⟩,⟨5,6⟩]
def lM (k:Int):aS:=⟨3,2,30,k,Ar⟩
theorem Nv (w:World) (k:Int):Calls prog 32 #[aA aB k] w fun e w'=>∃ pb:Nat,e=.returned (.agg #[aA aB 3,aA aB 2,aA aB 30,aA aB k,aE (aC ⟨pb,0,aD⟩) 2 2])/\aU w' (aE (aC ⟨pb,0,aD⟩) 2 2) Ar/\Ext w w':=by
 have hp:=hid (fun(W:World) (t:TypeId)=>qG (f:=Piece.Len) (g:=Piece.N) (w:=W) (b:=W.heap.size) (n:=2) (cs:=#[aA aB 4,aA aB 3,aA aB 5,aA aB 6]) (t:=t) Ar rfl rfl rfl (by decide) (fun r hr=>by simp[Ar] at hr;rcases hr with rfl | rfl <;> exact⟨i64_small' (by decide) (by decide),i64_small' (by decide) (by decide)⟩));go_enter func32,ntmps32
 go_wp2_with fail
 have hrow:∀ (o1 o2:Obj),((w.alloc o1).alloc o2).heap[w.heap.size]?=aC o1:=fun o1 o2=>by
  rw[((Ext.rf (w.alloc o1)).al o2).block w.heap.size (by simp)];exact heap_alloc_new w o1
 refine bodyPost_ret (v:=.agg #[aA aB 3,aA aB 2,aA aB 30,aA aB k,aE (aC ⟨w.heap.size+1,0,aD⟩) 2 2]) (results_cell_row rfl _ _ w.heap.size 28 _ (0,0) _ rfl (hrow _ _) underlying28 rfl (by kernel_rfl)) rfl ⟨_,rfl,?_,((Ext.rf w).al _).al _⟩;have:=hp.out (w.alloc (.cells #[aA aB 3,aA aB 2,aA aB 30,aA aB k,aE (aC ⟨w.heap.size+1,0,aD⟩) 2 2] 28)) 44;rw[aCl] at this;exact this
def aAH:List aT:=[⟨1,lM 1,[⟨0,8⟩,⟨1,10⟩]⟩,⟨4,⟨2,0,48,2,[⟨6,1⟩]⟩,[⟨0,9⟩]⟩]
structure wS (W:World) (B p1 b1 p2 b2:Nat):Prop where
 row:gF 40 W B [aA aB 1,aA aB 3,aA aB 2,aA aB 30,aA aB 1,aE (aC ⟨p1,0,aD⟩) 2 2,aE (aC ⟨b1,0,aD⟩) 2 2,aA aB 4,aA aB 2,aA aB 0,aA aB 48,aA aB 2,aE (aC ⟨p2,0,aD⟩) 1 1,aE (aC ⟨b2,0,aD⟩) 1 1]
 lt:p1 < B/\b1 < B/\p2 < B/\b2 < B
 p1:aU W (aE (aC ⟨p1,0,aD⟩) 2 2) Ar
 b1:bJ W (aE (aC ⟨b1,0,aD⟩) 2 2) [⟨0,8⟩,⟨1,10⟩]
 p2:aU W (aE (aC ⟨p2,0,aD⟩) 1 1) [⟨6,1⟩]
 b2:bJ W (aE (aC ⟨b2,0,aD⟩) 1 1) [⟨0,9⟩]
theorem wS.ext {W W':World} {B p1 b1 p2 b2:Nat} (h:wS W B p1 b1 p2 b2) (hx:Ext W W'):wS W' B p1 b1 p2 b2:=
 ⟨h.row.ext hx,h.lt,h.p1.mono hx,h.b1.mono hx,h.p2.mono hx,h.b2.mono hx⟩
theorem wS.v {W:World} {B p1 b1 p2 b2:Nat} (h:wS W B p1 b1 p2 b2):bD W (aE (aC ⟨B,0,aD⟩) 2 2) aAH:=by
 refine .inr ⟨B,0,2,rfl,by decide,by omega,by decide,mS.row h.row,fun k x hk=>?_⟩;rcases k with _ | _ | k
 ·cases hk;refine⟨[aA aB 1,aA aB 3,aA aB 2,aA aB 30,aA aB 1,aE (aC ⟨p1,0,aD⟩) 2 2,aE (aC ⟨b1,0,aD⟩) 2 2],⟨_,_,rfl,⟨_,rfl,h.p1,i64_small' (by decide) (by decide),i64_small' (by decide) (by decide),i64_small' (by decide) (by decide),i64_small' (by decide) (by decide)⟩,h.b1,i64_small' (by decide) (by decide)⟩,fun j u hj=>?_⟩;have hlt:=(aBD.1 hj).1;simp only[aBB,aCa] at hlt;refine h.row.cell ?_;rw[show 0+0*7+j=j by omega];rcases(by omega:j=0\/j=1\/j=2\/j=3\/j=4\/j=5\/j=6) with rfl | rfl | rfl | rfl | rfl | rfl | rfl <;> exact hj
 ·cases hk;refine⟨[aA aB 4,aA aB 2,aA aB 0,aA aB 48,aA aB 2,aE (aC ⟨p2,0,aD⟩) 1 1,aE (aC ⟨b2,0,aD⟩) 1 1],⟨_,_,rfl,⟨_,rfl,h.p2,i64_small' (by decide) (by decide),i64_small' (by decide) (by decide),i64_small' (by decide) (by decide),i64_small' (by decide) (by decide)⟩,h.b2,i64_small' (by decide) (by decide)⟩,fun j u hj=>?_⟩;have hlt:=(aBD.1 hj).1;simp only[aBB,aCa] at hlt;refine h.row.cell ?_;rw[show 0+(0+1)*7+j=7+j by omega];rcases(by omega:j=0\/j=1\/j=2\/j=3\/j=4\/j=5\/j=6) with rfl | rfl | rfl | rfl | rfl | rfl | rfl <;> exact hj
 ·simp[aAH] at hk
def aAG:List aT:=[⟨1,lM 1,[]⟩,⟨4,⟨2,0,48,2,[⟨6,1⟩]⟩,[⟨0,9⟩]⟩]
theorem Kv {α:Type} {f g:α->Int} {W:World} {p n c B o:Nat} {u:Value} {xs:List α} (h:SV 2 (E2 f g) W (aE (aC ⟨p,0,aD⟩) n c) xs) (hp:p≠B):SV 2 (E2 f g) (W.setCell ⟨B,o,aD⟩ u) (aE (aC ⟨p,0,aD⟩) n c) xs:=by
 have hg:W.grownBy (W.setCell ⟨B,o,aD⟩ u) (aC B):=⟨rfl,rfl,rfl,(KeepsWalks.setCell W _ u).size,fun k _ hk=>Below.heap_setCell _ _ _ k (fun e=>hk (by rw[e]))⟩;rcases h with h | ⟨b,off,cap,e,h1,h2,hl,h3,h4⟩
 ·exact .inl h
 ·refine .inr ⟨b,off,cap,e,h1,h2,hl,(by cases e;exact h3.same hg.size (hg.block p h3.1 (fun e=>hp (Option.some.inj e)))),fun k x hk=>?_⟩;cases e;have hc:∀ o,(W.setCell ⟨B,_,aD⟩ u).cell? ⟨p,o,aD⟩=W.cell? ⟨p,o,aD⟩:=fun o=>World.cell?_of_block (a:=⟨p,o,aD⟩) (hg.block p h3.1 (fun e=>hp (Option.some.inj e)));obtain⟨e1,e2,e3⟩:=h4 k x hk;exact⟨by rw[hc];exact e1,by rw[hc];exact e2,e3⟩
theorem wS.nil {W:World} {B p1 b1 p2 b2:Nat} (h:wS W B p1 b1 p2 b2):bD (W.setCell ⟨B,6,aD⟩ (aE aD 0 0)) (aE (aC ⟨B,0,aD⟩) 2 2) aAG:=by
 have hr:=h.row.set 6 (aE aD 0 0);have q1:aU (W.setCell ⟨B,6,aD⟩ (aE aD 0 0)) (aE (aC ⟨p1,0,aD⟩) 2 2) Ar:=Kv h.p1 (by have:=h.lt;omega);have q2:aU (W.setCell ⟨B,6,aD⟩ (aE aD 0 0)) (aE (aC ⟨p2,0,aD⟩) 1 1) [⟨6,1⟩]:=Kv h.p2 (by have:=h.lt;omega);have q3:bJ (W.setCell ⟨B,6,aD⟩ (aE aD 0 0)) (aE (aC ⟨b2,0,aD⟩) 1 1) [⟨0,9⟩]:=Kv h.b2 (by have:=h.lt;omega);refine .inr ⟨B,0,2,rfl,by decide,by omega,by decide,mS.row hr,fun k x hk=>?_⟩;rcases k with _ | _ | k
 ·cases hk;refine⟨[aA aB 1,aA aB 3,aA aB 2,aA aB 30,aA aB 1,aE (aC ⟨p1,0,aD⟩) 2 2,aE aD 0 0],⟨_,_,rfl,⟨_,rfl,q1,i64_small' (by decide) (by decide),i64_small' (by decide) (by decide),i64_small' (by decide) (by decide),i64_small' (by decide) (by decide)⟩,SV.nil,i64_small' (by decide) (by decide)⟩,fun j u hj=>?_⟩;have hlt:=(aBD.1 hj).1;simp only[aBB,aCa] at hlt;refine hr.cell ?_;rw[show 0+0*7+j=j by omega];rcases(by omega:j=0\/j=1\/j=2\/j=3\/j=4\/j=5\/j=6) with rfl | rfl | rfl | rfl | rfl | rfl | rfl <;> exact hj
 ·cases hk;refine⟨[aA aB 4,aA aB 2,aA aB 0,aA aB 48,aA aB 2,aE (aC ⟨p2,0,aD⟩) 1 1,aE (aC ⟨b2,0,aD⟩) 1 1],⟨_,_,rfl,⟨_,rfl,q2,i64_small' (by decide) (by decide),i64_small' (by decide) (by decide),i64_small' (by decide) (by decide),i64_small' (by decide) (by decide)⟩,q3,i64_small' (by decide) (by decide)⟩,fun j u hj=>?_⟩;have hlt:=(aBD.1 hj).1;simp only[aBB,aCa] at hlt;refine hr.cell ?_;rw[show 0+(0+1)*7+j=7+j by omega];rcases(by omega:j=0\/j=1\/j=2\/j=3\/j=4\/j=5\/j=6) with rfl | rfl | rfl | rfl | rfl | rfl | rfl <;> exact hj
 ·simp[aAG] at hk
theorem Lv {r:aS} {b:List bO} (hr:bX r) {k:Nat} (hk:k < b.length) (h:¬ vL r b k):dL r b=false:=by
 rw[Bool.eq_false_iff];exact fun h'=>h (((kU hr).1 h').1 k hk)
theorem Rf {r:aS} {b:List bO} (hr:bX r) (h:∀ k,k < b.length->vL r b k) (h2:r.aJ=2):dL r b=decide (b.length=1):=by
 by_cases hz:b.length=1
 ·rw[decide_eq_true hz];exact(kU hr).2 ⟨h,by rw[if_pos h2];exact hz⟩
 ·rw[decide_eq_false hz,Bool.eq_false_iff];exact fun h'=>hz (by have:=((kU hr).1 h').2;rw[if_pos h2] at this;exact this)
theorem Og {r:aS} {b:List bO} (hr:bX r) (h2:¬ r.aJ=2) (hz:b.length≠r.aF.length):dL r b=false:=by
 rw[Bool.eq_false_iff];exact fun h'=>hz (by have:=((kU hr).1 h').2;rw[if_neg h2] at this;exact this.1)
theorem Oh {r:aS} {b:List bO} (hr:bX r) (h2:¬ r.aJ=2) {k:Nat} (hk0:0 < k) (hk:k < b.length) (h:¬ oZ r b k):dL r b=false:=by
 rw[Bool.eq_false_iff];exact fun h'=>h (by have:=((kU hr).1 h').2;rw[if_neg h2] at this;exact this.2 k hk0 hk)
theorem Rg {r:aS} {b:List bO} (hr:bX r) (h:∀ k,k < b.length->vL r b k) (h2:¬ r.aJ=2) (hz:b.length=r.aF.length) (hl:∀ k,0 < k->k < b.length->oZ r b k):dL r b=true:=
 (kU hr).2 ⟨h,by rw[if_neg h2];exact⟨hz,hl⟩⟩
theorem Te (w:World) (pv bv:Value) (r:aS) (b:List bO) (hr:bX r) (hv:aU w pv r.aF) (hb:bJ w bv b) :
  Calls prog 124 #[.agg #[aA aB r.aG,aA aB r.aI,aA aB r.aH,aA aB r.aJ,pv],bv] w fun e w'=>e=.returned (.bool (dL r b))/\Ext w w':=by
 have S:=hid (fun(W:World) (h:Ext w W)=>rF W pv r (hv.mono h));rw[deT hr] at S;obtain⟨m1,m3⟩:=hr.many;obtain⟨s1,s2,s3⟩:=hr.range.1;have HPk:=hid hr.range.2;have HB:=hid (fun(k:Nat) (hk:k < b.length) (h:¬ vL r b k)=>Lv hr hk h);have HA:=hid (fun(h:∀ k,k < b.length->vL r b k) (h2:r.aJ=2)=>Rf hr h h2);have HM:=hid (fun(h2:¬ r.aJ=2) (hz:b.length≠r.aF.length)=>Og hr h2 hz);have HLL:=hid (fun(h2:¬ r.aJ=2) (k:Nat) (hk0:0 < k) (hk:k < b.length) (h:¬ oZ r b k)=>Oh hr h2 hk0 hk h);have HAll:=hid (fun(h:∀ k,k < b.length->vL r b k) (h2:¬ r.aJ=2) (hz:b.length=r.aF.length) (hl:∀ k,0 < k->k < b.length->oZ r b k)=>Rg hr h h2 hz hl);obtain⟨pb,po,pc,rfl,hpc,hpc9,hpb,hpE⟩:=eZ hv m1;obtain⟨ba,bc,rfl,hbc,hbc9,hbl,hbE⟩:=kM hb;have HPE:=hid hpE;have HBE:=hid hbE;have hk1:=hr.kind.1;have hk4:=hr.kind.2;clear hv hb hpE hbE hr;generalize hn:r.aF.length=n at *;have Hn:=hid hn;generalize hz:b.length=z at *;have Hz:=hid hz;clear hn hz;go_enter func124,ntmps124
 go_wp2_with fail
 refine(S.out _ ((Ext.rf w).al _)).mono ?_;rintro e w1 ⟨rfl,hx1⟩;have hal:=hid (((Ext.rf w).al _).tr hx1);have Hbox:=hid (fun(W:World) (h:Ext w1 W)=>bY (hx1.tr h));have hBw:w.heap.size < w1.heap.size:=by have:=hx1.size;simp at this;omega
 clear hx1
 go_wp2_with fail
 go_loopw [5] (fun c wr=>∃ k:Nat,c=aA aB k/\k<=z/\Hid (∀ j,j < k->vL r b j)/\Ext w1 wr) (fun c _=>z - (intOf c).toNat)
 case atStart=>exact⟨0,rfl,by omega,hid (fun j hj=>absurd hj (Nat.not_lt_zero _)),Ext.rf _⟩
 case round=>
  obtain⟨k,rfl,hk,Hall,hx⟩:=hrel;have hxw:=hal.out.tr hx;have hsz:=hx.size;have hBr:w.heap.size < wr.heap.size:=by omega
  have hpr:pb < wr.heap.size:=by omega
  obtain⟨z0,z1,z2,z3,z4⟩:=Hbox.out wr hx;by_cases hlt:k < z
  ·have hlt':(k:Int) < (z:Int):=by omega
   obtain⟨bb,bo,rfl,hbb,hbE⟩:=HBE.out (by omega);have HbE:=hid hbE;obtain⟨x,hxk⟩:=bT (f:=b) (k:=k) (by rw[Hz.out];exact hlt);obtain⟨e1,e2⟩:=iG hxk;obtain⟨c1,c2,_,_⟩:=E2.mono w wr bb _ x hxw (hbE k x hxk);have hbr:bb < wr.heap.size:=by omega
   clear hbE;by_cases t1:0<=x.Piece/\x.Piece<=(n:Int) - 1
   ·have W1:=hid (fun(W:World)=>cE x.Piece 0 ((n:Int) - 1) W t1.1 t1.2);obtain⟨t1a,t1b⟩:=t1;by_cases hk0:k=0
    ·subst hk0;rw[aBR,Nat.add_zero] at c1 c2;have hp0:True:=trivial;by_cases t3:x.At < r.aI
     ·have t3d:=deT t3;have Hr:=hid (HB.out 0 hlt (fun h=>by have:=h.from_;rw[e2] at this;omega));clear hxk e1 e2 Hall hp0
      go_wp2_with fail
      go_quiet ((with_reducible exact Calls.quiet_of_same (W1.out _)))
      go_wp2_with fail
      go_quiet (fail)
      go_wp2_with fail
      go_ret;exact⟨(congrArg (fun b=>Ending.returned (.bool b)) Hr.out).symm,by first | exact hal.out.tr (hx.dn _) | exact hal.out.tr ((hx.dn _).dn _)⟩
     ·have t3d:=deF t3;by_cases t4:r.aH < x.At
      ·have t4d:=deT t4;have Hr:=hid (HB.out 0 hlt (fun h=>by have:=h.until_;rw[e2] at this;omega));clear hxk e1 e2 Hall hp0
       go_wp2_with fail
       go_quiet ((with_reducible exact Calls.quiet_of_same (W1.out _)))
       go_wp2_with fail
       go_quiet (fail)
       go_wp2_with fail
       go_ret;exact⟨(congrArg (fun b=>Ending.returned (.bool b)) Hr.out).symm,by first | exact hal.out.tr (hx.dn _) | exact hal.out.tr ((hx.dn _).dn _)⟩
      ·have t4d:=deF t4;obtain⟨j,hpj⟩:∃ j:Nat,x.Piece=j:=⟨x.Piece.toNat,by omega⟩;have hjn:j < n:=by omega
       obtain⟨y,hyk⟩:=bT (f:=r.aF) (k:=j) (by rw[Hn.out];exact hjn);obtain⟨ey,_⟩:=dW hyk;obtain⟨d1,_,_,_⟩:=E2.mono w wr pb _ y hxw (HPE.out j y hyk);obtain⟨⟨l1,l2⟩,_⟩:=HPk.out y (aBJ hyk);rw[hpj] at c1 W1;have hwr:(IntKind.i64.wrap (r.aH - y.Len))=r.aH - y.Len:=by rw[IntKind.wrap_i64];omega
       by_cases t5:r.aH - y.Len < x.At
       ·have t5d:=deT t5;have Hr:=hid (HB.out 0 hlt (fun h=>by have:=h.fits;rw[e1,e2,hpj,aBQ,ey] at this;omega));clear hxk e1 e2 Hall hyk ey hpj hp0
        go_wp2_with fail
        go_quiet ((with_reducible exact Calls.quiet_of_same (W1.out _)))
        go_wp2_with fail
        go_quiet (fail)
        go_wp2_with fail
        go_ret;exact⟨(congrArg (fun b=>Ending.returned (.bool b)) Hr.out).symm,by first | exact hal.out.tr (hx.dn _) | exact hal.out.tr ((hx.dn _).dn _)⟩
       ·have t5d:=deF t5;have Hs:=hid (show ∀ i,i < 0+1->vL r b i from fun i hi=>by
         by_cases e:i=0
         ·subst e;exact⟨by rw[e1];omega,by rw[e1,Hn.out];omega,fun h=>absurd h (aBj _),by rw[e2];omega,by rw[e2];omega,by rw[e1,e2,hpj,aBQ,ey];omega⟩
         ·exact Hall.out i (by omega))
        clear hxk e1 e2 Hall hyk ey hpj hp0
        go_wp2_with fail
        go_quiet ((with_reducible exact Calls.quiet_of_same (W1.out _)))
        go_wp2_with fail
        go_quiet (fail)
        clear hwr
        go_wp2_with fail
        go_roundw
        case rel=>exact⟨0+1,by first | rfl | go_num,by omega,Hs,hx.dn _⟩
        case measure=>simp[intOf];omega
    ·have hkd:0 < k:=by omega
     have hkd2:=deT hkd;have hkp:(0:Int) < (k:Int):=by omega
     obtain⟨u,huk⟩:=bT (f:=b) (k:=k - 1) (by rw[Hz.out];omega);obtain⟨f1,f2⟩:=iG huk;obtain⟨g1,_,_,_⟩:=E2.mono w wr bb _ u hxw (HbE.out (k - 1) u huk);by_cases t2:x.Piece<=u.Piece
     ·have t2d:=deT t2;have hp0:True:=trivial;have Hr:=hid (HB.out k hlt (fun h=>by have:=h.up hkd;rw[e1,f1] at this;omega));clear hxk e1 e2 Hall huk f1 f2 hp0 hk0
      go_wp2_with fail
      go_quiet ((with_reducible exact Calls.quiet_of_same (W1.out _)))
      go_wp2_with fail
      go_ret;exact⟨(congrArg (fun b=>Ending.returned (.bool b)) Hr.out).symm,by first | exact hal.out.tr (hx.dn _) | exact hal.out.tr ((hx.dn _).dn _)⟩
     ·have t2d:=deF t2;have hp0:=hid (show bP b (k - 1) < bP b k from by rw[e1,f1];omega);clear huk f1 f2 hk0;by_cases t3:x.At < r.aI
      ·have t3d:=deT t3;have Hr:=hid (HB.out k hlt (fun h=>by have:=h.from_;rw[e2] at this;omega));clear hxk e1 e2 Hall hp0
       go_wp2_with fail
       go_quiet ((with_reducible exact Calls.quiet_of_same (W1.out _)))
       go_wp2_with fail
       go_quiet (fail)
       go_wp2_with fail
       go_ret;exact⟨(congrArg (fun b=>Ending.returned (.bool b)) Hr.out).symm,by first | exact hal.out.tr (hx.dn _) | exact hal.out.tr ((hx.dn _).dn _)⟩
      ·have t3d:=deF t3;by_cases t4:r.aH < x.At
       ·have t4d:=deT t4;have Hr:=hid (HB.out k hlt (fun h=>by have:=h.until_;rw[e2] at this;omega));clear hxk e1 e2 Hall hp0
        go_wp2_with fail
        go_quiet ((with_reducible exact Calls.quiet_of_same (W1.out _)))
        go_wp2_with fail
        go_quiet (fail)
        go_wp2_with fail
        go_ret;exact⟨(congrArg (fun b=>Ending.returned (.bool b)) Hr.out).symm,by first | exact hal.out.tr (hx.dn _) | exact hal.out.tr ((hx.dn _).dn _)⟩
       ·have t4d:=deF t4;obtain⟨j,hpj⟩:∃ j:Nat,x.Piece=j:=⟨x.Piece.toNat,by omega⟩;have hjn:j < n:=by omega
        obtain⟨y,hyk⟩:=bT (f:=r.aF) (k:=j) (by rw[Hn.out];exact hjn);obtain⟨ey,_⟩:=dW hyk;obtain⟨d1,_,_,_⟩:=E2.mono w wr pb _ y hxw (HPE.out j y hyk);obtain⟨⟨l1,l2⟩,_⟩:=HPk.out y (aBJ hyk);rw[hpj] at c1 W1;have t2j:=deF (show ¬ (j:Int)<=u.Piece by omega);have hwr:(IntKind.i64.wrap (r.aH - y.Len))=r.aH - y.Len:=by rw[IntKind.wrap_i64];omega
        by_cases t5:r.aH - y.Len < x.At
        ·have t5d:=deT t5;have Hr:=hid (HB.out k hlt (fun h=>by have:=h.fits;rw[e1,e2,hpj,aBQ,ey] at this;omega));clear hxk e1 e2 Hall hyk ey hpj hp0
         go_wp2_with fail
         go_quiet ((with_reducible exact Calls.quiet_of_same (W1.out _)))
         go_wp2_with fail
         go_quiet (fail)
         go_wp2_with fail
         go_ret;exact⟨(congrArg (fun b=>Ending.returned (.bool b)) Hr.out).symm,by first | exact hal.out.tr (hx.dn _) | exact hal.out.tr ((hx.dn _).dn _)⟩
        ·have t5d:=deF t5;have Hs:=hid (show ∀ i,i < k+1->vL r b i from fun i hi=>by
          by_cases e:i=k
          ·subst e;exact⟨by rw[e1];omega,by rw[e1,Hn.out];omega,fun _=>hp0.out,by rw[e2];omega,by rw[e2];omega,by rw[e1,e2,hpj,aBQ,ey];omega⟩
          ·exact Hall.out i (by omega))
         clear hxk e1 e2 Hall hyk ey hpj hp0
         go_wp2_with fail
         go_quiet ((with_reducible exact Calls.quiet_of_same (W1.out _)))
         go_wp2_with fail
         go_quiet (fail)
         clear hwr
         go_wp2_with fail
         go_roundw
         case rel=>exact⟨k+1,by first | rfl | go_num,by omega,Hs,hx.dn _⟩
         case measure=>simp[intOf];omega
   ·have W1:=hid (fun(W:World)=>dU x.Piece 0 ((n:Int) - 1) W t1);have Hr:=hid (HB.out k hlt (fun h=>by exact t1 ⟨by have:=h.low;rw[e1] at this;exact this,by have:=h.is;rw[e1,Hn.out] at this;exact this⟩));clear hxk e1 e2 Hall t1
    go_wp2_with fail
    go_quiet ((with_reducible exact Calls.quiet_of_same (W1.out _)))
    go_wp2_with fail
    go_ret;exact⟨(congrArg (fun b=>Ending.returned (.bool b)) Hr.out).symm,by first | exact hal.out.tr (hx.dn _) | exact hal.out.tr ((hx.dn _).dn _)⟩
  ·have hlt':¬ (k:Int) < (z:Int):=by omega
   obtain rfl:k=z:=by omega
   by_cases k2:r.aJ=2
   ·have k2t:=eqT k2;have HR:=hid (HA.out (fun j hj=>Hall.out j hj) k2);by_cases hz1:(k:Int)=1
    ·have hzt:=eqT hz1;have Hr:=hid (show dL r b=true from by rw[HR.out];exact decide_eq_true (by omega));clear Hall k2 hz1
     go_wp2_with fail
     go_ret;exact⟨(congrArg (fun b=>Ending.returned (.bool b)) Hr.out).symm,hal.out.tr hx⟩
    ·have hzt:=eqF hz1;have Hr:=hid (show dL r b=false from by rw[HR.out];exact decide_eq_false (by omega));clear Hall k2 hz1
     go_wp2_with fail
     go_ret;exact⟨(congrArg (fun b=>Ending.returned (.bool b)) Hr.out).symm,hal.out.tr hx⟩
   ·have k2f:=eqF k2;by_cases hz1:(k:Int)=(n:Int)
    ·have hzt:=neF hz1;have HLB:=hid (HLL.out k2);have HRU:=hid (show ∀ j,j < k->0<=bA b j/\bA b j<=48 from fun j hj=>by have h1:=(Hall.out j hj).from_;have h2:=(Hall.out j hj).until_;omega);have HR:=hid (fun(hl:∀ j,0 < j->j < k->oZ r b j)=>HAll.out (fun j hj=>Hall.out j hj) k2 (by omega) hl);have hkn:k=n:=by omega
     clear Hall hz1;subst hkn;obtain⟨bb,bo,rfl,hbb,hbE⟩:=HBE.out (by omega);have HbE:=hid hbE;clear hbE
     go_wp2_with fail
     clear z0 z1 z2 z3 z4
     go_loopw [6] (fun c wr2=>∃ i:Nat,c=aA aB i/\1<=i/\i<=k/\Hid (∀ j,0 < j->j < i->oZ r b j)/\Ext w1 wr2) (fun c _=>k - (intOf c).toNat)
     case atStart=>exact⟨1,rfl,by omega,by omega,hid (fun j h1 hj=>by omega),hx⟩
     case round=>
      obtain⟨i,rfl,hi1,hi,Hall,hx⟩:=hrel;have hxw:=hal.out.tr hx;have hsz:=hx.size;have hBr:w.heap.size < wr.heap.size:=by omega
      have hpr:pb < wr.heap.size:=by omega
      have hbr:bb < wr.heap.size:=by omega
      obtain⟨z0,z1,z2,z3,z4⟩:=Hbox.out wr hx;by_cases hlti:i < k
      ·have hlti':(i:Int) < (k:Int):=by omega
       obtain⟨x,hxk⟩:=bT (f:=b) (k:=i) (by rw[Hz.out];exact hlti);obtain⟨e1,e2⟩:=iG hxk;obtain⟨_,c2,_,_⟩:=E2.mono w wr bb _ x hxw (HbE.out i x hxk);obtain⟨u,huk⟩:=bT (f:=b) (k:=i - 1) (by rw[Hz.out];omega);obtain⟨f1,f2⟩:=iG huk;obtain⟨_,g2,gi,_⟩:=E2.mono w wr bb _ u hxw (HbE.out (i - 1) u huk);obtain⟨y,hyk⟩:=bT (f:=r.aF) (k:=i - 1) (by rw[Hn.out];omega);obtain⟨ey,_⟩:=dW hyk;obtain⟨d1,_,_,_⟩:=E2.mono w wr pb _ y hxw (HPE.out (i - 1) y hyk);obtain⟨⟨l1,l2⟩,_⟩:=HPk.out y (aBJ hyk);have hRu:=HRU.out (i - 1) (by omega);rw[f2] at hRu;obtain⟨hRu1,hRu2⟩:=hRu;have hwr:(IntKind.i64.wrap (u.At+y.Len))=u.At+y.Len:=by rw[IntKind.wrap_i64];omega
       by_cases k3:r.aJ=3
       ·have k3t:=eqT k3;have k4f:=eqF (show ¬ r.aJ=4 by omega);by_cases t6:x.At < u.At+y.Len
        ·have t6d:=deT t6;have Hr:=hid (HLB.out i (by omega) hlti (fun h=>by have:=h.order k3;rw[e2,f2,ey] at this;omega));clear hxk e1 e2 huk f1 f2 hyk ey Hall k3
         go_wp2_with fail
         go_quiet (fail)
         clear hwr
         go_wp2_with fail
         go_ret;exact⟨(congrArg (fun b=>Ending.returned (.bool b)) Hr.out).symm,hal.out.tr (hx.dn _)⟩
        ·have t6d:=deF t6;have Hs:=hid (show ∀ q,0 < q->q < i+1->oZ r b q from fun q h1 hq=>by
          by_cases e:q=i
          ·subst e;exact⟨fun _=>by rw[e2,f2,ey];omega,fun h4=>by omega⟩
          ·exact Hall.out q h1 (by omega))
         clear hxk e1 e2 huk f1 f2 hyk ey Hall k3
         go_wp2_with fail
         go_quiet (fail)
         clear hwr
         go_wp2_with fail
         go_roundw
         case rel=>exact⟨i+1,by go_num,by omega,by omega,Hs,hx.dn _⟩
         case measure=>simp[intOf];omega
       ·have k3f:=eqF k3;by_cases k4:r.aJ=4
        ·have k4t:=eqT k4;by_cases t7:x.At=u.At+y.Len
         ·have t7d:=neF t7;have Hs:=hid (show ∀ q,0 < q->q < i+1->oZ r b q from fun q h1 hq=>by
           by_cases e:q=i
           ·subst e;exact⟨fun h3=>absurd h3 k3,fun _=>by rw[e2,f2,ey];exact t7⟩
           ·exact Hall.out q h1 (by omega))
          clear hxk e1 e2 huk f1 f2 hyk ey Hall k3 k4 t7
          go_wp2_with fail
          go_quiet (fail)
          clear hwr
          go_wp2_with fail
          go_roundw
          case rel=>exact⟨i+1,by go_num,by omega,by omega,Hs,hx.dn _⟩
          case measure=>simp[intOf];omega
         ·have t7d:=neT t7;have Hr:=hid (HLB.out i (by omega) hlti (fun h=>t7 (by have:=h.tight k4;rw[e2,f2,ey] at this;exact this)));clear hxk e1 e2 huk f1 f2 hyk ey Hall k3 k4 t7
          go_wp2_with fail
          go_quiet (fail)
          clear hwr
          go_wp2_with fail
          go_ret;exact⟨(congrArg (fun b=>Ending.returned (.bool b)) Hr.out).symm,hal.out.tr (hx.dn _)⟩
        ·have k4f:=eqF k4;have Hs:=hid (show ∀ q,0 < q->q < i+1->oZ r b q from fun q h1 hq=>by
          by_cases e:q=i
          ·subst e;exact⟨fun h3=>absurd h3 k3,fun h4=>absurd h4 k4⟩
          ·exact Hall.out q h1 (by omega))
         clear hxk e1 e2 huk f1 f2 hyk ey Hall k3 k4
         go_wp2_with fail
         go_quiet (fail)
         clear hwr
         go_wp2_with fail
         go_roundw
         case rel=>exact⟨i+1,by go_num,by omega,by omega,Hs,hx.dn _⟩
         case measure=>simp[intOf];omega
      ·have hlti':¬ (i:Int) < (k:Int):=by omega
       obtain rfl:i=k:=by omega
       have Hr:=hid (HR.out (fun j h1 hj=>Hall.out j h1 hj));clear Hall
       go_wp2_with fail
       go_ret;exact⟨(congrArg (fun b=>Ending.returned (.bool b)) Hr.out).symm,hal.out.tr hx⟩
    ·have hzt:=neT hz1;have Hr:=hid (HM.out k2 (by omega));clear Hall k2 hz1
     go_wp2_with fail
     go_ret;exact⟨(congrArg (fun b=>Ending.returned (.bool b)) Hr.out).symm,hal.out.tr hx⟩
theorem Pu (w:World) (pv bv:Value) (r:aS) (b:List bO) (hv:aU w pv r.aF) (hb:bJ w bv b) :
  Calls prog 124 #[.agg #[aA aB r.aG,aA aB r.aI,aA aB r.aH,aA aB r.aJ,pv],bv] w fun e w'=>e=.returned (.bool (dL r b))/\Ext w w':=by
 by_cases hr:bX r
 ·exact Te w pv bv r b hr hv hb
 ·have S:=hid (fun(W:World) (h:Ext w W)=>rF W pv r (hv.mono h));rw[deF hr] at S;rw[As hr];obtain⟨pa,pc,rfl,hpc,_,hpl⟩:=hv.form;obtain⟨ba,bc,rfl,hbc,_,hbl⟩:=hb.form;clear hv hb hr;generalize r.aF.length=n at *;generalize b.length=z at *;go_enter func124,ntmps124
  go_wp2_with fail
  refine(S.out _ ((Ext.rf w).al _)).mono ?_;rintro e w1 ⟨rfl,hx1⟩
  go_wp2_with fail
  go_ret;exact⟨rfl,((Ext.rf w).al _).tr hx1⟩
def aAR:ByteArray:=⟨#[97,108,108]⟩
def Qp:ByteArray:=⟨#[110,111,114,116,104]⟩
def Qo:ByteArray:=⟨#[115,111,117,116,104]⟩
def Ya:ByteArray:=⟨#[98,97,114,110]⟩
def eJ (m p n:Int):List Queue:=[⟨aAR,-1,[⟨0,m⟩]⟩,⟨Qp,p,[⟨0,8⟩,⟨20,4⟩]⟩,⟨Qo,0,[⟨0,n⟩]⟩,⟨Ya,1,[⟨0,8⟩]⟩]
structure mY (w:World) (B:Nat) (m p n:Int):Prop where
 r0:w.heap[B]?=aC (.cells #[aA aB 0,aA aB m] 48 (0,0))
 r1:w.heap[B+1]?=aC (.cells #[aA aB 0,aA aB 8,aA aB 20,aA aB 4] 48 (0,0))
 r2:w.heap[B+2]?=aC (.cells #[aA aB 0,aA aB n] 48 (0,0))
 r3:w.heap[B+3]?=aC (.cells #[aA aB 0,aA aB 8] 48 (0,0))
 q:w.heap[B+4]?=aC (.cells #[.string aAR,aA aB (-1),aE (aC ⟨B,0,aD⟩) 1 1,.string Qp,aA aB p,aE (aC ⟨B+1,0,aD⟩) 2 2,.string Qo,aA aB 0,aE (aC ⟨B+2,0,aD⟩) 1 1,.string Ya,aA aB 1,aE (aC ⟨B+3,0,aD⟩) 1 1] 46 (0,0))
theorem mY.ext {w w':World} {B:Nat} {m p n:Int} (h:mY w B m p n) (hx:Ext w w'):mY w' B m p n:=by
 have k:∀ {j:Nat} {o:Obj},w.heap[j]?=aC o->w'.heap[j]?=aC o:=fun hj=>(hx.block _ (aBy.1 hj).1).trans hj;exact⟨k h.r0,k h.r1,k h.r2,k h.r3,k h.q⟩
theorem pE {w:World} {b:Nat} {cs:Array Value} {t:TypeId} {l:List Run} (h:w.heap[b]?=aC (.cells cs t (0,0))) (hcs:cs=(cF Run.At Run.N l).toArray) (hl:l.length<=48) (hi:∀ r∈l,I64 r.At/\I64 r.N) :
  bC w (aE (aC ⟨b,0,aD⟩) l.length l.length) l:=by
 subst hcs;refine .inr ⟨b,0,l.length,rfl,aBq _,by omega,by omega,mS.row h,fun k x hk=>?_⟩;obtain⟨h1,h2⟩:=mR Run.At Run.N l k x hk;have h3:=hi x (aBJ hk);refine⟨?_,?_,h3.1,h3.2⟩
 ·rw[cell_of_row w b _ _ _ _ h,aBE];simpa using h1
 ·rw[cell_of_row w b _ _ _ _ h,aBE];simpa using h2
theorem mY.v {w:World} {B:Nat} {m p n:Int} (h:mY w B m p n) (hm:I64 m) (hp:I64 p) (hn:I64 n):aX w (aE (aC ⟨B+4,0,aD⟩) 4 4) (eJ m p n):=by
 have i2:∀ {a b:Int},-100<=a->a<=100->-100<=b->b<=100->I64 a/\I64 b:=fun _ _ _ _=>⟨I64.of (by omega) (by omega),I64.of (by omega) (by omega)⟩;have i1:∀ {a:Int},-100<=a->a<=100->I64 a:=fun _ _=>I64.of (by omega) (by omega);have v0:=pE (l:=[⟨0,m⟩]) h.r0 rfl (by simp) (by intro r hr;simp at hr;subst hr;exact⟨i1 (a:=0) (by omega) (by omega),hm⟩);have v1:=pE (l:=[⟨0,8⟩,⟨20,4⟩]) h.r1 rfl (by decide) (qI (by decide +kernel));have v2:=pE (l:=[⟨0,n⟩]) h.r2 rfl (by simp) (by intro r hr;simp at hr;subst hr;exact⟨i1 (a:=0) (by omega) (by omega),hn⟩);have v3:=pE (l:=[⟨0,8⟩]) h.r3 rfl (by decide) (qI (by decide +kernel));have c:∀ j,w.cell? ⟨B+4,j,aD⟩=_:=fun j=>cell_of_row w (B+4) j _ _ _ h.q;refine .inr ⟨B+4,0,4,rfl,by simp[eJ],by omega,by simp[eJ],mS.row h.q,fun k x hk=>?_⟩
 match k with
 | 0=>simp[eJ] at hk;subst hk;exact⟨c _,(show aAR.size<=_ by decide),c _,i1 (a:=-1) (by omega) (by omega),_,c _,v0⟩
 | 1=>simp[eJ] at hk;subst hk;exact⟨c _,(show Qp.size<=_ by decide),c _,hp,_,c _,v1⟩
 | 2=>simp[eJ] at hk;subst hk;exact⟨c _,(show Qo.size<=_ by decide),c _,i1 (a:=0) (by omega) (by omega),_,c _,v2⟩
 | 3=>simp[eJ] at hk;subst hk;exact⟨c _,(show Ya.size<=_ by decide),c _,i1 (a:=1) (by omega) (by omega),_,c _,v3⟩
 | k+4=>simp[eJ] at hk
theorem mY.setP {w:World} {B:Nat} {m p n:Int} (h:mY w B m p n) (z:Int):mY (w.setCell ⟨B+4,4,aD⟩ (aA aB z)) B m z n:=by
 have k:∀ {j:Nat} {o:Obj},j≠B+4->w.heap[j]?=aC o->(w.setCell ⟨B+4,4,aD⟩ (aA aB z)).heap[j]?=aC o:=fun hj ho=>by rw[heap_setCell_other w ⟨B+4,4,aD⟩ _ _ hj];exact ho
 exact⟨k (by omega) h.r0,k (by omega) h.r1,k (by omega) h.r2,k (by omega) h.r3,by rw[heap_setCell_same w (B+4) 4 _ _ _ h.q];rfl⟩
theorem Zd (w:World) (o1 o2 o3 o4 o5:Obj) :
  ((((((w.alloc o1).alloc o2).alloc o3).alloc o4).alloc o5).heap[w.heap.size]?=aC o1)/\((((((w.alloc o1).alloc o2).alloc o3).alloc o4).alloc o5).heap[w.heap.size+1]?=aC o2)/\
  ((((((w.alloc o1).alloc o2).alloc o3).alloc o4).alloc o5).heap[w.heap.size+2]?=aC o3)/\((((((w.alloc o1).alloc o2).alloc o3).alloc o4).alloc o5).heap[w.heap.size+3]?=aC o4)/\((((((w.alloc o1).alloc o2).alloc o3).alloc o4).alloc o5).heap[w.heap.size+4]?=aC o5):=by
 obtain⟨h1,h2,h3,h4,hx⟩:=Ox w o1 o2 o3 o4;have h5:=heap_alloc_new ((((w.alloc o1).alloc o2).alloc o3).alloc o4) o5;have s:((((w.alloc o1).alloc o2).alloc o3).alloc o4).heap.size=w.heap.size+4:=by simp
 rw[s] at h5;have keep:∀ (W:World) (o b:Obj) (j:Nat),W.heap[j]?=aC b->(W.alloc o).heap[j]?=aC b:=fun W o b j h=>by
  rw[((Ext.rf W).al o).block j (aBy.1 h).1];exact h
 exact⟨keep _ _ _ _ h1,keep _ _ _ _ h2,keep _ _ _ _ h3,keep _ _ _ _ h4,h5⟩
theorem Kd (w:World):Calls prog 33 #[] w fun e w'=>e=.returned (aE (aC ⟨w.heap.size+4,0,aD⟩) 4 4)/\mY w' w.heap.size 10 0 6/\Ext w w':=by
 go_enter func33,ntmps33
 go_wp2_with fail
 go_ret;refine⟨rfl,?_,(((((Ext.rf w).al _).al _).al _).al _).al _⟩;obtain⟨h1,h2,h3,h4,h5⟩:=Zd w _ _ _ _ _;exact⟨h1,h2,h3,h4,h5⟩
theorem Rx:bM (eJ 10 0 6)=0:=by unfold bM;decide +kernel
instance (r:aS) (b:List bO) (k:Nat):Decidable (fX r b k):=
 decidable_of_iff ((0<=bP b k/\bP b k < r.aF.length)/\0<=bA b k/\bA b k<=48) ⟨fun h=>⟨h.1.1,h.1.2,h.2.1,h.2.2⟩,fun h=>⟨⟨h.low,h.is⟩,h.at0,h.at48⟩⟩
instance (r:aS) (b:List bO) (k:Nat):Decidable (lT r b k):=
 decidable_of_iff ((kJ b k < bP b k/\bP b k < r.aF.length)/\(r.aI<=bA b k/\bA b k<=r.aH)/\pL r (bP b k).toNat<=r.aH - bA b k/\(0 < k->r.aJ=3->pC r b k<=bA b k)/\(0 < k->r.aJ=4->bA b k=pC r b k))
  ⟨fun h=>⟨h.1.1,h.1.2,h.2.1.1,h.2.1.2,h.2.2.1,h.2.2.2.1,h.2.2.2.2⟩,fun h=>⟨⟨h.up,h.is⟩,⟨h.from_,h.until_⟩,h.fits,h.order,h.tight⟩⟩
def Eg (l:List Queue) (b:List aT):List (List Run):=(List.range l.length).map fun k=>bN (bL l b k)
theorem Gv (w:World) (v bv:Value) (l:List Queue) (b:List aT) (hl:aX w v l) (hb:bD w bv b) :
  Calls prog 70 #[v,bv] w fun e w'=>e=.returned (aA aB (eY l b))/\Ext w w':=by
 have T:=hid (vM w v l hl);have Q:=hid (fun(W:World) (pv:Value) (r:aS) (h:Ext w W) (hp:aU W pv r.aF)=>kA W v pv l r (hl.mono h) hp);obtain⟨ba,bc,rfl,hbc,hbc9,hbl,hbE⟩:=jD hb;obtain⟨qa,qc,rfl,_,_,_⟩:=hl.form;have HBE:=hid hbE;by_cases h0:bM l=0
 ·rw[h0] at T;by_cases h12:12 < b.length
  ·have hR:=hid (tU h0 h12);have h12':(12:Int) < (b.length:Int):=by omega
   clear hl hb hbE h0 h12 Q HBE;generalize l.length=ln at *;generalize b.length=bn at *;go_enter func70,ntmps70
   go_wp2_with fail
   refine T.out.mono ?_;rintro e w1 ⟨rfl,hx1⟩
   go_wp2_with fail
   go_ret;exact⟨bB hR.out.symm,hx1⟩
  ·have hR:=fV h0 h12;rw[hR];have h12':¬ (12:Int) < (b.length:Int):=by omega
   obtain⟨R,hRr⟩:∃ R,iY l b=R:=⟨_,rfl⟩;have HR:=hid hRr;rw[hRr];have H0:=hid (show iY l []=0 from rfl);clear hl hb hbE h0 h12 hR hRr;generalize l.length=ln at *;generalize hzz:b.length=z at *;have Hz:=hid hzz;clear hzz;go_enter func70,ntmps70
   go_wp2_with fail
   refine T.out.mono ?_;rintro e w1 ⟨rfl,hx1⟩
   go_wp2_with fail
   go_loopw [6] (fun c wr=>∃ k:Nat,c=aA aB k/\k<=z/\Hid (iY l (b.drop k)=R)/\Ext w wr) (fun c _=>z - (intOf c).toNat)
   case atStart=>exact⟨0,rfl,by omega,HR,hx1⟩
   case round=>
    obtain⟨k,rfl,hk,Hg,hx⟩:=hrel;by_cases hlt:k < z
    ·have hlt':(k:Int) < (z:Int):=by omega
     obtain⟨x,hxk⟩:=bT (f:=b) (k:=k) (by rw[Hz.out];exact hlt);obtain⟨bb,bo,rfl,hbb,hE⟩:=HBE.out (by omega);obtain⟨pv,bv,c0,c1,c2,c3,c4,c5,c6,hp,hbi⟩:=cZ (iR.mono w wr bb _ x hx (hE k x hxk));have hg:=Hg.out;rw[yD hxk] at hg;have Q1:=hid (Q.out wr pv x.aP hx hp);have M1:=hid (fun(W:World) (h:Ext wr W)=>Pu W pv bv x.aP x.aO (hp.mono h) (hbi.mono h));obtain⟨pa,pc,rfl,_,_,_⟩:=hp.form;obtain⟨bia,bic,rfl,_,_,_⟩:=hbi.form;by_cases hq:fQ l x.aP=0
     ·rw[hq] at Q1;have HG0:=hid hg;have HQ:=hid hq;clear hg hq hxk hE hp hbi Hg;generalize x.aP.aF.length=pn at *;generalize x.aO.length=bn at *
      go_wp2_with fail
      refine Q1.out.mono ?_;rintro e w2 ⟨rfl,hx2⟩;replace c1:=fun p:bF w2=>p.cell (hx2.ce' c1);replace c2:=fun p:bF w2=>p.cell (hx2.ce' c2);replace c3:=fun p:bF w2=>p.cell (hx2.ce' c3);replace c4:=fun p:bF w2=>p.cell (hx2.ce' c4);replace c5:=fun p:bF w2=>p.cell (hx2.ce' c5);replace c6:=fun p:bF w2=>p.cell (hx2.ce' c6);clear c0;have ML:=hid (fun p:bF w2=>fH p (M1.out p.v (hx2.tr p.h)));have HX2:=hid (hx.tr hx2);clear hx2 M1 Q1 Q T
      go_wp2_with fail
      refine cJ (by kernel_rfl) (by kernel_rfl) ?_
      repeat (go_big_quiet_step (with_reducible exact ML.out _))
      refine wpQuiet_nil ?_;rintro w' ⟨p,rfl⟩;have HX3:=hid (HX2.out.tr p.h);clear ML c1 c2 c3 c4 c5 c6;generalize p.v=W3 at *;cases hm:dL x.aP x.aO with
      | false=>
       have hg:=HG0.out;rw[pM HQ.out hm] at hg;have HG:=hid hg;clear hg
       go_wp2_with fail
       go_ret;exact⟨bB HG.out,HX3.out⟩
      | true=>
       have hg:=HG0.out;rw[uR HQ.out hm] at hg;have HG:=hid hg;clear hg
       go_wp2_with fail
       go_roundw
       case rel=>exact⟨k+1,by go_num,by omega,HG,HX3.out⟩
       case measure=>simp[intOf];omega
     ·rw[rN hq] at hg;have HG:=hid hg;have hne:=neT hq;clear hg hq hxk hE hp hbi Hg M1;generalize fQ l x.aP=re at *;generalize x.aP.aF.length=pn at *;generalize x.aO.length=bn at *
      go_wp2_with fail
      refine Q1.out.mono ?_;rintro e w2 ⟨rfl,hx2⟩
      go_wp2_with fail
      go_ret;exact⟨bB HG.out,hx.tr hx2⟩
    ·obtain rfl:k=z:=by omega
     have hlt':¬ (k:Int) < (k:Int):=by omega
     have hg:=Hg.out;rw[List.drop_of_length_le (by rw[Hz.out];exact aBq _),H0.out] at hg;have HG:=hid hg;clear hg
     go_wp2_with fail
     go_ret;exact⟨bB HG.out,hx⟩
 ·have hR:=hid (tT (b:=b) h0);have hne:=neT h0;clear hl hb hbE h0 Q HBE;generalize bM l=ce at *;generalize l.length=ln at *;generalize b.length=bn at *;go_enter func70,ntmps70
  go_wp2_with fail
  refine T.out.mono ?_;rintro e w1 ⟨rfl,hx1⟩
  go_wp2_with fail
  go_ret;exact⟨bB hR.out.symm,hx1⟩
theorem keep5 {w1 w':World} {a1 a2 a3 a4 a5:Addr} {a b c d e:Value} (hx:Ext w1 w') (b0:w1.cell? a1=aC a) (b1:w1.cell? a2=aC b) (b2:w1.cell? a3=aC c) (b3:w1.cell? a4=aC d) (b4:w1.cell? a5=aC e) :
  w'.cell? a1=aC a/\w'.cell? a2=aC b/\w'.cell? a3=aC c/\w'.cell? a4=aC d/\w'.cell? a5=aC e:=by
 have k:∀ {a:Addr} {v:Value},w1.cell? a=aC v->w'.cell? a=aC v:=fun{a v} h=>by
  rw[hx.cell (aBx w1 a h)];exact h
 exact⟨k b0,k b1,k b2,k b3,k b4⟩
theorem It (w:World) (pv bv:Value) (x:aT) (t:Nat) (hp:aU w pv x.aP.aF) (hb:bJ w bv x.aO) (hr:bX x.aP) (hin:∀ k,k < x.aO.length->fX x.aP x.aO k) (h3:x.aO.length<=3) :
  Calls prog 127 #[.agg #[aA aB x.Id,aA aB x.aP.aG,aA aB x.aP.aI,aA aB x.aP.aH,aA aB x.aP.aJ,pv,bv],aA aB (t:Int)] w fun e w'=>e=.returned (aA aB (dO x t))/\Ext w w':=by
 obtain⟨⟨q1,q2,q3⟩,q4⟩:=cQ hr;obtain⟨m1,m3⟩:=hr.many;have HT:=hid (pD hr hin);obtain⟨pb,po,pc,rfl,hpc,hpc9,hpb,hpE⟩:=eZ hp (by omega);have HPE:=hid hpE;have HQ:=hid q4;have HIN:=hid hin;obtain⟨ba,bc,rfl,hbc,hbc9,hbl,hbE⟩:=kM hb;have HBE:=hid hbE;have H0:=hid (show fT x 0 t=0 from rfl);have H1:=hid (show ∀ k,fT x (k+1) t=fT x k t+(if(bA x.aO k).toNat<=t/\t < (bA x.aO k).toNat+(pL x.aP (bP x.aO k).toNat).toNat then pN x.aP (bP x.aO k).toNat else 0) from fun _=>rfl);have hTT:dO x=fT x x.aO.length:=rfl;rw[hTT];clear hp hb hpE hin hr q4 hbE hTT;generalize hnn:x.aP.aF.length=n at *;have Hnn:=hid hnn;clear hnn;generalize hzz:x.aO.length=z at *;have Hz:=hid hzz;clear hzz;have HTK:=hid (fun k (hk:k<=z)=>HT.out k hk t);clear HT;go_enter func127,ntmps127
 go_wp2_with fail
 have hx0:=(Ext.rf w).al (.cells #[aA aB x.Id,aA aB x.aP.aG,aA aB x.aP.aI,aA aB x.aP.aH,aA aB x.aP.aJ,aE (aC ⟨pb,po,aD⟩) n pc,aE ba z bc] 40);have hR0:=fun W=>qW (W:=W) (w:=w) (a:=aA aB x.Id) (b:=aA aB x.aP.aG) (c:=aA aB x.aP.aI) (d:=aA aB x.aP.aH) (e:=aA aB x.aP.aJ) (f:=aE (aC ⟨pb,po,aD⟩) n pc) (g:=aE ba z bc) (t:=40);generalize w.alloc (.cells #[aA aB x.Id,aA aB x.aP.aG,aA aB x.aP.aI,aA aB x.aP.aH,aA aB x.aP.aJ,aE (aC ⟨pb,po,aD⟩) n pc,aE ba z bc] 40)=w1 at *;have HR1:=hid hR0;have HX1:=hid hx0;clear hR0 hx0
 go_loopw [5,6] (fun s c wr=>∃ (k:Nat),s=aA aB (fT x k t)/\c=aA aB k/\k<=z/\Ext w1 wr) (fun _ c _=>z - (intOf c).toNat)
 case atStart=>exact⟨0,by rw[H0.out],rfl,by omega,Ext.rf _⟩
 case round=>
  obtain⟨k,rfl,rfl,hk,hx⟩:=hrel;obtain⟨_,_,_,_,b5,b6⟩:=HR1.out wr hx;by_cases hlt:k < z
  ·have hlt':(k:Int) < (z:Int):=by omega
   obtain⟨y,hyk⟩:=bT (f:=x.aO) (k:=k) (by rw[Hz.out];exact hlt);obtain⟨bb,bo,rfl,hbb,hBE⟩:=HBE.out (by omega);obtain⟨c1,c2,_,_⟩:=E2.mono w wr bb _ y (HX1.out.tr hx) (hBE k y hyk);obtain⟨e1,e2⟩:=iG hyk;have hI:=HIN.out k hlt;obtain⟨j,hj⟩:=aBP (by have:=hI.low;rw[e1] at this;exact this:0<=y.Piece);have hjn:j < n:=by have:=hI.is;rw[e1,hj,Hnn.out] at this;exact_mod_cast this
   have hA0:0<=y.At:=by have:=hI.at0;rw[e2] at this;exact this
   have hA1:y.At<=48:=by have:=hI.at48;rw[e2] at this;exact this
   obtain⟨p,hpk⟩:=bT (f:=x.aP.aF) (k:=j) (by rw[Hnn.out];exact hjn);obtain⟨d1,d2,_,_⟩:=E2.mono w wr pb _ p (HX1.out.tr hx) (HPE.out j p hpk);obtain⟨⟨p1,p2⟩,p3,p4⟩:=HQ.out j hjn;obtain⟨eL,eN⟩:=dW hpk;rw[eL] at p1 p2;rw[eN] at p3 p4;have hnx:=H1.out k;have hpj:y.Piece.toNat=j:=by omega
   rw[e1,e2,hpj,eL,eN] at hnx;rw[hj] at c1;have HNX:=hid hnx;obtain⟨hk1,hk2⟩:=HTK.out k hk;have t1:=deF (show ¬ (j:Int) < 0 by omega);have t2:=deF (show ¬ (n:Int)<=(j:Int) by omega);have t2':=deF (show ¬ n<=j by omega);have hw1:IntKind.i64.wrap (y.At+p.Len)=y.At+p.Len:=by rw[IntKind.wrap_i64];omega
   generalize fT x k t=sk at *;have hw2:IntKind.i64.wrap (sk+p.N)=sk+p.N:=by rw[IntKind.wrap_i64];omega
   clear e1 e2 hI hyk hj hpk eL eN hnx hBE hpj
   go_wp2_with fail
   go_region_held3 (fun w'=>w'.cell? ⟨w.heap.size,5,aD⟩=aC (aE (aC ⟨pb,po,aD⟩) n pc)/\w'.cell? ⟨w.heap.size,6,aD⟩=aC (aE (aC ⟨bb,bo,aD⟩) z bc)/\w'.cell? ⟨bb,bo+k*2,aD⟩=aC (aA aB (j:Int))/\w'.cell? ⟨pb,po+j*2,aD⟩=aC (aA aB p.Len)/\w'.cell? ⟨pb,po+j*2+1,aD⟩=aC (aA aB p.N)) ((refine keep5 ?_ b5 b6 c1 d1 d2;(repeat (first | exact Ext.rf _ | refine Ext.dr ?_ | refine Ext.al ?_ _ | refine Ext.se ?_ (by simp) _)))) (fail)
   go_wp2_with fail
   have HX3:=hid (((Ext.rf wr).al (.cells #[aA aB p.Len,aA aB p.N] 44)).dr);have k0:(wr.alloc (.cells #[aA aB p.Len,aA aB p.N] 44)).drew.cell? ⟨wr.heap.size,0,aD⟩=aC (aA aB p.Len):=cell_of_row _ _ 0 _ _ _ (heap_alloc_new wr _);have k1:(wr.alloc (.cells #[aA aB p.Len,aA aB p.N] 44)).drew.cell? ⟨wr.heap.size,1,aD⟩=aC (aA aB p.N):=cell_of_row _ _ 1 _ _ _ (heap_alloc_new wr _);replace c2:=HX3.out.ce' c2;replace b6:=HX3.out.ce' b6;have HXK:=hid (hx.tr HX3.out);clear b5 c1 d1 d2 HX3 hx;generalize (wr.alloc (.cells #[aA aB p.Len,aA aB p.N] 44)).drew=W3 at *;generalize wr.heap.size=BP at *;by_cases g1:y.At<=(t:Int)
   ·by_cases g2:(t:Int) < y.At+p.Len
    ·have h1:=deT g1;have h2:=deT g2;have hv:=HNX.out;rw[if_pos (by omega)] at hv;have HV:=hid hv;clear hv
     go_quiet (fail)
     replace k1:=(Ext.dn (Ext.rf W3) nq).ce' k1;have HXN:=hid (HXK.out.dn nq);clear k0 c2 b6 HXK;generalize W3.drewN nq=W4 at *
     go_wp2_with fail
     go_roundw
     case rel=>exact⟨k+1,by rw[HV.out],by go_num,by omega,HXN.out⟩
     case measure=>simp[intOf];omega
    ·have h1:=deT g1;have h2:=deF g2;have hv:=HNX.out;rw[if_neg (by omega)] at hv;have HV:=hid hv;clear hv
     go_quiet (fail)
     have HXN:=hid (HXK.out.dn nq);clear k0 k1 c2 b6 HXK;generalize W3.drewN nq=W4 at *
     go_wp2_with fail
     go_roundw
     case rel=>exact⟨k+1,by rw[HV.out,aCG],by go_num,by omega,HXN.out⟩
     case measure=>simp[intOf];omega
   ·have h1:=deF g1;have hv:=HNX.out;rw[if_neg (by omega)] at hv;have HV:=hid hv;clear hv
    go_quiet (fail)
    have HXN:=hid (HXK.out.dn nq);clear k0 k1 c2 b6 HXK;generalize W3.drewN nq=W4 at *
    go_wp2_with fail
    go_roundw
    case rel=>exact⟨k+1,by rw[HV.out,aCG],by go_num,by omega,HXN.out⟩
    case measure=>simp[intOf];omega
  ·obtain rfl:k=z:=by omega
   have hlt':¬ (k:Int) < (k:Int):=by omega
   go_wp2_with fail
   go_ret;exact⟨rfl,HX1.out.tr hx⟩
theorem Iv (w:World) (v bv:Value) (l:List Queue) (b:List aT) (q t:Nat) (hl:aX w v l) (hb:bD w bv b) (hp:iZ l) (h5:l.length<=5) (hok:∀ x∈b,cB l x) (hb12:b.length<=12) :
  Calls prog 72 #[v,bv,aA aB (q:Int),aA aB (t:Int)] w fun e w'=>e=.returned (aA aB (bL l b q t))/\Ext w w':=by
 have BN:=hid (fun(W:World) (h:Ext w W) (x:aT) (hx:x∈b)=>Bt W v l x.aP.aG (q:Int) (hl.mono h) hp h5 (hok x hx).q0 (hok x hx).q1);have TK:=hid (fun(W:World) (pv biv:Value) (x:aT) (hx:x∈b) (h1:aU W pv x.aP.aF) (h2:bJ W biv x.aO)=>It W pv biv x t h1 h2 (hok x hx).req (fun k hk=>((hok x hx).bites k hk).1) (hok x hx).many.2);have TS:=hid (fun(k:Nat) (x:aT) (h:b[k]?=aC x)=>Am l q t h);have TN:=hid (fun(k:Nat)=>show 0<=bL l (b.take k) q t/\bL l (b.take k) q t<=1800 by
  have h:=oK (l:=l) q t (b.take k) (fun y hy=>hok y (List.mem_of_mem_take hy));have:(b.take k).length<=12:=by rw[aCH];omega
  omega)
 have BK:=hid (fun(x:aT) (hx:x∈b)=>qV (hok x hx) t);have H0:=hid (show bL l (b.take 0) q t=0 by simp[bL]);have HZ:=hid (show bL l (b.take b.length) q t=bL l b q t by rw[List.take_length]);obtain⟨ba,bc,rfl,hbc,hbc9,hbl,hbE⟩:=jD hb;obtain⟨qa,qc,rfl,_,_,_⟩:=hl.form;have HBE:=hid hbE;clear hl hb hbE hok hp;generalize l.length=n at *;generalize hzz:b.length=z at *;have Hz:=hid hzz;clear hzz;go_enter func72,ntmps72
 go_wp2_with fail
 go_loopw [9,10] (fun s c wr=>∃ (k:Nat),s=aA aB (bL l (b.take k) q t)/\c=aA aB k/\k<=z/\Ext w wr) (fun _ c _=>z - (intOf c).toNat)
 case atStart=>exact⟨0,by rw[H0.out],rfl,by omega,Ext.rf _⟩
 case round=>
  obtain⟨k,rfl,rfl,hk,hx⟩:=hrel;by_cases hlt:k < z
  ·have hlt':(k:Int) < (z:Int):=by omega
   obtain⟨x,hxk⟩:=bT (f:=b) (k:=k) (by rw[Hz.out];exact hlt);obtain⟨bb,bo,rfl,hbb,hE⟩:=HBE.out (by omega);obtain⟨pv,biv,c0,c1,c2,c3,c4,c5,c6,hp,hbi⟩:=cZ (iR.mono w wr bb _ x hx (hE k x hxk));have hm:x∈b:=aBJ hxk;have hT:=TS.out k x hxk;have B1:=hid (BN.out wr hx x hm);have T1:=hid (fun(W:World) (h:Ext wr W)=>TK.out W pv biv x hm (hp.mono h) (hbi.mono h));obtain⟨hs1,hs2⟩:=TN.out k;obtain⟨hb1,hb2⟩:=BK.out x hm;obtain⟨pa,pc,rfl,_,_,_⟩:=hp.form;obtain⟨bia,bic,rfl,_,_,_⟩:=hbi.form;clear hp hbi hE hxk hm;cases hu:under l x.aP.aG q with
   | true=>
    rw[hu,if_pos rfl] at hT;rw[hu] at B1;have HT:=hid hT;have hw2:IntKind.i64.wrap (bL l (b.take k) q t+dO x t)=bL l (b.take k) q t+dO x t:=by rw[IntKind.wrap_i64];omega
    clear hu hT;generalize bL l (b.take k) q t=sk at *;generalize dO x t=tk at *;generalize x.aP.aF.length=pn at *;generalize x.aO.length=bn at *
    go_wp2_with fail
    refine B1.out.mono ?_;rintro e w2 ⟨rfl,hx2⟩;replace c0:=hx2.ce' c0;replace c1:=hx2.ce' c1;replace c2:=hx2.ce' c2;replace c3:=hx2.ce' c3;replace c4:=hx2.ce' c4;replace c5:=hx2.ce' c5;replace c6:=hx2.ce' c6
    go_wp2_with fail
    refine(T1.out _ hx2).mono ?_;rintro e w3 ⟨rfl,hx3⟩;have HX3:=hid ((hx.tr hx2).tr hx3);clear c0 c1 c2 c3 c4 c5 c6 hx2 hx3 B1 T1
    go_wp2_with fail
    go_roundw
    case rel=>exact⟨k+1,by rw[HT.out],by go_num,by omega,HX3.out⟩
    case measure=>simp[intOf];omega
   | false=>
    rw[hu,if_neg (by simp),aCG] at hT;rw[hu] at B1;have HT:=hid hT;clear hu hT;generalize bL l (b.take k) q t=sk at *;generalize dO x t=tk at *;generalize x.aP.aF.length=pn at *;generalize x.aO.length=bn at *
    go_wp2_with fail
    refine B1.out.mono ?_;rintro e w2 ⟨rfl,hx2⟩;have HX3:=hid (hx.tr hx2);clear c0 c1 c2 c3 c4 c5 c6 hx2 B1 T1
    go_wp2_with fail
    go_roundw
    case rel=>exact⟨k+1,by rw[HT.out],by go_num,by omega,HX3.out⟩
    case measure=>simp[intOf];omega
  ·obtain rfl:k=z:=by omega
   have hlt':¬ (k:Int) < (k:Int):=by omega
   have HR:=hid HZ.out
   go_wp2_with fail
   go_ret;exact⟨bB HR.out,hx⟩
def lV (base k:Nat) (v:Value) (F:Nat->Nat->Int) (W:World):Prop:=
 ∃ vs:List Value,W.ownsRow base 29 1 v k vs/\∀ j u,vs[j]?=aC u->bC W u (bN (F j))/\∀ g,v.ownBlock=aC g->bU [g] u
theorem lV.nil (base:Nat) (F:Nat->Nat->Int) (W:World):lV base 0 (aE aD 0 0) F W:=⟨[],aBV _ _ _ _,fun j u h=>by simp at h⟩
theorem lV.ext {base k:Nat} {v:Value} {F:Nat->Nat->Int} {W W':World} (h:lV base k v F W) (hx:Ext W W'):lV base k v F W':=by
 obtain⟨vs,h1,h2⟩:=h;exact⟨vs,bE h1 hx,fun j u hj=>⟨(h2 j u hj).1.mono hx,(h2 j u hj).2⟩⟩
theorem lV.step {base k:Nat} {v:Value} {F:Nat->Nat->Int} {W W':World} {vs:List Value} {u:Value} {g cap:Nat} (h1:W.ownsRow base 29 1 v k vs) (h2:∀ j u,vs[j]?=aC u->bC W u (bN (F j))/\∀ g,v.ownBlock=aC g->bU [g] u)
  (hu:bC W u (bN (F k))) (hf:∀ g,v.ownBlock=aC g->bU [g] u) (ho:W'.ownsRow base 29 1 (aE (aC ⟨g,0,aD⟩) (k+1) cap) (k+1) (vs++[u])) (hg:W.grownBy W' v.ownBlock) (hgg:v.ownBlock=aC g\/g=W.heap.size) :
  lV base (k+1) (aE (aC ⟨g,0,aD⟩) (k+1) cap) F W':=by
 have hlen:vs.length=k:=by have:=h1.1;omega
 have key:∀ j y,bC W y (bN (F j))->(∀ g,v.ownBlock=aC g->bU [g] y)->bC W' y (bN (F j))/\∀ g',(Value.slice (aC ⟨g,0,aD⟩) (k+1) cap).ownBlock=aC g'->bU [g'] y:=by
  intro j y hy ha;obtain⟨b,off,c,e,hb,_⟩:=cX hy (fU _);refine⟨lA hy hg (fun a n c e he=>ha a.block he.symm a n c e (aCB.2 rfl)),fun g' hg'=>?_⟩;obtain rfl:g=g':=by simpa[Value.ownBlock] using hg'
  subst e;rcases hgg with h | h
  ·exact ha g h
  ·exact gK (fun hm=>by have:=aCB.1 hm;omega)
 refine⟨vs++[u],ho,fun j y hj=>?_⟩;rcases Nat.lt_or_ge j k with hlt | hge
 ·rw[aCI (by omega)] at hj;exact key j y (h2 j y hj).1 (h2 j y hj).2
 ·rw[aCJ (by omega)] at hj;obtain rfl:j=k:=by
   have:=(aBD.1 hj).1;simp at this;omega
  have e:u=y:=by
   rw[hlen,Nat.sub_self] at hj;simpa using hj
  subst e;exact key j u hu hf
theorem lV.loads {base n:Nat} {v:Value} {F:Nat->Nat->Int} {W:World} (h:lV base n v F W) (hn:n<=5):uB W v ((List.range n).map fun k=>bN (F k)):=by
 obtain⟨vs,h1,h2⟩:=h;have hlen:vs.length=n:=by have:=h1.1;omega
 rcases h1.2 with ⟨rfl,rfl⟩ | ⟨g,cap,cur,rfl,hb,hg,hc,hm,hcs,htk⟩
 ·exact SV.nil
 ·refine .inr ⟨g,0,cap,by simp,by simpa using hc,by unfold maxLen at hm;omega,by simp;omega,mS.row hg,fun k x hk=>?_⟩;have hkn:k < n:=by have:=(aBD.1 hk).1;simpa using this
  obtain⟨u,hu⟩:=bT (f:=vs) (k:=k) (by omega);have e:x=bN (F k):=by simp[hkn] at hk;exact hk.symm
  rw[e,aBE,aCv];refine⟨u,?_,(h2 k u hu).1⟩;have:=h1.cells (g:=g) rfl k u hu;by_cases e0:k=0 <;> simpa[Addr.add,e0] using this
theorem Yt {w:World} {v:Value} {l:List (List Run)} (hv:uB w v l):∃ a cap,v=aE a l.length cap/\l.length<=cap/\cap<=9223372036854775807/\l.length<=17592186044416/\
  (1<=l.length->∃ b off,a=aC ⟨b,off,aD⟩/\b < w.heap.size/\∀ k x,l[k]?=aC x->∃ u,w.cell? ⟨b,off+k,aD⟩=aC u/\bC w u x):=by
 rcases hv with ⟨rfl,a,cap,rfl,h⟩ | ⟨b,off,cap,rfl,h1,h2,h3,⟨h4,_⟩,h5⟩
 ·exact⟨a,cap,rfl,by simp,h,by simp,fun h=>by simp at h⟩
 ·refine⟨_,cap,rfl,h1,h2,h3,fun _=>⟨b,off,rfl,h4,fun k x hk=>?_⟩⟩;have:=h5 k x hk;rw[aCv] at this;exact this
def nT (l:List Queue) (b:List aT) (f t q:Nat):Prop:=
 f<=t/\t < 48/\q < l.length/\bV l b q t < 0/\(∀ s,f<=s->s < t->∀ p,p < l.length->0<=bV l b p s)/\∀ p,p < q->0<=bV l b p t
def mF (l:List Queue) (b:List aT) (f:Nat):Prop:=∀ s,f<=s->s < 48->∀ p,p < l.length->0<=bV l b p s
theorem nT.uniq {l:List Queue} {b:List aT} {f t q t' q':Nat} (h:nT l b f t q) (h':nT l b f t' q'):t=t'/\q=q':=by
 obtain⟨a1,a2,a3,a4,a5,a6⟩:=h;obtain⟨b1,b2,b3,b4,b5,b6⟩:=h';have e:t=t':=by
  rcases aCK t t' with h | h | h
  ·have:=b5 t a1 h q a3;omega
  ·exact h
  ·have:=a5 t' b1 h q' b3;omega
 subst e;refine⟨rfl,?_⟩;rcases aCK q q' with h | h | h
 ·have:=b6 q h;omega
 ·exact h
 ·have:=a6 q' h;omega
theorem mF.not {l:List Queue} {b:List aT} {f t q:Nat} (h:mF l b f) (h':nT l b f t q):False:=by
 obtain⟨b1,b2,b3,b4,b5,b6⟩:=h';have:=h t b1 b2 q b3;omega
@[irreducible] noncomputable def jV (l:List Queue) (b:List aT) (f:Nat):Int × Int × Bool:=open Classical in
 if h:∃ p:Nat × Nat,nT l b f p.1 p.2 then((h.choose.1:Int),(h.choose.2:Int),true) else(0,0,false)
theorem uF {l:List Queue} {b:List aT} {f t q:Nat} (h:nT l b f t q):jV l b f=((t:Int),(q:Int),true):=by
 have hx:∃ p:Nat × Nat,nT l b f p.1 p.2:=⟨(t,q),h⟩;unfold jV;rw[dif_pos hx];obtain⟨e1,e2⟩:=hx.choose_spec.uniq h;rw[e1,e2]
theorem qZ {l:List Queue} {b:List aT} {f:Nat} (h:mF l b f):jV l b f=(0,0,false):=by
 unfold jV;rw[dif_neg (fun⟨p,hp⟩=>h.not hp)]
theorem Yy {l:List Queue} {b:List aT} {k t:Nat}:(sp (cp l k) t < bL l b k t)↔bV l b k t < 0:=by unfold bV;omega
def rT (w:World) (r:Int × Int × Bool) (e:Ending) (w':World):Prop:=e=.returned (.tuple #[aA aB r.1,aA aB r.2.1,.bool r.2.2])/\Ext w w'
theorem uJ {w w':World} {r:Int × Int × Bool} {a b:Int} {c:Bool} (h:r=(a,b,c)) (hx:Ext w w'):rT w r (.returned (.tuple #[aA aB a,aA aB b,.bool c])) w':=by subst h;exact⟨rfl,hx⟩
theorem vO (w:World) (v bv:Value) (l:List Queue) (b:List aT) (f:Nat) (hf:f<=48) (hl:aX w v l) (hb:bD w bv b) (ok:fB l) (hok:∀ x∈b,cB l x) (hb12:b.length<=12) :
  Calls prog 31 #[v,bv,aA aB (f:Int)] w (rT w (jV l b f)):=by
 have TK:=hid (fun(W:World) (h:Ext w W) (q t:Nat)=>Iv W v bv l b q t (hl.mono h) (hb.mono h) ok.pars ok.n5 hok hb12);have SP:=hid (fun(W:World) (u:Value) (x:List Run) (hs:dI x) (hu:bC W u x)=>vS W u x hu hs);have CS:=hid (fun k (hk:k < l.length)=>(ok.caps k hk).1.1);obtain⟨qb,qo,qc,rfl,_,_,hqb,hqE⟩:=jG hl ok.n1;obtain⟨ba,bc,rfl,hbc,hbc9,hbl⟩:=hb.form;have HQE:=hid hqE;have YES:=hid (fun t q (h:nT l b f t q)=>uF h);have NO:=hid (fun(h:mF l b f)=>qZ h);have hn1:=ok.n1;have hn5:=ok.n5;have LP:=hid (fun k t=>(Yy (l:=l) (b:=b) (k:=k) (t:=t)));clear hl hb hok ok hqE;generalize hnn:l.length=n at *;have Hn:=hid hnn;clear hnn;generalize b.length=z at *;go_enter func31,ntmps31
 go_wp2_with fail
 go_loopw [9] (fun c wr=>∃ t:Nat,c=aA aB t/\t<=48/\f<=t/\Hid (∀ s,f<=s->s < t->∀ p,p < n->0<=bV l b p s)/\Ext w wr) (fun c _=>48 - (intOf c).toNat)
 case atStart=>exact⟨f,rfl,hf,aBq _,hid (fun s h1 h2=>by omega),Ext.rf w⟩
 case round=>
  obtain⟨t,rfl,ht,hft,HB,hx⟩:=hrel;by_cases htl:t < 48
  ·have htl':(t:Int) < 48:=by omega
   have HX:=hid hx;clear hx;generalize wr=w0 at *
   go_wp2_with fail
   go_loopw [10] (fun c wr=>∃ k:Nat,c=aA aB k/\k<=n/\Hid (∀ p,p < k->0<=bV l b p t)/\Ext w wr) (fun c _=>n - (intOf c).toNat)
   case atStart=>exact⟨0,rfl,by omega,hid (fun p h=>by omega),HX.out⟩
   case round=>
    obtain⟨k,rfl,hk,HK,hx⟩:=hrel;by_cases hlt:k < n
    ·have hlt':(k:Int) < (n:Int):=by omega
     obtain⟨x,hxk⟩:=bT (f:=l) (k:=k) (by rw[Hn.out];exact hlt);obtain⟨_,_,_,_,u,c1,hu⟩:=dS.mono w wr qb _ x hx (HQE.out k x hxk);have ecp:=(fC hxk).2.2;have hsh:=CS.out k hlt;rw[ecp] at hsh;have hlp:=LP.out k t;rw[ecp] at hlp;have HLP:=hid hlp;have TL:=hid (fun p:bF wr=>fH p (TK.out p.v (hx.tr p.h) k t));have SL:=hid (fun p:bF wr=>fH p (SP.out p.v u x.Cap hsh (hu.mono p.h)));replace c1:=fun p:bF wr=>p.cell c1;obtain⟨ua,uc,rfl,_,_,_⟩:=hu.form;have hg:=fun w=>vF (sp x.Cap) t htl w;clear hu hxk hsh hlp ecp;generalize sp x.Cap=sc at *;generalize x.Cap.length=xn at *;generalize bL l b k t=tk at *;by_cases g:sc t < tk
     ·have hd:=deT g;have hR:=YES.out t k ⟨hft,htl,by rw[Hn.out];exact hlt,HLP.out.1 g,by rw[Hn.out];exact HB.out,HK.out⟩;have HR:=hid hR;clear hR g
      go_wp2_with fail
      refine cJ (by kernel_rfl) (by kernel_rfl) ?_
      repeat (go_big_quiet_step (first | with_reducible exact TL.out _ | with_reducible exact SL.out _))
      refine wpQuiet_nil ?_;rintro w' ⟨p,rfl⟩;have HX2:=hid (hx.tr p.h);clear TL SL c1;generalize p.v=W at *
      go_wp2_with fail
      go_ret3
      exact uJ HR.out HX2.out
     ·have hd:=deF g;have HN:=hid (show ∀ p,p < k+1->0<=bV l b p t from fun p hp=>by
       by_cases e:p=k
       ·subst e;have:=mt HLP.out.2 g;omega
       ·exact HK.out p (by omega))
      clear g
      go_wp2_with fail
      refine cJ (by kernel_rfl) (by kernel_rfl) ?_
      repeat (go_big_quiet_step (first | with_reducible exact TL.out _ | with_reducible exact SL.out _))
      refine wpQuiet_nil ?_;rintro w' ⟨p,rfl⟩;have HX2:=hid (hx.tr p.h);clear TL SL c1;generalize p.v=W at *
      go_wp2_with fail
      go_roundw
      case rel=>exact⟨k+1,by go_num,by omega,HN,HX2.out⟩
      case measure=>simp[intOf];omega
    ·obtain rfl:k=n:=by omega
     have hlt':¬ (k:Int) < (k:Int):=by omega
     have HN:=hid (show ∀ s,f<=s->s < t+1->∀ p,p < k->0<=bV l b p s from fun s h1 h2 p hp=>by
      by_cases e:s=t
      ·subst e;exact HK.out p hp
      ·exact HB.out s h1 (by omega) p hp)
     go_wp2_with fail
     go_roundw
     case rel=>exact⟨t+1,by go_num,by omega,by omega,HN,hx⟩
     case measure=>simp[intOf];omega
  ·obtain rfl:t=48:=by omega
   have htl':¬ (48:Int) < 48:=by omega
   have HR:=hid (NO.out (fun s h1 h2 p hp=>HB.out s h1 h2 p (by rw[<- Hn.out];exact hp)))
   go_wp2_with fail
   go_ret3
   exact uJ HR.out hx
def qX (q c t p:Nat):Prop:=p < q\/(p=q/\t < c)
def jB (l:List Queue) (b:List aT) (f q c:Nat) (time queue:Int) (is:Bool):Prop:=
 (is=false/\time=48/\queue=0/\∀ t p,qX q c t p->p < l.length->f<=t->t < 48->0<=bV l b p t)\/
 (is=true/\∃ T Q:Nat,time=T/\queue=Q/\f<=T/\T < 48/\Q<=q/\Q < l.length/\bV l b Q T < 0/\∀ t p,qX q c t p->p < l.length->f<=t->(t < T->0<=bV l b p t)/\(t=T->p < Q->0<=bV l b p t))
section
variable {l:List Queue} {b:List aT} {f q c e:Nat} {time queue:Int} {is:Bool}
theorem jB.start:jB l b f 0 0 48 0 false:=.inl ⟨rfl,rfl,rfl,fun t p h=>by unfold qX at h;omega⟩
theorem jB.next (h:jB l b f q 48 time queue is):jB l b f (q+1) 0 time queue is:=by
 rcases h with ⟨h1,h2,h3,h4⟩ | ⟨h1,T,Q,h2,h3,h4,h5,h6,h7,h8,h9⟩
 ·exact .inl ⟨h1,h2,h3,fun t p hs hp hf ht=>h4 t p (by unfold qX at *;omega) hp hf ht⟩
 ·refine .inr ⟨h1,T,Q,h2,h3,h4,h5,by omega,h7,h8,fun t p hs hp hf=>⟨fun ht=>?_,fun ht hq=>?_⟩⟩
  ·exact(h9 t p (by unfold qX at *;omega) hp hf).1 ht
  ·exact(h9 t p (by unfold qX at *;omega) hp hf).2 ht hq
theorem jB.keep (h:jB l b f q c time queue is) (hk:∀ t,c<=t->t < e->f<=t->0<=bV l b q t):jB l b f q e time queue is:=by
 have key:∀ t p,qX q e t p->qX q c t p\/(p=q/\c<=t/\t < e):=fun t p hs=>by unfold qX at *;omega
 rcases h with ⟨h1,h2,h3,h4⟩ | ⟨h1,T,Q,h2,h3,h4,h5,h6,h7,h8,h9⟩
 ·refine .inl ⟨h1,h2,h3,fun t p hs hp hf ht=>?_⟩;rcases key t p hs with hs | ⟨rfl,a,a'⟩
  ·exact h4 t p hs hp hf ht
  ·exact hk t a a' hf
 ·refine .inr ⟨h1,T,Q,h2,h3,h4,h5,h6,h7,h8,fun t p hs hp hf=>?_⟩;rcases key t p hs with hs | ⟨rfl,a,a'⟩
  ·exact h9 t p hs hp hf
  ·exact⟨fun _=>hk t a a' hf,fun _ _=>hk t a a' hf⟩
theorem jB.late (h:jB l b f q c time queue is) (he:e<=48) (h1:max c f < e) (h2:time<=((max c f:Nat):Int)):jB l b f q e time queue is:=by
 rcases h with ⟨g1,g2,g3,g4⟩ | ⟨g1,T,Q,g2,g3,g4,g5,g6,g7,g8,g9⟩
 ·omega
 ·refine .inr ⟨g1,T,Q,g2,g3,g4,g5,g6,g7,g8,fun t p hs hp hf=>?_⟩;by_cases hs':qX q c t p
  ·exact g9 t p hs' hp hf
  ·have:p=q/\c<=t:=by unfold qX at *;omega
   exact⟨fun h=>by omega,fun h h'=>by omega⟩
theorem jB.new (h:jB l b f q c time queue is) (hq:q < l.length) (he:e<=48) (h1:max c f < e) (h2:((max c f:Nat):Int) < time) (hn:∀ t,c<=t->t < e->bV l b q t < 0):jB l b f q e ((max c f:Nat):Int) (q:Int) true:=by
 refine .inr ⟨rfl,max c f,q,rfl,rfl,by omega,by omega,by omega,hq,hn _ (by omega) h1,fun t p hs hp hf=>?_⟩;by_cases hs':qX q c t p
 ·rcases h with ⟨g1,g2,g3,g4⟩ | ⟨g1,T,Q,g2,g3,g4,g5,g6,g7,g8,g9⟩
  ·exact⟨fun h=>g4 t p hs' hp hf (by omega),fun h _=>g4 t p hs' hp hf (by omega)⟩
  ·exact⟨fun h=>(g9 t p hs' hp hf).1 (by omega),fun h _=>(g9 t p hs' hp hf).1 (by omega)⟩
 ·have:p=q/\c<=t:=by unfold qX at *;omega
  exact⟨fun h=>by omega,fun h h'=>by omega⟩
theorem jB.done_no (h:jB l b f l.length 0 time queue false):mF l b f:=by
 rcases h with ⟨h1,h2,h3,h4⟩ | ⟨h1,_⟩
 ·exact fun s h1 h2 p hp=>h4 s p (.inl hp) hp h1 h2
 ·cases h1
theorem jB.done_is (h:jB l b f l.length 0 time queue true):jV l b f=(time,queue,true):=by
 rcases h with ⟨h1,_⟩ | ⟨h1,T,Q,h2,h3,h4,h5,h6,h7,h8,h9⟩
 ·cases h1
 ·rw[h2,h3];exact uF ⟨h4,h5,h7,h8,fun s h h' p hp=>(h9 s p (.inl hp) hp h).1 h',fun p hp=>(h9 T p (.inl (by omega)) (by omega) h4).2 rfl hp⟩
end
def mD (g:List Run) (k:Nat):Nat:=if k < g.length then(bW g k).toNat else 48
theorem Zl (x:Nat->Int):mD (bN x) 0=0:=by
 have h:=kS (eE x);unfold mD;rw[if_pos h.1,h.2];rfl
theorem aAq (g:List Run):mD g g.length=48:=by unfold mD;rw[if_neg (aBj _)]
theorem aAj {x:Nat->Int} {k:Nat} {r:Run} (h:(bN x)[k]?=aC r):r.At=(mD (bN x) k:Int)/\mD (bN x) (k+1)<=48/\mD (bN x) k < mD (bN x) (k+1)/\(∀ t,mD (bN x) k<=t->t < mD (bN x) (k+1)->x t=r.N)/\
  ∀ r',(bN x)[k+1]?=aC r'->r'.At=(mD (bN x) (k+1):Int):=by
 have hk:=(aBD.1 h).1;obtain⟨s1,s2,s3,s4⟩:=cM (eE x) hk;have e1:=bK h;have e2:=cT h;have c1:(mD (bN x) k:Int)=bW (bN x) k:=by unfold mD;rw[if_pos hk];omega
 have c2:(mD (bN x) (k+1):Int)=cH (bN x) k:=by
  unfold mD;by_cases hk1:k+1 < (bN x).length
  ·rw[if_pos hk1,gS hk1];have:=(cM (eE x) hk1).1;omega
  ·rw[if_neg hk1,gZ hk1];rfl
 refine⟨by omega,by omega,by omega,fun t h1 h2=>?_,fun r' h'=>?_⟩
 ·rw[<- fL (x:=x) (t:=t) (by omega),s4 t (by omega) (by omega),e2]
 ·rw[<- bK h',c2,gS (aBD.1 h').1]
theorem too1 (a b:Int) (w:World) (ha:-1000000000<=a) (ha':a<=1000000000) (hb:-1000000000<=b) (hb':b<=1000000000):Calls prog 123 #[aA aB a,aA aB b] w fun e w'=>e=.returned (aA aB (a - b))/\w'=w:=by
 go_enter func123,ntmps123
 go_wp2
 go_ret;exact⟨rfl,rfl⟩
theorem zM {w:World} {v:Value} {f:List Run} (h:bC w v f) (hf:f≠[]):∃ b off cap,v=aE (aC ⟨b,off,aD⟩) f.length cap/\f.length<=17592186044416/\b < w.heap.size/\∀ k x,f[k]?=aC x->E2 Run.At Run.N w b (off+k*2) x:=by
 rcases h with ⟨rfl,_⟩ | ⟨b,off,cap,rfl,h1,h2,hl,⟨h3,_⟩,h4⟩
 ·exact absurd rfl hf
 ·exact⟨b,off,cap,rfl,hl,h3,h4⟩
theorem tC (w:World) (v bv:Value) (l:List Queue) (b:List aT) (f:Nat) (hf:f<=48) (hl:aX w v l) (hb:bD w bv b) (ok:fB l) (hok:∀ x∈b,cB l x) (hb12:b.length<=12) :
  Calls prog 69 #[v,bv,aA aB (f:Int)] w (rT w (jV l b f)):=by
 have TA:=hid (show Calls prog 121 #[v,bv] w (fun e w'=>∃ u,e=.returned u/\uB w' u (Eg l b)/\Ext w w') from Kl w v bv l b hl hb ok.pars ok.n5 hok hb12 ok.n1);have ZL:=hid (fun(W:World) (vf vg:Value) (k:Nat) (hk:k < l.length) (h1:bC W vf (cp l k)) (h2:bC W vg (bN (bL l b k)))=>Mx 123 (enters_of func123 (by kernel_rfl) rfl) (fun a b w h1 h2 h3 h4=>too1 a b w h1 h2 h3 h4) W vf vg l b k hk ok hok hb12 h1 h2);have hLL:(Eg l b).length=l.length:=by simp[Eg]
 have hLK:∀ k,k < l.length->(Eg l b)[k]?=aC (bN (bL l b k)):=fun k hk=>by simp[Eg,hk]
 have BD:=hid (fun tm qu=>jB.done_is (l:=l) (b:=b) (f:=f) (time:=tm) (queue:=qu));have BF:=hid (fun tm qu (h:jB l b f l.length 0 tm qu false)=>qZ h.done_no);have LN:=hid (fun q t (hq:q < l.length)=>tE ok hok hb12 q t hq);obtain⟨qb,qo,qc,rfl,_,_,hqb,hqE⟩:=jG hl ok.n1;obtain⟨ba,bc,rfl,hbc,hbc9,hbl⟩:=hb.form;have HQE:=hid hqE;have HLK:=hid hLK;have hn1:=ok.n1;have hn5:=ok.n5;clear hl hb hok ok hqE hLK;generalize hnn:l.length=n at *;have Hn:=hid hnn;clear hnn;generalize b.length=z at *;go_enter func69,ntmps69
 go_wp2_with fail
 refine TA.out.mono ?_;rintro e w1 ⟨u,rfl,hu,hx1⟩;obtain⟨ua,uc,rfl,_,_,_,huE⟩:=Yt hu;have HUE:=hid huE;rw[hLL];clear hu huE
 go_wp2_with fail
 go_loopw [9,10,11,23] (fun s1 s2 s3 s4 wr=>∃ (q:Nat) (tm qu:Int) (is:Bool),s1=aA aB tm/\s2=aA aB qu/\s3=.bool is/\s4=aA aB q/\q<=n/\Hid (jB l b f q 0 tm qu is)/\Ext w1 wr) (fun _ _ _ s4 _=>n - (intOf s4).toNat)
 case atStart=>exact⟨0,48,0,false,rfl,rfl,rfl,rfl,by omega,hid jB.start,Ext.rf _⟩
 case round=>
  obtain⟨q,tm,qu,is,rfl,rfl,rfl,rfl,hq,HB,hx⟩:=hrel;by_cases hqn:q < n
  ·have hqn':(q:Int) < (n:Int):=by omega
   obtain⟨x,hxk⟩:=bT (f:=l) (k:=q) (by rw[Hn.out];exact hqn);obtain⟨ub,uo,rfl,hub,hue⟩:=HUE.out (by rw[hLL];omega);obtain⟨_,_,_,_,cv,c1,hcv⟩:=dS.mono w wr qb _ x (hx1.tr hx) (HQE.out q x hxk);obtain⟨fv,c2,hfv⟩:=hue q _ (HLK.out q hqn);replace c2:=hx.ce' c2;replace hfv:=hfv.mono hx;have ecp:=(fC hxk).2.2;rw[<- ecp] at hcv;have Z1:=hid (ZL.out wr cv fv q hqn hcv hfv);obtain⟨ca,cc,rfl,_,_,_⟩:=hcv.form;obtain⟨fa,fc,rfl,_,_,_⟩:=hfv.form;have HX1:=hid hx1;clear hcv hfv hxk ecp hue hx1;generalize (cp l q).length=cn at *;generalize (bN (bL l b q)).length=fn at *
   go_wp2_with fail
   refine Z1.out.mono ?_;rintro e w2 ⟨g,rfl,hg,_,hx2⟩;obtain⟨gb,go,gc,rfl,hgl,hgb,hgE⟩:=zM hg (fU _);have HGE:=hid hgE;have HX:=hid (hx.tr hx2);have C0:=hid (Zl (bV l b q));have CE:=hid (aAq (bN (bV l b q)));have RC:=hid (fun k r=>aAj (x:=bV l b q) (k:=k) (r:=r));clear hg hgE hx hx2 c1 c2 Z1;generalize hmm:(bN (bV l b q)).length=m at *;have Hm:=hid hmm;clear hmm;generalize wr=w0 at *
   go_wp2_with fail
   go_loopw [9,10,11,37] (fun s1 s2 s3 s4 wr=>∃ (k:Nat) (tm qu:Int) (is:Bool),s1=aA aB tm/\s2=aA aB qu/\s3=.bool is/\s4=aA aB k/\k<=m/\Hid (jB l b f q (mD (bN (bV l b q)) k) tm qu is)/\Ext w2 wr) (fun _ _ _ s4 _=>m - (intOf s4).toNat)
   case atStart=>exact⟨0,tm,qu,is,rfl,rfl,rfl,rfl,by omega,hid (by rw[C0.out];exact HB.out),Ext.rf _⟩
   case round=>
    clear HB;obtain⟨k,tm,qu,is,rfl,rfl,rfl,rfl,hk,HB,hx⟩:=hrel;by_cases hlt:k < m
    ·have hlt':(k:Int) < (m:Int):=by omega
     obtain⟨r,hr⟩:=bT (f:=bN (bV l b q)) (k:=k) (by rw[Hm.out];exact hlt);obtain⟨c1,c2,c3,c4⟩:=HGE.out k r hr;replace c1:=hx.ce' c1;replace c2:=hx.ce' c2;obtain⟨r1,r2,r3,r4,r5⟩:=RC.out k r hr;have HR4:=hid r4;generalize hc:mD (bN (bV l b q)) k=c at *;generalize he:mD (bN (bV l b q)) (k+1)=e at *;have HCE:=hid (And.intro hc he);rw[r1] at c1;have hgw:gb < wr.heap.size:=aBA hgb hx.size;have HLQ:=hid (show q < l.length by rw[Hn.out];exact hqn);clear r4 c3 c4 hc he;by_cases hk1:k+1 < m
     ·have hk1':(k:Int)+1 < (m:Int):=by omega
      obtain⟨r',hr'⟩:=bT (f:=bN (bV l b q)) (k:=k+1) (by rw[Hm.out];exact hk1);obtain⟨d1,_,_,_⟩:=HGE.out (k+1) r' hr';replace d1:=hx.ce' d1;rw[r5 r' hr'] at d1;clear r5 hr hr' r1;by_cases hcf:c < f
      ·have hcf':(c:Int) < (f:Int):=by omega
       have HM:=hid (show max c f=f by omega);by_cases gN:r.N < 0
       ·by_cases ge:(f:Int) < (e:Int)
        ·by_cases gt:(f:Int) < tm
         ·have HN:=hid (show jB l b f q e (f:Int) (q:Int) true from (by have h:=HB.out.new HLQ.out r2 (by have:=HM.out;omega) (by have:=HM.out;omega) (fun t h1 h2=>by rw[HR4.out t h1 h2];exact gN);rw[HM.out] at h;exact h));rw[<- HCE.out.2] at HN;clear HR4 HLQ
          go_wp2_with fail
          go_roundw
          case rel=>exact⟨k+1,(f:Int),(q:Int),true,rfl,rfl,rfl,by go_num,by omega,HN,hx.al _⟩
          case measure=>simp[intOf];omega
         ·have HN:=hid (show jB l b f q e tm qu is from HB.out.late r2 (by have:=HM.out;omega) (by have:=HM.out;omega));rw[<- HCE.out.2] at HN;clear HR4 HLQ
          go_wp2_with fail
          go_roundw
          case rel=>exact⟨k+1,tm,qu,is,rfl,rfl,rfl,by go_num,by omega,HN,hx.al _⟩
          case measure=>simp[intOf];omega
        ·have HN:=hid (show jB l b f q e tm qu is from HB.out.keep (fun t h1 h2 h3=>by omega));rw[<- HCE.out.2] at HN;clear HR4 HLQ
         go_wp2_with fail
         go_roundw
         case rel=>exact⟨k+1,tm,qu,is,rfl,rfl,rfl,by go_num,by omega,HN,hx.al _⟩
         case measure=>simp[intOf];omega
       ·have HN:=hid (show jB l b f q e tm qu is from HB.out.keep (fun t h1 h2 h3=>by rw[HR4.out t h1 h2];omega));rw[<- HCE.out.2] at HN;clear HR4 HLQ
        go_wp2_with fail
        go_roundw
        case rel=>exact⟨k+1,tm,qu,is,rfl,rfl,rfl,by go_num,by omega,HN,hx.al _⟩
        case measure=>simp[intOf];omega
      ·have hcf':¬ (c:Int) < (f:Int):=by omega
       have HM:=hid (show max c f=c by omega);by_cases gN:r.N < 0
       ·by_cases ge:(c:Int) < (e:Int)
        ·by_cases gt:(c:Int) < tm
         ·have HN:=hid (show jB l b f q e (c:Int) (q:Int) true from (by have h:=HB.out.new HLQ.out r2 (by have:=HM.out;omega) (by have:=HM.out;omega) (fun t h1 h2=>by rw[HR4.out t h1 h2];exact gN);rw[HM.out] at h;exact h));rw[<- HCE.out.2] at HN;clear HR4 HLQ
          go_wp2_with fail
          go_roundw
          case rel=>exact⟨k+1,(c:Int),(q:Int),true,rfl,rfl,rfl,by go_num,by omega,HN,hx.al _⟩
          case measure=>simp[intOf];omega
         ·have HN:=hid (show jB l b f q e tm qu is from HB.out.late r2 (by have:=HM.out;omega) (by have:=HM.out;omega));rw[<- HCE.out.2] at HN;clear HR4 HLQ
          go_wp2_with fail
          go_roundw
          case rel=>exact⟨k+1,tm,qu,is,rfl,rfl,rfl,by go_num,by omega,HN,hx.al _⟩
          case measure=>simp[intOf];omega
        ·exact absurd (by omega) ge
       ·have HN:=hid (show jB l b f q e tm qu is from HB.out.keep (fun t h1 h2 h3=>by rw[HR4.out t h1 h2];omega));rw[<- HCE.out.2] at HN;clear HR4 HLQ
        go_wp2_with fail
        go_roundw
        case rel=>exact⟨k+1,tm,qu,is,rfl,rfl,rfl,by go_num,by omega,HN,hx.al _⟩
        case measure=>simp[intOf];omega
     ·have hk1':¬ (k:Int)+1 < (m:Int):=by omega
      obtain rfl:e=48:=by
       have h1:=HCE.out.2;have h2:k+1=m:=by omega
       rw[h2,CE.out] at h1;exact h1.symm
      clear r5 hr r1;by_cases hcf:c < f
      ·have hcf':(c:Int) < (f:Int):=by omega
       have HM:=hid (show max c f=f by omega);by_cases gN:r.N < 0
       ·by_cases ge:(f:Int) < 48
        ·by_cases gt:(f:Int) < tm
         ·have HN:=hid (show jB l b f q 48 (f:Int) (q:Int) true from (by have h:=HB.out.new HLQ.out r2 (by have:=HM.out;omega) (by have:=HM.out;omega) (fun t h1 h2=>by rw[HR4.out t h1 h2];exact gN);rw[HM.out] at h;exact h));rw[<- HCE.out.2] at HN;clear HR4 HLQ
          go_wp2_with fail
          go_roundw
          case rel=>exact⟨k+1,(f:Int),(q:Int),true,rfl,rfl,rfl,by go_num,by omega,HN,hx.al _⟩
          case measure=>simp[intOf];omega
         ·have HN:=hid (show jB l b f q 48 tm qu is from HB.out.late r2 (by have:=HM.out;omega) (by have:=HM.out;omega));rw[<- HCE.out.2] at HN;clear HR4 HLQ
          go_wp2_with fail
          go_roundw
          case rel=>exact⟨k+1,tm,qu,is,rfl,rfl,rfl,by go_num,by omega,HN,hx.al _⟩
          case measure=>simp[intOf];omega
        ·have HN:=hid (show jB l b f q 48 tm qu is from HB.out.keep (fun t h1 h2 h3=>by omega));rw[<- HCE.out.2] at HN;clear HR4 HLQ
         go_wp2_with fail
         go_roundw
         case rel=>exact⟨k+1,tm,qu,is,rfl,rfl,rfl,by go_num,by omega,HN,hx.al _⟩
         case measure=>simp[intOf];omega
       ·have HN:=hid (show jB l b f q 48 tm qu is from HB.out.keep (fun t h1 h2 h3=>by rw[HR4.out t h1 h2];omega));rw[<- HCE.out.2] at HN;clear HR4 HLQ
        go_wp2_with fail
        go_roundw
        case rel=>exact⟨k+1,tm,qu,is,rfl,rfl,rfl,by go_num,by omega,HN,hx.al _⟩
        case measure=>simp[intOf];omega
      ·have hcf':¬ (c:Int) < (f:Int):=by omega
       have HM:=hid (show max c f=c by omega);by_cases gN:r.N < 0
       ·by_cases ge:(c:Int) < 48
        ·by_cases gt:(c:Int) < tm
         ·have HN:=hid (show jB l b f q 48 (c:Int) (q:Int) true from (by have h:=HB.out.new HLQ.out r2 (by have:=HM.out;omega) (by have:=HM.out;omega) (fun t h1 h2=>by rw[HR4.out t h1 h2];exact gN);rw[HM.out] at h;exact h));rw[<- HCE.out.2] at HN;clear HR4 HLQ
          go_wp2_with fail
          go_roundw
          case rel=>exact⟨k+1,(c:Int),(q:Int),true,rfl,rfl,rfl,by go_num,by omega,HN,hx.al _⟩
          case measure=>simp[intOf];omega
         ·have HN:=hid (show jB l b f q 48 tm qu is from HB.out.late r2 (by have:=HM.out;omega) (by have:=HM.out;omega));rw[<- HCE.out.2] at HN;clear HR4 HLQ
          go_wp2_with fail
          go_roundw
          case rel=>exact⟨k+1,tm,qu,is,rfl,rfl,rfl,by go_num,by omega,HN,hx.al _⟩
          case measure=>simp[intOf];omega
        ·exact absurd (by omega) ge
       ·have HN:=hid (show jB l b f q 48 tm qu is from HB.out.keep (fun t h1 h2 h3=>by rw[HR4.out t h1 h2];omega));rw[<- HCE.out.2] at HN;clear HR4 HLQ
        go_wp2_with fail
        go_roundw
        case rel=>exact⟨k+1,tm,qu,is,rfl,rfl,rfl,by go_num,by omega,HN,hx.al _⟩
        case measure=>simp[intOf];omega
    ·obtain rfl:k=m:=by omega
     have hlt':¬ (k:Int) < (k:Int):=by omega
     have HB':=hid (show jB l b f (q+1) 0 tm qu is from jB.next (by have:=HB.out;rw[CE.out] at this;exact this))
     go_wp2_with fail
     go_roundw
     case rel=>exact⟨q+1,tm,qu,is,rfl,rfl,rfl,by go_num,by omega,HB',HX.out.tr hx⟩
     case measure=>simp[intOf];omega
  ·obtain rfl:q=n:=by omega
   have hqn':¬ (q:Int) < (q:Int):=by omega
   cases is with
   | false=>
    have HR:=hid (BF.out tm qu HB.out)
    go_wp2_with fail
    go_ret3
    exact uJ HR.out (hx1.tr hx)
   | true=>
    have HR:=hid (BD.out tm qu HB.out)
    go_wp2_with fail
    go_ret3
    exact uJ HR.out (hx1.tr hx)
theorem Jq {P:Nat->Prop} (h:∃ n,P n):∃ n,P n/\∀ m,m < n->¬ P m:=by
 obtain⟨n,hn⟩:=h
 induction n using Nat.strongRecOn with
 | ind n ih=>
  by_cases h:∃ m,m < n/\P m
  ·obtain⟨m,hm,hp⟩:=h;exact ih m hm hp
  ·exact⟨n,hn,fun m hm hp=>h ⟨m,hm,hp⟩⟩
theorem uM {l:List Queue} {b:List aT} {f:Nat} (h:¬ mF l b f):∃ t q,nT l b f t q:=by
 have h1:∃ t,f<=t/\t < 48/\∃ q,q < l.length/\bV l b q t < 0:=by
  apply Classical.byContradiction;intro hn;refine h (fun s h1 h2 p hp=>?_);apply Classical.byContradiction;intro h3;exact hn ⟨s,h1,h2,p,hp,by omega⟩
 obtain⟨t,⟨a1,a2,a3⟩,a4⟩:=Jq h1;obtain⟨q,⟨b1,b2⟩,b3⟩:=Jq a3;refine⟨t,q,a1,a2,b1,b2,fun s h1 h2 p hp=>?_,fun p hp=>?_⟩
 ·apply Classical.byContradiction;intro h3;exact a4 s h2 ⟨h1,by omega,p,hp,by omega⟩
 ·apply Classical.byContradiction;intro h3;exact b3 p hp ⟨by omega,by omega⟩
theorem aAe {l:List Queue} {b:List aT} {f:Nat} (h:¬ mF l b f):(jV l b f).2.2=true:=by
 obtain⟨t,q,h⟩:=uM h;rw[uF h]
theorem Df {l:List Queue} {b:List aT} {f:Nat} (h:mF l b f):(jV l b f).2.2=false:=by rw[qZ h]
theorem Xt (x:Nat->Int) (t:Nat):upd x t (x t)=x:=by
 funext s;unfold upd;split
 ·rename_i h;rw[h]
 ·rfl
theorem Tq (x:Nat->Int) (t:Nat) (a b:Int):upd (upd x t a) t b=upd x t b:=by
 funext s;unfold upd;split <;> simp_all
theorem Rd (g:Nat->Int) (ks:List Nat) (k:Nat) {i:Nat} (h:ks[k]?=aC i):nE g (ks.take (k+1))=if k=0 then g i else min (nE g (ks.take k)) (g i):=by
 have hk:=(aBD.1 h).1;have e:ks.take (k+1)=ks.take k++[i]:=by rw[List.take_add_one,h];rfl
 rw[e];by_cases h0:k=0
 ·subst h0;rw[if_pos rfl];rfl
 ·rw[if_neg h0];exact Ef g i (fun e=>by
   have h2:(ks.take k).length=0:=by rw[e];rfl
   rw[aCH] at h2;omega)
theorem Tg (w:World) (v:Value) (l:List Queue) (q:Int) (hv:aX w v l) (hp:iZ l) (h5:l.length<=5) (hq1:0<=q) (hq2:q < l.length) :
  Calls prog 155 #[v,aA aB q] w fun e w'=>∃ v,e=.returned v/\pP w' v ((cR l q).map fun k:Nat=>(k:Int))/\(∀ a n c,v=aE (aC a) n c->w.heap.size<=a.block)/\Ext w w':=by
 obtain⟨ii,ii1,ii2,ii3,ii4⟩:=info_parts info3;obtain⟨b,off,cap,rfl,hcap,hc9,hb,hE⟩:=jG hv (by omega);have HI:=hid (Jo hp hq2 h5);have hl5:=mM hp hq2 h5;have Hp:=hid hp;have HE:=hid hE;clear hv hp hE;generalize hn:l.length=n at *;have Hn:=hid hn;clear hn;go_enter func155,ntmps155
 go_wp2_with fail
 go_loopw [1,5] (fun c v wr=>∃ (pre:List Nat) (x:Int),c=aA aB x/\-1<=x/\x < n/\Hid (pre++cR l x=cR l q)/\Hid (wr.ownsRow w.heap.size 3 1 v pre.length (Oc pre))/\Ext w wr) (fun c _ _=>(intOf c+1).toNat)
 case atStart=>exact⟨[],q,rfl,by omega,by omega,hid rfl,aBV _ _ _ _,Ext.rf _⟩
 case round=>
  obtain⟨pre,x,rfl,hx1,hx2,HL,Hown,hx⟩:=hrel;have hlen:pre.length+(cR l x).length=(cR l q).length:=by rw[<- HL.out,aBk]
  have hsz:=hx.size;by_cases h:0<=x
  ·obtain⟨k,rfl⟩:∃ k:Nat,x=k:=⟨x.toNat,by omega⟩;have hkl:k < l.length:=by rw[Hn.out];omega
   obtain⟨y,hyk⟩:=Ma (l:=l) (k:=k) hkl;obtain⟨_,e2,_⟩:=fC hyk;have hpk:=Hp.out k hkl;rw[e2] at hpk;obtain⟨hpk1,hpk2⟩:=hpk;have HS:=hid (show (pre++[k])++cR l y.aR=cR l q from by rw[<- HL.out,gT Hp.out hkl,e2];simp);have hcell:=(dS.mono w wr b _ y hx (HE.out k y hyk)).2.2.1;have HC:=hid (dS.mono w wr b _ y hx (HE.out k y hyk)).2.2.1;have hpl:pre.length+1<=5:=by
    have:1<=(cR l (k:Int)).length:=by rw[gT Hp.out hkl];simp
    omega
   have hown:=Hown.out;have hbw:b < wr.heap.size:=by omega
   have HX:=hid hyk;clear e2 hyk HL hlen
   go_wp2_with (at_builtin;refine wpList_append_own _ rfl _ _ 67 rfl w.heap.size 3 ii _ 1 8 underlying67 ii1 ii2 ii3 ii4 rfl (by decide) _ _ _ rfl (hown.alloc _) ⟨wr.heap.size,0,aD⟩ 1 1 [aA aB (k:Int)] rfl rfl (Ci _ rfl _ _) (one1 _ _) (by unfold maxLen;omega) (by omega) (by simp;omega) ?_)
   intro v2 W2 hown2 hgrow2 hnil2;have hx2':=(hx.al (.cells #[aA aB (k:Int)] 3)).gr hgrow2 (fun k hk=>eU hown k hk);have hcell2:=(dS.mono w W2 b _ y hx2' (HE.out k y HX.out)).2.2.1
   go_wp2_with fail
   go_roundw
   case rel=>exact⟨pre++[k],y.aR,rfl,hpk1,by omega,HS,hid (by rw[Jk,aBk];exact hown2),hx2'⟩
   case measure=>simp[intOf];omega
  ·have HF:=hid (uL Hown.out);have hL:=hid (show pre=cR l q from by rw[<- HL.out,mL (by omega),List.append_nil]);clear HL
   go_wp2_with fail
   go_ret;refine⟨_,rfl,xT (by rw[<- hL.out];exact Hown.out) HI.out.1 HI.out.2,HF.out,hx⟩
theorem Ap (w:World) (v bv:Value) (l:List Queue) (b:List aT) (q:Nat) (hq:q < l.length) (hl:aX w v l) (hb:bD w bv b) (ok:fB l) (hok:∀ x∈b,cB l x) (hb12:b.length<=12) :
  Calls prog 95 #[v,bv,aA aB (q:Int)] w (Gg w (gX l b q)):=by
 have LO:=hid (fun(W:World) (h:Ext w W)=>Tg W v l (q:Int) (hl.mono h) ok.pars ok.n5 (by omega) (by omega));have TK:=hid (fun(W:World) (h:Ext w W) (q t:Nat)=>Iv W v bv l b q t (hl.mono h) (hb.mono h) ok.pars ok.n5 hok hb12);have SP:=hid (fun(W:World) (u:Value) (x:List Run) (hs:dI x) (hu:bC W u x)=>vS W u x hu hs);have CS:=hid (fun k (hk:k < l.length)=>(ok.caps k hk).1.1);have LN:=hid (fun k t (hk:k < l.length)=>tE ok hok hb12 k t hk);have LL:=hid (fun k t=>show bV l b k t=sp (cp l k) t - bL l b k t from rfl);have LT:=hid (fun k (hk:k∈cR l (q:Int))=>(tD ok.pars l.length (q:Int) (by omega) (by omega) k hk).1);have RT:=hid (fun t=>show gX l b q t=nE (fun k=>bV l b k t) (cR l (q:Int)) from rfl);have LNE:=hid (show cR l (q:Int)≠[] by rw[gT ok.pars hq];simp);have R0:=hid (fun t=>show nE (fun k=>bV l b k t) ((cR l (q:Int)).take 0)=0 from rfl);obtain⟨qb,qo,qc,rfl,_,_,hqb,hqE⟩:=jG hl ok.n1;obtain⟨ba,bc,rfl,hbc,hbc9,hbl⟩:=hb.form;have HQE:=hid hqE;have hL5:=mM ok.pars (q:=(q:Int)) (by omega) ok.n5;have hn1:=ok.n1;have hn5:=ok.n5;clear hl hb hok ok hqE;generalize hR:gX l b q=R at *;clear hR;generalize hG:bV l b=G at *;clear hG;generalize hLi:cR l (q:Int)=li at *;clear hLi;generalize hnn:l.length=n at *;have Hn:=hid hnn;clear hnn;generalize b.length=z at *;go_enter func95,ntmps95
 go_wp2_with fail
 rw[Ni];have HA0:=hid (show cC 95 ((w.alloc (.cells (tab fun _=>0) 95)).alloc (.cells (tab fun _=>0) 95)) w.heap.size (fun _=>0) from (cC.new w (fun _=>0)).ext ((Ext.rf _).al _));have HB0:=hid (show cC 95 ((w.alloc (.cells (tab fun _=>0) 95)).alloc (.cells (tab fun _=>0) 95)) (w.heap.size+1) (fun _=>0) by
  have:=cC.new (T:=95) (w.alloc (.cells (tab fun _=>0) 95)) (fun _=>0);simpa using this)
 refine(LO.out _ (((Ext.rf w).al _).al _)).mono ?_;rintro e w1 ⟨lv,rfl,hlv,hlf,hx1⟩;have HA1:=hid (HA0.out.ext hx1);have HB1:=hid (HB0.out.ext hx1);have X1:=hid (show Ext w w1 from (((Ext.rf w).al _).al _).tr hx1);clear hx1 HA0 HB0 LO;obtain⟨lb,lo,lc,rfl,_,hlb,hlE⟩:∃ b off cap,lv=aE (aC ⟨b,off,aD⟩) li.length cap/\li.length<=cap/\b < w1.heap.size/\∀ k (i:Nat),li[k]?=aC i->w1.cell? ⟨b,off+k,aD⟩=aC (aA aB (i:Int)):=by
  rcases hlv with ⟨he,_⟩ | ⟨b,off,cap,rfl,h1,h2,h3,⟨h4,_⟩,hE⟩
  ·have:li=[]:=by simpa using he
   exact absurd this LNE.out
  ·rw[aCC] at h1 ⊢;refine⟨b,off,cap,rfl,h1,h4,fun k i hk=>?_⟩;have:=(hE k (i:Int) (by rw[aCL,hk];rfl)).1
   rwa [aCv] at this
 have hlb2:w.heap.size+1+1<=lb:=by have:=hlf _ _ _ rfl;simpa using this
 have HLE:=hid hlE;clear hlv hlE hlf;generalize hmm:li.length=m at *;have Hm:=hid hmm;clear hmm
 go_wp2_with fail
 go_loopw [9] (fun c wr=>∃ t:Nat,c=aA aB t/\t<=48/\Hid (cC 95 wr (w.heap.size+1) (pW R (fun _=>0) t))/\Hid (cC 95 wr w.heap.size (fun _=>0))/\Hid (∀ k (i:Nat),li[k]?=aC i->wr.cell? ⟨lb,lo+k,aD⟩=aC (aA aB (i:Int)))/\Ext w wr) (fun c _=>48 - (intOf c).toNat)
 case atStart=>exact⟨0,rfl,by omega,by rw[Vw];exact HB1,HA1,HLE,X1.out⟩
 case round=>
  obtain⟨t,rfl,ht,HT,HO,HC,hx⟩:=hrel;by_cases htl:t < 48
  ·have htl':(t:Int) < 48:=by omega
   have HX:=hid hx;clear hx;generalize wr=w0 at *
   go_wp2_with fail
   go_loopw [10] (fun c wr=>∃ k:Nat,c=aA aB k/\k<=m/\Hid (cC 95 wr (w.heap.size+1) (upd (pW R (fun _=>0) t) t (nE (fun j=>G j t) (li.take k))))/\Hid (cC 95 wr w.heap.size (fun _=>0))/\Hid (∀ k (i:Nat),li[k]?=aC i->wr.cell? ⟨lb,lo+k,aD⟩=aC (aA aB (i:Int)))/\Ext w wr) (fun c _=>m - (intOf c).toNat)
   case atStart=>exact⟨0,rfl,by omega,hid (by
    rw[R0.out t];have e:=Xt (pW R (fun _=>0) t) t;rw[Tx] at e;rw[e];exact HT.out),HO,HC,HX.out⟩
   case round=>
    clear HT HO HC HX;obtain⟨k,rfl,hk,HT,HO,HC,hx⟩:=hrel;by_cases hlt:k < m
    ·have hlt':(k:Int) < (m:Int):=by omega
     obtain⟨j,hjk⟩:=bT (f:=li) (k:=k) (by rw[Hm.out];exact hlt);have c0:=HC.out k j hjk;have hjn:=LT.out j (aBJ hjk);obtain⟨x,hxk⟩:=bT (f:=l) (k:=j) (by rw[Hn.out];exact hjn);obtain⟨_,_,_,_,u,c1,hu⟩:=dS.mono w wr qb _ x hx (HQE.out j x hxk);have ecp:=(fC hxk).2.2;have hsh:=CS.out j hjn;rw[ecp] at hsh;have hll:=LL.out j t;rw[ecp] at hll;have hln:=LN.out j t hjn;have hms:=Rd (fun j=>G j t) li k hjk;have HMS:=hid hms;have TL:=hid (fun p:bF wr=>fH p (TK.out p.v (hx.tr p.h) j t));have SL:=hid (fun p:bF wr=>fH p (SP.out p.v u x.Cap hsh (hu.mono p.h)));obtain⟨ua,uc,rfl,_,_,_⟩:=hu.form;have hg:=fun w=>vF (sp x.Cap) t htl w;have t1:=deF (show ¬ (j:Int) < 0 by omega);have t2:=deF (show ¬ (n:Int)<=(j:Int) by omega);have t3:=deF (show ¬ n<=j by omega);have hw:IntKind.i64.wrap (sp x.Cap t - bL l b j t)=G j t:=by rw[IntKind.wrap_i64,hll] <;> omega
     have HXX:=hid hx;clear hu hxk hsh ecp hjk hms hll hln hx;generalize hgj:G j t=gj at *;clear hgj;generalize sp x.Cap=sc at *;generalize x.Cap.length=xn at *;generalize bL l b j t=tk at *;replace c0:=fun p:bF wr=>p.cell c0;replace c1:=fun p:bF wr=>p.cell c1
     go_wp2_with fail
     refine cJ (by kernel_rfl) (by kernel_rfl) ?_
     repeat (go_big_quiet_step (first | with_reducible exact TL.out _ | with_reducible exact SL.out _))
     refine wpQuiet_nil ?_;rintro w' ⟨p,rfl⟩;have H2:=hid (HXX.out.tr p.h);have HC2:=hid (fun k i hk=>p.h.ce' (HC.out k i hk));have HT2:=hid (HT.out.ext p.h);have HO2:=hid (HO.out.ext p.h);clear TL SL c1 c0 hg HXX HT HO HC;generalize p.v=W at *;have hcl:=HT2.out.cell htl;rw[Nd] at hcl;have hfr:=HT2.out.free t;have hlb2:=HT2.out.lt;by_cases hk0:k=0
     ·have hz0:=eqT (a:=(k:Int)) (b:=0) (by omega);have hS:=HT2.out.set htl gj;rw[Tq] at hS;have hm:=HMS.out;rw[if_pos hk0] at hm;have HN:=hid (show cC 95 (W.setCell ⟨w.heap.size+1,t,aD⟩ (aA aB gj)) (w.heap.size+1) (upd (pW R (fun _=>0) t) t (nE (fun j=>G j t) (li.take (k+1)))) by rw[hm];exact hS);clear hS hm hk0
      go_wp2_with fail
      go_roundw
      case rel=>exact⟨k+1,by go_num,by omega,HN,hid (HO2.out.other (by omega) _),hid (fun k i hk=>(aY W (w.heap.size+1) t _).cell (HC2.out k i hk) (fun e=>by have e2:lb=w.heap.size+1:=Option.some.inj e;omega)),H2.out.se (by omega) _⟩
      case measure=>simp[intOf];omega
     ·have hz0:=eqF (a:=(k:Int)) (b:=0) (by omega);have hm:=HMS.out;rw[if_neg hk0] at hm;generalize hcu:nE (fun j=>G j t) (li.take k)=cu at *;by_cases hlt2:gj < cu
      ·have hS:=HT2.out.set htl gj;rw[Tq] at hS;have HN:=hid (show cC 95 (W.setCell ⟨w.heap.size+1,t,aD⟩ (aA aB gj)) (w.heap.size+1) (upd (pW R (fun _=>0) t) t (nE (fun j=>G j t) (li.take (k+1)))) by rw[hm,show min cu gj=gj by omega];exact hS);clear hS hm hcu HMS
       go_wp2_with fail
       go_roundw
       case rel=>exact⟨k+1,by go_num,by omega,HN,hid (HO2.out.other (by omega) _),hid (fun k i hk=>(aY W (w.heap.size+1) t _).cell (HC2.out k i hk) (fun e=>by have e2:lb=w.heap.size+1:=Option.some.inj e;omega)),H2.out.se (by omega) _⟩
       case measure=>simp[intOf];omega
      ·have HN:=hid (show cC 95 W (w.heap.size+1) (upd (pW R (fun _=>0) t) t (nE (fun j=>G j t) (li.take (k+1)))) by rw[hm,show min cu gj=cu by omega];exact HT2.out);clear hm hcu HMS
       go_wp2_with fail
       go_roundw
       case rel=>exact⟨k+1,by go_num,by omega,HN,HO2,HC2,H2.out⟩
       case measure=>simp[intOf];omega
    ·obtain rfl:k=m:=by omega
     have hlt':¬ (k:Int) < (k:Int):=by omega
     have HN:=hid (show cC 95 wr (w.heap.size+1) (pW R (fun _=>0) (t+1)) by
      have h:=HT.out;rw[aCM (by rw[Hm.out];exact aBq _),<- RT.out t,Jm] at h;exact h)
     go_wp2_with fail
     go_roundw
     case rel=>exact⟨t+1,by go_num,by omega,HN,HO,HC,hx⟩
     case measure=>simp[intOf];omega
  ·obtain rfl:t=48:=by omega
   have htl':¬ (48:Int) < 48:=by omega
   have hT:cC 95 wr (w.heap.size+1) R:=HT.out.congr (Yp _ _)
   go_wp2_with (first
    | (refine wpList_load_row rfl 95 _ rfl (w.heap.size+1) rfl 95 (tab R) (0,0) _ hT underlying95 rfl (by rw[dV];exact size95) ?_)
    | (refine wpList_store_row rfl 95 _ _ rfl w.heap.size (tab R) rfl rfl 95 (tab fun _=>0) HO.out (by rw[dV];exact size95) (by rw[dV,dV]) (Ts _) ?_))
   refine bodyPost_ret (v:=.agg (tab R)) (results_cell_row rfl _ _ w.heap.size 95 (tab R) (0,0) _ rfl (HO.out.row _) underlying95 rfl (by rw[dV];exact size95)) rfl ⟨rfl,hx.sr (aBq _) _⟩
theorem xD {w:World} {vf vg:Value} {f:List Run} (hf:bC w vf f) (hg:bC w vg f) :
  Calls prog 19 #[vf,vg] w fun e w'=>e=.returned (.bool true)/\Ext w w':=by
 have:=Mn w vf vg f f hf hg;rw[deT rfl] at this;exact this
theorem mQ {l:List Queue}:∀ {b:List aT},iY l b=0↔∀ x∈b,fQ l x.aP=0/\dL x.aP x.aO=true
 | []=>by simp[iY]
 | y::b=>by
  by_cases h1:fQ l y.aP=0
  ·by_cases h2:dL y.aP y.aO=true
   ·rw[uR h1 h2,mQ];constructor
    ·intro h x hx;rcases aC8.1 hx with rfl | hx
     ·exact⟨h1,h2⟩
     ·exact h x hx
    ·exact fun h x hx=>h x (aBl _ hx)
   ·constructor
    ·intro h;rw[pM h1 (by simpa using h2)] at h;omega
    ·intro h;exact absurd (h y (aCw ..)).2 h2
  ·constructor
   ·intro h;rw[rN h1] at h;exact absurd h h1
   ·intro h;exact absurd (h y (aCw ..)).1 h1
open Go.RowKit Go.ChangeShapes Go.WideShapes Go.Deep
section
variable {H:Type} {P:Program} {enc:TypeId × Value->H} {W:World} {base:Nat} {spare:Nat->Bool} {held:Bool}
theorem sX {W:World} {ps qs:List MemPlace} (h:W.noneFrozen ps) (hs:∀ p∈qs,p∈ps):W.noneFrozen qs:=fun b o hp=>h b o (hs _ hp)
def Kn {α:Type} (P:Program) (enc:TypeId × Value->H) (W:World) (base:Nat) (spare:Nat->Bool) (held:Bool) (e:TypeId) (sz:Nat) (E:World->Nat->Nat->α->Prop):Prop:=
 ∀ (fuel:Nat) (cs:List Value) (x:DataW H × List MemPlace),DataW.trod enc P W base spare held fuel e cs=some x->(∀ n∈x.1.weights P e,n<=reachBytes)->W.noneFrozen x.2->
  ∀ b o,(∀ j,j < sz->W.cell? ⟨b,o+j,none⟩=cs[j]?)->∃ y:α,E W b o y
theorem kN (b o j:Nat):(⟨b,o,aD⟩:Addr).add j=⟨b,o+j,aD⟩:=by
 unfold Addr.add;split <;> simp_all
theorem sJ {e:TypeId}:∀ {l:List (DataW H)} {d:DataW H},d∈l->∀ n∈d.weights P e,n∈DataW.weightsAll P e l
 | a::l,d,hd,n,hn=>by
  simp only[DataW.weightsAll,aBm];rcases aC8.1 hd with rfl | hd
  ·exact .inl hn
  ·exact .inr (sJ hd n hn)
theorem xN {α:Type} [Inhabited α] {t e:TypeId} {sz:Nat} {E:World->Nat->Nat->α->Prop} (ht:P.underlying t=some (.slice e)) (hc:P.cellsOf e=sz) (hsz:0 < sz) (hby:8<=P.bytesOf e)
  (hE:Kn P enc W base spare held e sz E) {fuel:Nat} {v:Value} {x:DataW H × List MemPlace} (h:DataW.trod enc P W base spare held fuel t [v]=some x) (hw:∀ n∈x.1.weights P t,n<=reachBytes) (hz:W.noneFrozen x.2) :
  ∃ xs,SV sz E W v xs:=by
 rcases open_slice ht h with ⟨hv,_⟩ | ⟨a,len,cap,m,n,D,Pl,hv,hb,hl,hm,hmm,rfl,hx⟩
 ·obtain rfl:v=.slice none 0 0:=by simpa using hv
  exact⟨[],SV.nil⟩
 ·obtain rfl:v=.slice (some a) len cap:=by simpa using hv
  by_cases h0:len=0
  ·subst h0;exact⟨[],.inl ⟨rfl,some a,cap,rfl,by unfold maxLen at hm;omega⟩⟩
  ·have hlm:len<=m:=by rw[hmm];split <;> omega
   have hbig:len*8<=reachBytes:=by
    have h1:=hw ((len+(m - len))*P.bytesOf e) (by simp[DataW.weights,ht]);have h2:len*8<=(len+(m - len))*P.bytesOf e:=Nat.mul_le_mul (by omega) hby;omega
   have cells:∀ i,i < m->∃ cs',DataW.trod enc P W base spare held n e cs'=some (D i,Pl i)/\∀ j,j < sz->W.cell? ((a.add (i*sz)).add j)=cs'[j]?/\cs'.length=sz:=by
    intro i hi;obtain⟨cs',h1,h2⟩:=hx i hi;rw[hc] at h1;obtain⟨_,h3,h4⟩:=World.cells?_some h1;exact⟨cs',h2,fun j hj=>⟨h4 j hj,h3⟩⟩
   obtain⟨cs0,_,h1⟩:=cells 0 (by omega);obtain⟨h2,h3⟩:=h1 0 hsz;have h4:W.cell? ((a.add (0*sz)).add 0)=some (cs0[0]'(by omega)):=by rw[h2,List.getElem?_eq_getElem]
   have hspot:=World.cell?_spot h4;have hblk:=aBx W _ h4;obtain⟨b,off,spot⟩:=a;obtain rfl:spot=none:=by simpa[Addr.add] using hspot
   have hb2:b < W.heap.size:=by simpa[Addr.add] using hblk
   have each:∀ i,i < len->∃ y:α,E W b (off+i*sz) y:=by
    intro i hi;obtain⟨cs',h5,h6⟩:=cells i (by omega);refine hE n cs' _ h5 (fun k hk=>hw k ?_) (sX hz fun p hp=>List.mem_append_right _ (List.mem_flatMap.2 ⟨i,aC3.2 (by omega),hp⟩)) b _ (fun j hj=>by have:=(h6 j hj).1;rw[kN,kN] at this;exact this);simp only[DataW.weights,ht,aC8,aBm];exact .inr (.inl (sJ (aCn.2 ⟨i,aC3.2 hi,rfl⟩) k hk))
   obtain⟨f,hf⟩:=choose_lt (α:=α) (p:=fun i y=>E W b (off+i*sz) y) each;refine⟨(List.range len).map f,.inr ⟨b,off,cap,by simp,by simpa using hl,by unfold maxLen at hm;omega,by simp;unfold reachBytes at hbig;omega,⟨hb2,hid fun k k1 k2=>?_⟩,fun k y hk=>?_⟩⟩
   ·obtain⟨i,rfl⟩:∃ i,k=off+i:=⟨k - off,by omega⟩;refine hz b (off+i) (List.mem_append_left _ (aCn.2 ⟨i,aC3.2 ?_,rfl⟩));rw[hc];have h9:len*sz<=m*sz:=Nat.mul_le_mul_right sz hlm;simp only[aCC,aCD] at k2;omega
   rw[aCL] at hk;by_cases hkl:k < len
   ·rw[aCN hkl] at hk;simp at hk;subst hk;exact hf k hkl
   ·rw[aBZ (by simpa using hkl)] at hk;cases hk
end
theorem Fp:prog.cellsOf 48=2:=by kernel_rfl
theorem Sk:8<=prog.bytesOf 48:=of_decide_eq_true (by kernel_rfl)
theorem lE:prog.cellsOf 3=1:=by kernel_rfl
section
variable {H:Type} {enc:TypeId × Value->H} {W:World} {base:Nat} {spare:Nat->Bool} {held:Bool}
theorem Vq:Kn prog enc W base spare held 48 2 vA:=by
 intro fuel cs x h hw hz b o hcell;obtain⟨y0,y1,n,rfl,hl,h0,h1⟩:=trod_struct2 underlying48 h;rw[Fp] at hl
 match cs,hl with
 | [c0,c1],_=>
  simp only[lE,aCO,aCP,aCQ,aCR] at h0 h1;obtain⟨n0,e0,_,w0⟩:=DataW.trod_int underlying3 h0;obtain⟨n1,e1,_,w1⟩:=DataW.trod_int underlying3 h1;simp only[List.cons.injEq,and_true] at e0 e1;subst e0 e1;exact⟨⟨n0,n1⟩,hcell 0 (by omega),hcell 1 (by omega),I64.of_wf w0,I64.of_wf w1⟩
theorem Jg {fuel:Nat} {v:Value} {x:DataW H × List MemPlace} (h:DataW.trod enc prog W base spare held fuel 29 [v]=some x) (hw:∀ n∈x.1.weights prog 29,n<=reachBytes) (hz:W.noneFrozen x.2):∃ xs,bC W v xs:=
 xN underlying29 Fp (by omega) Sk Vq h hw hz
end
open Go.RowKit Go.ChangeShapes Go.WideShapes Go.Deep
theorem Fq:prog.cellsOf 46=3:=by kernel_rfl
theorem Sl:8<=prog.bytesOf 46:=of_decide_eq_true (by kernel_rfl)
theorem Wu:prog.cellsOf 9=1:=by kernel_rfl
theorem Fu:prog.cellsOf 29=1:=by kernel_rfl
section
variable {H:Type} {enc:TypeId × Value->H} {W:World} {base:Nat} {spare:Nat->Bool} {held:Bool}
theorem Nx:Kn prog enc W base spare held 46 3 dS:=by
 intro fuel cs x h hw hz b o hcell;obtain⟨y0,y1,y2,n,rfl,hl,h0,h1,h2⟩:=trod_struct3 underlying46 h;rw[Fq] at hl
 match cs,hl with
 | [c0,c1,c2],_=>
  simp only[lE,Wu,Fu,aCO,aCP,aCQ,aCR] at h0 h1 h2;obtain⟨s,e0,_,w0⟩:=DataW.trod_string underlying9 h0;obtain⟨n1,e1,_,w1⟩:=DataW.trod_int underlying3 h1;simp only[List.cons.injEq,and_true] at e0 e1;subst e0 e1;obtain⟨xs,hxs⟩:=Jg h2 (fun k hk=>hw k (by
   simp only[DataW.weights,underlying46,aCu,aCS,DataW.weightsEach,aBm];exact .inr (.inr (.inl hk)))) (sX hz fun p hp=>by simp[hp])
  exact⟨⟨s,n1,xs⟩,hcell 0 (by omega),w0,hcell 1 (by omega),I64.of_wf w1,_,hcell 2 (by omega),hxs⟩
theorem Oa {fuel:Nat} {v:Value} {x:DataW H × List MemPlace} (h:DataW.trod enc prog W base spare held fuel 22 [v]=some x) (hw:∀ n∈x.1.weights prog 22,n<=reachBytes) (hz:W.noneFrozen x.2):∃ xs,aX W v xs:=
 xN underlying22 Fq (by omega) Sl Nx h hw hz
end
open Go.RowKit Go.ChangeShapes Go.WideShapes Go.Deep
theorem Fr:prog.cellsOf 44=2:=by kernel_rfl
theorem Sm:8<=prog.bytesOf 44:=of_decide_eq_true (by kernel_rfl)
theorem Fs:prog.cellsOf 42=2:=by kernel_rfl
theorem Sn:8<=prog.bytesOf 42:=of_decide_eq_true (by kernel_rfl)
theorem wP:prog.cellsOf 28=5:=by kernel_rfl
theorem Se:prog.cellsOf 26=1:=by kernel_rfl
section
variable {H:Type} {P:Program} {enc:TypeId × Value->H} {w:World} {base:Nat} {spare:Nat->Bool} {held:Bool}
theorem Kt {t:TypeId} {f0 f1 f2 f3 f4:Field} {fuel:Nat} {cs:List Value} {x:DataW H × List MemPlace} (ht:P.underlying t=some (.struct #[f0,f1,f2,f3,f4])) (h:DataW.trod enc P w base spare held fuel t cs=some x) :
  ∃ y0 y1 y2 y3 y4 n,x=(.agg [y0.1,y1.1,y2.1,y3.1,y4.1],y0.2++(y1.2++(y2.2++(y3.2++y4.2))))/\cs.length=P.cellsOf t/\DataW.trod enc P w base spare held n f0.type ((cs.drop f0.offset).take (P.cellsOf f0.type))=some y0/\
   DataW.trod enc P w base spare held n f1.type ((cs.drop f1.offset).take (P.cellsOf f1.type))=some y1/\DataW.trod enc P w base spare held n f2.type ((cs.drop f2.offset).take (P.cellsOf f2.type))=some y2/\
   DataW.trod enc P w base spare held n f3.type ((cs.drop f3.offset).take (P.cellsOf f3.type))=some y3/\DataW.trod enc P w base spare held n f4.type ((cs.drop f4.offset).take (P.cellsOf f4.type))=some y4:=by
 obtain⟨xs,n,_,rfl,hl,hlen,hf⟩:=DataW.trod_struct ht h
 match xs,hlen with
 | [y0,y1,y2,y3,y4],_=>exact⟨y0,y1,y2,y3,y4,n,by simp,hl,by simpa using hf 0 f0 rfl,by simpa using hf 1 f1 rfl,by simpa using hf 2 f2 rfl,by simpa using hf 3 f3 rfl,by simpa using hf 4 f4 rfl⟩
end
section
variable {H:Type} {enc:TypeId × Value->H} {W:World} {base:Nat} {spare:Nat->Bool} {held:Bool}
theorem Ny:Kn prog enc W base spare held 44 2 Mq:=by
 intro fuel cs x h hw hz b o hcell;obtain⟨y0,y1,n,rfl,hl,h0,h1⟩:=trod_struct2 underlying44 h;rw[Fr] at hl
 match cs,hl with
 | [c0,c1],_=>
  simp only[lE,aCO,aCP,aCQ,aCR] at h0 h1;obtain⟨n0,e0,_,w0⟩:=DataW.trod_int underlying3 h0;obtain⟨n1,e1,_,w1⟩:=DataW.trod_int underlying3 h1;simp only[List.cons.injEq,and_true] at e0 e1;subst e0 e1;exact⟨⟨n0,n1⟩,hcell 0 (by omega),hcell 1 (by omega),I64.of_wf w0,I64.of_wf w1⟩
theorem Qw:Kn prog enc W base spare held 42 2 Bz:=by
 intro fuel cs x h hw hz b o hcell;obtain⟨y0,y1,n,rfl,hl,h0,h1⟩:=trod_struct2 underlying42 h;rw[Fs] at hl
 match cs,hl with
 | [c0,c1],_=>
  simp only[lE,aCO,aCP,aCQ,aCR] at h0 h1;obtain⟨n0,e0,_,w0⟩:=DataW.trod_int underlying3 h0;obtain⟨n1,e1,_,w1⟩:=DataW.trod_int underlying3 h1;simp only[List.cons.injEq,and_true] at e0 e1;subst e0 e1;exact⟨⟨n0,n1⟩,hcell 0 (by omega),hcell 1 (by omega),I64.of_wf w0,I64.of_wf w1⟩
theorem Ob {fuel:Nat} {v:Value} {x:DataW H × List MemPlace} (h:DataW.trod enc prog W base spare held fuel 26 [v]=some x) (hw:∀ n∈x.1.weights prog 26,n<=reachBytes) (hz:W.noneFrozen x.2):∃ xs,aU W v xs:=
 xN underlying26 Fr (by omega) Sm Ny h hw hz
theorem Qz {fuel:Nat} {v:Value} {x:DataW H × List MemPlace} (h:DataW.trod enc prog W base spare held fuel 38 [v]=some x) (hw:∀ n∈x.1.weights prog 38,n<=reachBytes) (hz:W.noneFrozen x.2):∃ xs,bJ W v xs:=
 xN underlying38 Fs (by omega) Sn Qw h hw hz
theorem Jh {fuel:Nat} {cs:List Value} {x:DataW H × List MemPlace} (h:DataW.trod enc prog W base spare held fuel 28 cs=some x) (hw:∀ n∈x.1.weights prog 28,n<=reachBytes) (hz:W.noneFrozen x.2):∃ r,Xi W cs r:=by
 obtain⟨y0,y1,y2,y3,y4,n,rfl,hl,h0,h1,h2,h3,h4⟩:=Kt underlying28 h;rw[wP] at hl
 match cs,hl with
 | [c0,c1,c2,c3,c4],_=>
  simp only[lE,Se,aCO,aCP,aCQ,aCR] at h0 h1 h2 h3 h4;obtain⟨n0,e0,_,w0⟩:=DataW.trod_int underlying3 h0;obtain⟨n1,e1,_,w1⟩:=DataW.trod_int underlying3 h1;obtain⟨n2,e2,_,w2⟩:=DataW.trod_int underlying3 h2;obtain⟨n3,e3,_,w3⟩:=DataW.trod_int underlying3 h3;simp only[List.cons.injEq,and_true] at e0 e1 e2 e3;subst e0 e1 e2 e3;obtain⟨xs,hxs⟩:=Ob h4 (fun k hk=>hw k (by
   simp only[DataW.weights,underlying28,aCu,aCS,DataW.weightsEach,aBm];exact .inr (.inr (.inr (.inr (.inl hk)))))) (sX hz fun p hp=>by simp[hp])
  exact⟨⟨n0,n1,n2,n3,xs⟩,_,rfl,hxs,I64.of_wf w0,I64.of_wf w1,I64.of_wf w2,I64.of_wf w3⟩
end
open Go.RowKit Go.ChangeShapes Go.WideShapes Go.Deep
theorem Ft:prog.cellsOf 40=7:=by kernel_rfl
theorem So:8<=prog.bytesOf 40:=of_decide_eq_true (by kernel_rfl)
theorem Sc:prog.cellsOf 38=1:=by kernel_rfl
section
variable {H:Type} {enc:TypeId × Value->H} {W:World} {base:Nat} {spare:Nat->Bool} {held:Bool}
theorem Qv:Kn prog enc W base spare held 40 7 iR:=by
 intro fuel cs x h hw hz b o hcell;obtain⟨y0,y1,y2,n,rfl,hl,h0,h1,h2⟩:=trod_struct3 underlying40 h;rw[Ft] at hl
 match cs,hl with
 | [c0,c1,c2,c3,c4,c5,c6],_=>
  simp only[lE,wP,Sc,aCO,aCP,aCQ,aCR] at h0 h1 h2;obtain⟨n0,e0,_,w0⟩:=DataW.trod_int underlying3 h0;simp only[List.cons.injEq,and_true] at e0;subst e0;obtain⟨r,hr⟩:=Jh h1 (fun k hk=>hw k (by
   simp only[DataW.weights,underlying40,aCu,aCS,DataW.weightsEach,aBm];exact .inr (.inl hk))) (sX hz fun p hp=>by simp[hp])
  obtain⟨xs,hxs⟩:=Qz h2 (fun k hk=>hw k (by
   simp only[DataW.weights,underlying40,aCu,aCS,DataW.weightsEach,aBm];exact .inr (.inr (.inl hk)))) (sX hz fun p hp=>by simp[hp])
  refine⟨⟨n0,r,xs⟩,_,⟨_,c6,rfl,hr,hxs,I64.of_wf w0⟩,fun j u hj=>?_⟩;have hlt:j < 7:=by have:=(aBD.1 hj).1;simpa using this
  rw[hcell j hlt];exact hj
theorem Qy {fuel:Nat} {v:Value} {x:DataW H × List MemPlace} (h:DataW.trod enc prog W base spare held fuel 23 [v]=some x) (hw:∀ n∈x.1.weights prog 23,n<=reachBytes) (hz:W.noneFrozen x.2):∃ xs,bD W v xs:=
 xN underlying23 Ft (by omega) So Qv h hw hz
end
theorem Bd {α:Type}:∀ (css:List (List α)),(∀ cs∈css,cs.length=7)->∀ k j,j < 7->css.flatten[k*7+j]?=(css[k]?).bind (fun cs=>cs[j]?)
 | [],_,k,j,_=>by simp
 | cs::css,h,k,j,hj=>by
  have h1:=h cs (aCw ..);rw[aCT];cases k with
  | zero=>
   rw[aBR,aBE,aCI (by omega)];rfl
  | succ k=>
   rw[aCJ (by omega),h1,show (k+1)*7+j - 7=k*7+j by omega,Bd css (fun c hc=>h c (aBl _ hc)) k j hj];rfl
theorem gU {α:Type}:∀ (css:List (List α)),(∀ cs∈css,cs.length=7)->css.flatten.length=css.length*7
 | [],_=>rfl
 | cs::css,h=>by
  rw[aCT,aBk,h cs (aCw ..),gU css (fun c hc=>h c (aBl _ hc)),aBB];omega
structure fF (w:World) (css:List (List Value)) (b:List aT):Prop where
 len:css.length=b.length
 each:∀ (k:Nat) (cs:List Value) (x:aT),css[k]?=aC cs->b[k]?=aC x->fE w cs x
theorem uW {w:World} {cs:List Value} {x:aT} (h:fE w cs x):cs.length=7:=by
 obtain⟨qs,bv,rfl,⟨pv,rfl,_⟩,_⟩:=h;rfl
theorem Ww {w:World} {cs:List Value} {x:aT} (h:fE w cs x):∀ u∈cs,u.oneCell'=true:=by
 obtain⟨qs,bv,rfl,⟨pv,rfl,hp,_⟩,hb,_⟩:=h;obtain⟨a,c,rfl,_⟩:=hp.form;obtain⟨a2,c2,rfl,_⟩:=hb.form;simp[Value.oneCell']
theorem fF.seven {w:World} {css:List (List Value)} {b:List aT} (h:fF w css b):∀ cs∈css,cs.length=7:=fun cs hc=>by
 obtain⟨k,hk⟩:=aCU.1 hc;have hkl:=(aBD.1 hk).1;obtain⟨x,hx⟩:=bT (f:=b) (k:=k) (by rw[<- h.len];exact hkl);exact uW (h.each k cs x hk hx)
theorem fF.one {w:World} {css:List (List Value)} {b:List aT} (h:fF w css b):∀ u∈css.flatten,u.oneCell'=true:=fun u hu=>by
 obtain⟨cs,hc,hu⟩:=List.mem_flatten.1 hu;obtain⟨k,hk⟩:=aCU.1 hc;have hkl:=(aBD.1 hk).1;obtain⟨x,hx⟩:=bT (f:=b) (k:=k) (by rw[<- h.len];exact hkl);exact Ww (h.each k cs x hk hx) u hu
theorem fF.mono {w w':World} {css:List (List Value)} {b:List aT} (h:fF w css b) (hx:Ext w w'):fF w' css b:=
 ⟨h.len,fun k cs x h1 h2=>(h.each k cs x h1 h2).mono hx⟩
theorem fF.append {w:World} {css dss:List (List Value)} {b c:List aT} (h:fF w css b) (g:fF w dss c):fF w (css++dss) (b++c):=by
 refine⟨by rw[aBk,aBk,h.len,g.len],fun k cs x h1 h2=>?_⟩;by_cases hk:k < css.length
 ·rw[aCI hk] at h1;rw[aCI (by rw[<- h.len];exact hk)] at h2;exact h.each k cs x h1 h2
 ·rw[aCJ (by omega)] at h1;rw[aCJ (by rw[<- h.len];omega),<- h.len] at h2;exact g.each _ cs x h1 h2
theorem Pf {w:World} {a:Option Addr} {z c:Nat} {b:List aT} (h:bD w (aE a z c) b):∃ css,fF w css b/\(1<=b.length->∃ ad,a=aC ad/\∀ j u,css.flatten[j]?=aC u->w.cell? (ad.add j)=aC u):=by
 rcases h with ⟨rfl,_⟩ | ⟨b0,off,cap,e,h1,h2,h3,⟨h4,_⟩,h5⟩
 ·exact⟨[],⟨rfl,fun k cs x h=>by simp at h⟩,fun h=>by simp at h⟩
 ·cases e;have each:∀ i,i < b.length->∃ cs:List Value,∀ x,b[i]?=aC x->fE w cs x/\∀ (j:Nat) u,cs[j]?=aC u->w.cell? ⟨b0,off+i*7+j,aD⟩=aC u:=fun i hi=>by
   obtain⟨x,hx⟩:=bT (f:=b) (k:=i) hi;obtain⟨cs,hc1,hc2⟩:=h5 i x hx;exact⟨cs,fun y hy=>by rw[hx] at hy;cases hy;exact⟨hc1,hc2⟩⟩
  obtain⟨f,hf⟩:=choose_lt (α:=List Value) (p:=fun i cs=>∀ x,b[i]?=aC x->fE w cs x/\∀ (j:Nat) u,cs[j]?=aC u->w.cell? ⟨b0,off+i*7+j,aD⟩=aC u) each;have hget:∀ k cs,((List.range b.length).map f)[k]?=aC cs->k < b.length/\cs=f k:=fun k cs hk=>by
   rw[aCL] at hk;by_cases hkl:k < b.length
   ·rw[aCN hkl] at hk;exact⟨hkl,by simpa using hk.symm⟩
   ·rw[aBZ (by simpa using hkl)] at hk;cases hk
  have hC:fF w ((List.range b.length).map f) b:=⟨by simp,fun k cs x h1 h2=>by
   obtain⟨hk,rfl⟩:=hget k cs h1;exact(hf k hk x h2).1⟩
  refine⟨_,hC,fun _=>⟨_,rfl,fun j u hj=>?_⟩⟩;have e:j=j / 7*7+j % 7:=by omega
  rw[e,Bd _ hC.seven (j / 7) (j % 7) (by omega)] at hj;cases hc:((List.range b.length).map f)[j / 7]? with
  | none=>rw[hc] at hj;cases hj
  | some cs=>
   rw[hc] at hj;obtain⟨hk,rfl⟩:=hget _ cs hc;obtain⟨x,hx⟩:=bT (f:=b) (k:=j / 7) hk;have:=(hf _ hk x hx).2 (j % 7) u hj;rw[kN]
   rwa [show off+j / 7*7+j % 7=off+j by omega] at this
theorem Ie {w:World} {base T:Nat} {v:Value} {css:List (List Value)} {b:List aT} (h:w.ownsRow base T 7 v b.length css.flatten) (hc:fF w css b) (hn:b.length<=12):bD w v b:=by
 rcases h.2 with ⟨rfl,h0⟩ | ⟨g,cap,cur,rfl,hb,hg,hcp,hm,hcs,htk⟩
 ·exact .inl ⟨aBC h0,aD,0,rfl,by omega⟩
 ·refine .inr ⟨g,0,cap,rfl,hcp,by unfold maxLen at hm;omega,by omega,mS.row hg,fun k x hk=>?_⟩;have hkb:=(aBD.1 hk).1;obtain⟨cs,hcs'⟩:=bT (f:=css) (k:=k) (by rw[hc.len];exact hkb);refine⟨cs,hc.each k cs x hcs' hk,fun j u hj=>?_⟩;have h7:=hc.seven cs (aBJ hcs');have hj7:j < 7:=by have:=(aBD.1 hj).1;omega
  have e:css.flatten[k*7+j]?=aC u:=by rw[Bd css hc.seven k j hj7,hcs'];exact hj
  have:=h.cells (g:=g) rfl (k*7+j) u e;rw[kN] at this
  rwa [show 0+(k*7+j)=0+k*7+j by omega] at this
theorem Zm {w:World} {ad:Addr} {m c:Nat} {b:List aT} (h:bD w (aE (aC ad) m c) b) (hm:b.length=m):∃ css,fF w css b/\css.flatten.length=m*7/\∀ j u,css.flatten[j]?=aC u->w.cell? (ad.add j)=aC u:=by
 obtain⟨css,h1,h2⟩:=Pf h;refine⟨css,h1,by rw[gU css h1.seven,h1.len,hm],fun j u hj=>?_⟩;by_cases h0:1<=b.length
 ·obtain⟨ad',e,h3⟩:=h2 h0;cases e;exact h3 j u hj
 ·have:css=[]:=aBC (by rw[h1.len];omega);subst this;simp at hj
theorem Yj (W:World) (cs:List Value) (T:TypeId) (h:cs.length=7):(W.alloc (.cells cs.toArray T)).ownsRow W.heap.size T 7 (aE (aC ⟨W.heap.size,0,aD⟩) 1 1) 1 cs:=
 ⟨by omega,.inr ⟨W.heap.size,1,cs.toArray,rfl,aBq _,heap_alloc_new W _,aBq _,by decide,by simp[h],by simp[h,aCM]⟩⟩
theorem iK {w:World} {base e sz n:Nat} {v:Value} {xs:List Value} (h:w.ownsRow base e sz v n xs) (hn:1<=n):∃ g cap,v=aE (aC ⟨g,0,aD⟩) n cap:=by
 rcases h.2 with ⟨_,h0⟩ | ⟨g,cap,_,rfl,_⟩
 ·omega
 ·exact⟨g,cap,rfl⟩
theorem Cc {P:Program} {ops:Array Oper} {o:Oper} {a:Act} {w:World} {K:Act->World->Prop} {Q:Exit->Act->World->Prop} {E:Prop} (hgd:o.guard=aD) (s x:Operand) (t:TypeId)
  (ho:o.op=.call { callee:=.builtin .append,args:=#[s,x],argTypes:=#[t,t]})
  (base:Nat) (e:TypeId) (i:TypeInfo) (z:Value) (size bytes:Nat) (ht:P.underlying t=aC (.slice e)) (hi:P.info? e=aC i) (hz:i.zero=aC z)
  (hsize:i.size=size) (hby:i.bytes=bytes) (hzs:z.cells.size=size) (hsz:0 < size)
  (v:Value) (n:Nat) (xs:List Value) (hs:a.eval s=v) (hown:w.ownsRow base e size v n xs)
  (ad:Addr) (m c:Nat) (news:List Value) (hx:a.eval x=aE (aC ad) m c) (hl:news.length=m*size) (hnews:∀ j u,news[j]?=aC u->w.cell? (ad.add j)=aC u) (h1:∀ u∈news,u.oneCell'=true)
  (h63:n+m<=maxLen) (hbytes:(n+m)*bytes<=140737488355328) (hbase:base<=w.heap.size)
  (h:∀ v' w',w'.ownsRow base e size v' (n+m) (xs++news)->w.grownBy w' v.ownBlock->K (a.put o.dst v') w') :
  if Region.wanted o (yielded ops a.tmps)=true then Oper.wp P o a w K Q else E:=by
 have hw:Region.wanted o (yielded ops a.tmps)=true:=by simp[Region.wanted,hgd]
 rw[if_pos hw];exact wp_append_own w s x t ho base e i z size bytes ht hi hz hsize hby hzs hsz v n xs hs hown ad m c news hx hl hnews h1 h63 hbytes hbase fun v' w' h2 h3 _=>h v' w' h2 h3
theorem eG {w w':World} (hx:Ext w w') {a:Addr} {v:Value} (h:w.cell? a=aC v):w'.cell? a=aC v:=by
 rw[hx.cell (aBx w a h)];exact h
theorem info40:(prog.info? 40).map (fun i=>(i.zero,i.size,i.bytes))=aC (aC (.agg #[aA aB 0,aA aB 0,aA aB 0,aA aB 0,aA aB 0,aE aD 0 0,aE aD 0 0]),7,88):=by kernel_rfl
end Go.Proofs.YtdcndkojmflhnaaGreat
