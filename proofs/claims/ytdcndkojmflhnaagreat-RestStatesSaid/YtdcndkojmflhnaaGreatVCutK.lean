import Derived.Test.YtdcndkojmflhnaaGreatVCutG
import Derived.Test.YtdcndkojmflhnaaGreatVTick
import Derived.Laws.BytesArg
import Derived.Defers
import Derived.Recover
import Derived.Lib.Strings
set_option linter.unusedVariables false
set_option linter.unusedSimpArgs false
set_option maxRecDepth 100000
set_option maxHeartbeats 8000000
namespace Go.Proofs.YtdcndkojmflhnaaGreat
open _root_.Go.Proofs.Tryz
open Go.RowKit
open List renaming getElem_toArray->zA,getElem_cons_zero->zB,getElem_cons_succ->zC
open Go.Value renaming slice->aE,int->aA,ownBlock->aCZ,oneCell'->aBz,pointer->aDM
open _root_.Option renaming some->aC,none->aD
open _root_.Nat renaming le_refl->aBq,sub_self->aCp,zero_le->aBO,lt_of_lt_of_le->aBA,lt_or_ge->aBK
open _root_.List renaming length_take->aCH,getElem?_append_right->aCJ,getElem?_cons_succ->aDz,getElem?_drop->aBN,getElem?_eq_some_iff->aBD,drop_eq_getElem_cons->aDG,set_append_right->aDH,take_add_one->aD6,mem_append_left->aD1,mem_singleton->aCB,mem_cons->aC8,not_mem_nil->aCj,mem_append->aBm,mem_append_right->aD2,length_pos_iff->aD4,mem_cons_self->aCw,append_nil->aBi,drop_zero->aCO,mem_of_getElem?->aBJ,drop_eq_nil_of_le->aDI,mem_of_mem_drop->aDb,length_drop->aDc,length_append->aBk,length_eraseIdx_of_lt->aDk,map_append->aCE,length_map->aCC,any_append->aDJ,getElem?_map->aCL,take_of_length_le->aCM,flatMap_cons->aDK,length_cons->aBB,length_nil->aCa,flatMap_append->aDL,append_assoc->aDm,getElem?_eq_getElem->aBu,take_succ_cons->aCQ
open Go.IntKind renaming i64->aB
open Go.World renaming size_alloc->aCl,ownsRow_nil->aBV,setCell->aCX,cell?_setCell_other->aDN,frozen?_setCell->aDO,cell?_setCell_same->aDP
open _root_.Array renaming getElem?_eq_some_iff->aBy
open _root_.Int renaming toNat_of_nonneg->aCr
theorem Yi (W:World) (cs:List Value) (h:cs.length=7):(W.alloc (.cells cs.toArray 40)).ownsRow W.heap.size 40 7 (aE (aC ⟨W.heap.size,0,aD⟩) 1 1) 1 cs:=
 ⟨by rw[h],.inr ⟨W.heap.size,1,cs.toArray,rfl,aBq _,heap_alloc_new W _,aBq _,by decide,by simp[h],by simp[<- h]⟩⟩
theorem kY.ext {W W':World} {g o:Nat} {x:aT} {pv bv:Value} (h:kY W g o x pv bv) (hx:Ext W W'):kY W' g o x pv bv:=
 ⟨hx.ce' h.1,hx.ce' h.2.1,hx.ce' h.2.2.1,hx.ce' h.2.2.2.1,hx.ce' h.2.2.2.2.1,hx.ce' h.2.2.2.2.2.1,hx.ce' h.2.2.2.2.2.2⟩
theorem aAU {A:List aT} {j:Nat} {x y:aT} (hj:j<=A.length) (hy:A[j]?=aC y):(A.take j++x::A.drop j)[j]?=aC x/\(A.take j++x::A.drop j)[j+1]?=aC y:=by
 have h:(A.take j).length=j:=by rw[aCH];omega
 refine⟨?_,?_⟩
 ·rw[aCJ (by omega),h,aCp];rfl
 ·rw[aCJ (by omega),h,show j+1 - j=1 by omega,aDz,aBN];exact hy
theorem Yr {A:List aT} {j:Nat} {x y:aT} (hj:j < A.length) (hy:A[j]?=aC y):((A.take j++x::A.drop j).set j y).set (j+1) x=A.take (j+1)++x::A.drop (j+1):=by
 have h:(A.take j).length=j:=by rw[aCH];omega
 obtain⟨_,he⟩:=aBD.1 hy;rw[aDG hj,he,aDH _ _ (by omega),aDH _ _ (by omega),h,aCp,show j+1 - j=1 by omega,aD6,hy];simp
theorem dJ.placed {w0 W W4 W5:World} {X gq qc gb cap g2 q cap2 vb vo vc:Nat} {c nx n:Int} {l:List Queue} {A b:List aT} {m d:List Int} {va vm vd pv bv:Value} {x:aT} {LB:List bO} (h:dJ w0 X gq qc gb cap c nx l A va b m d vm vd W) (hx:Ext W W4)
  (hbc:fE W [aA aB x.Id,aA aB x.aP.aG,aA aB x.aP.aI,aA aB x.aP.aH,aA aB x.aP.aJ,pv,bv] x) (hap:∀ s∈([aA aB x.Id,aA aB x.aP.aG,aA aB x.aP.aI,aA aB x.aP.aH,aA aB x.aP.aJ,pv,bv]:List Value),∀ a n c,s=aE (aC a) n c->a.block < W.heap.size/\a.block≠gb/\w0.heap.size<=a.block/\a.block∉vm.ownBlock.toList++(vd.ownBlock.toList++(va.ownBlock.toList++[X]))/\∀ r,(aE (aC ⟨gq,0,aD⟩) l.length qc).ownBlock=aC r->a.block≠r)
  (hbv:bJ W4 (aE (aC ⟨vb,vo,aD⟩) LB.length vc) LB) (hne:LB≠[]) (hvf:W.heap.size<=vb) (hg:(W4.alloc (.cells #[aA aB n] 3)).grownBy W5 vm.ownBlock) (hlie:vm.ownBlock=aC g2\/g2=W4.heap.size+1) :
  fE W5 [aA aB x.Id,aA aB x.aP.aG,aA aB x.aP.aI,aA aB x.aP.aH,aA aB x.aP.aJ,pv,aE (aC ⟨vb,vo,aD⟩) LB.length vc] ⟨x.Id,x.aP,LB⟩/\∀ s∈([aA aB x.Id,aA aB x.aP.aG,aA aB x.aP.aI,aA aB x.aP.aH,aA aB x.aP.aJ,pv,aE (aC ⟨vb,vo,aD⟩) LB.length vc]:List Value),∀ a n c,s=aE (aC a) n c->a.block < W5.heap.size/\w0.heap.size<=a.block/\a.block∉(aE (aC ⟨g2,0,aD⟩) q cap2).ownBlock.toList++(vd.ownBlock.toList++(va.ownBlock.toList++[X]))/\∀ r,(aE (aC ⟨gq,0,aD⟩) l.length qc).ownBlock=aC r->a.block≠r:=by
 have hal:=(Ext.rf W4).al (.cells #[aA aB n] 3);have hvl:vb < W4.heap.size:=Cp hbv hne ⟨vb,vo,aD⟩ _ _ rfl;have hs4:=hx.size;have hs5:W4.heap.size+1<=W5.heap.size:=by have:=hg.size;rwa [aCl] at this
 have hvm:∀ r,vm.ownBlock=aC r->w0.heap.size<=r/\r < W.heap.size:=fun r hr=>h.mrow.lt r hr;have hold:=h.old;have hgq:=h.ne.1.2.2.2.2.2;have hlow:=h.ext.size;obtain⟨hp,hb,hi,hid⟩:=dY hbc;refine⟨⟨_,_,rfl,⟨_,rfl,jW (hp.mono (hx.tr hal)) hg ?_,hi⟩,jW (hbv.mono hal) hg ?_,hid⟩,fun s hs a n' c' e=>?_⟩
 ·intro a n' c' e hk;exact(hap pv (by simp) a n' c' e).2.2.2.1 (aD1 _ (by rw[<- hk];exact aCB.2 rfl))
 ·intro a n' c' e hk;cases e;have h4:vb < W.heap.size:=(hvm _ hk.symm).2;omega
 ·have hgx:∀ k,k∈(aE (aC ⟨g2,0,aD⟩) q cap2).ownBlock.toList->vm.ownBlock=aC k\/k=W4.heap.size+1:=fun k hk=>by
   have e2:k=g2:=by simpa[aCZ] using hk
   rw[e2];exact hlie
  have hcase:s=pv\/s=aE (aC ⟨vb,vo,aD⟩) LB.length vc:=by
   rw[e] at hs ⊢;simp only[aC8,aCj,or_false,reduceCtorEq,false_or] at hs;exact hs
  rcases hcase with h1 | h1
  ·obtain⟨p1,p2,p3,p4,p5⟩:=hap s (by rw[h1];simp) a n' c' e;refine⟨by omega,p3,fun hm=>?_,p5⟩;rcases aBm.1 hm with h2 | h2
   ·rcases hgx _ h2 with h3 | h3
    ·exact p4 (aD1 _ (by rw[h3];exact aCB.2 rfl))
    ·omega
   ·exact p4 (aD2 _ h2)
  ·rw[h1] at e;cases e;refine⟨by show vb < _;omega,by show _<=vb;omega,fun hm=>?_,fun r hr=>?_⟩
   ·rcases aBm.1 hm with h2 | h2
    ·rcases hgx _ h2 with h3 | h3
     ·have:=(hvm _ h3).2;have h4:vb < W.heap.size:=this;omega
     ·have h4:vb=W4.heap.size+1:=h3;omega
    ·have:=hold _ (aD2 _ h2);have h4:vb < W.heap.size:=this;omega
   ·have h4:gq=r:=by simpa[aCZ] using hr
    show vb≠r;omega
theorem Wy {W:World} {g k:Nat} {css:List (List Value)} {y:aT} {pv bv:Value} (q2:∀ cs∈css,cs.length=7) (q5:∀ (j:Nat) v,css.flatten[j]?=aC v->W.cell? ⟨g,j,aD⟩=aC v)
  (hcs:css[k]?=aC [aA aB y.Id,aA aB y.aP.aG,aA aB y.aP.aI,aA aB y.aP.aH,aA aB y.aP.aJ,pv,bv]):kY W g (k*7) y pv bv:=by
 have h:∀ (j:Nat) v,j < 7->([aA aB y.Id,aA aB y.aP.aG,aA aB y.aP.aI,aA aB y.aP.aH,aA aB y.aP.aJ,pv,bv]:List Value)[j]?=aC v->W.cell? ⟨g,k*7+j,aD⟩=aC v:=fun j v hj hv=>q5 _ _ (by rw[Bd css q2 k j hj,hcs];exact hv);exact⟨h 0 _ (by omega) rfl,h 1 _ (by omega) rfl,h 2 _ (by omega) rfl,h 3 _ (by omega) rfl,h 4 _ (by omega) rfl,h 5 _ (by omega) rfl,h 6 _ (by omega) rfl⟩
theorem Uz {css:List (List Value)} {k:Nat} {cs:List Value} (h:css[k]?=aC cs):(css.take (k+1)).flatten=(css.take k).flatten++cs:=by
 rw[aD6,h,List.flatten_append];simp
theorem Io (w:World) (tv bv rv:Value) (s:aV) (k:Nat) (f:List Run) (hl:aX w tv s.aN) (hb:bD w bv s.aK) (hr:bC w rv f) (h0:aZ s=0) (h1:k < s.aN.length) (h2:fK f) :
  Calls prog 48 #[.agg #[aA aB s.aL,aA aB s.aM,tv,bv],aA aB (k:Int),rv] w (gV w (dK s (k:Int) f)):=by
 have F:=hid (fun(W:World) (h:Ext w W)=>cI W tv bv s (hl.mono h) (hb.mono h));have CF:=hid (fun(W:World) (h:Ext w W)=>nQ W rv f (hr.mono h));have WI:=hid (fun W=>cE (k:Int) 0 ((s.aN.length:Int) - 1) W (by omega) (by omega));obtain⟨ok,h12,hbok⟩:=iI h0;have OW:=hid (fun(W:World) (h:Ext w W)=>lU W tv bv s (hl.mono h) (hb.mono h) ok h12 hbok);obtain⟨wb,hwb,HX,HSS,HZZ,hszb⟩:=eD w s tv bv;have HX0:=hid HX;have HS0:=hid HSS;have HZ0:=hid HZZ;have HWB:=hid hwb;have HSB:=hid hszb;clear HX HSS HZZ hwb hszb;have HR:=hid (Fm h0 h1 h2);have H0:=hid h0;have H2:=hid h2;have HK:=hid h1;have HOK:=hid hbok;rw[h0] at F;rw[deT h2] at CF;obtain⟨qa,qc0,rfl,_,_,_⟩:=hl.form;obtain⟨ba,bc,rfl,_,_,_⟩:=hb.form;have hfl48:=Ke h2;obtain⟨fb,fo,fc,rfl,hrc,hrb,hrE⟩:=zM hr (yH h2);have HRN:=hid (mK hrE);have HRB:=hid hrb;have HI2:=hid (show ∀ y∈f,I64 y.At/\I64 y.N from fun y hy=>by
  obtain⟨i,hi⟩:=List.mem_iff_getElem?.1 hy;obtain⟨_,_,i1,i2⟩:=hrE i y hi;exact⟨i1,i2⟩)
 have HLN:=hid (gC Run.At Run.N f);have hq5:decide ((k:Int) < 0)=false:=deF (by omega);clear hl hb hr h0 h2 hrE hrb;generalize dK s (k:Int) f=cr at *;generalize hqn:s.aN.length=n at *;generalize hbz:s.aK.length=z at *;generalize hfl:f.length=fl at *;have HQN:=hid hqn;have HBZ:=hid hbz;have HFL:=hid hfl;clear hqn hbz hfl;go_enter func48,ntmps48
 go_wp2_with fail
 rw[HWB.out];refine(F.out _ HX0.out).mono ?_;rintro e w2 ⟨rfl,hx2⟩;obtain⟨a0,a1,a2,a3⟩:=HS0.out w2 hx2;have HXB2:=hid hx2;clear hx2
 go_wp2_with fail
 refine(WI.out _).mono ?_;rintro e w3 ⟨rfl,hw3⟩;obtain rfl:=hw3.symm;clear a0 a1 a2 a3
 go_wp2_with fail
 refine(CF.out _ (HX0.out.tr HXB2.out)).mono ?_;rintro e w3 ⟨rfl,hx3⟩;obtain⟨a0,a1,a2,a3⟩:=HS0.out w3 (HXB2.out.tr hx3);have HXB3:=hid (HXB2.out.tr hx3);have HX3:=hid (HX0.out.tr HXB3.out);clear hx3
 go_wp2_with fail
 refine(OW.out _ HX3.out).mono ?_;rintro e w7 ⟨u7,v7,rfl,hO7,hx7⟩;clear a0 a1 a2 a3;obtain⟨gq,qc,rfl,hgB,hgs⟩:=hO7.uform;obtain⟨ra,rc,rfl,hrw⟩:=hO7.vform;rw[HBZ.out] at hO7 hrw ⊢;rw[HQN.out] at hO7 ⊢
 go_wp2_with fail
 obtain⟨W8,hW8⟩:∃ W8,w7.alloc (.cells #[aA aB s.aL,aA aB s.aM,aE (aC ⟨gq,0,aD⟩) n qc,aE ra z rc] 25)=W8:=⟨_,rfl⟩;have hx8:Ext w7 W8:=hW8▸(Ext.rf w7).al _;have hb8:W8.heap[w7.heap.size]?=aC (.cells #[aA aB s.aL,aA aB s.aM,aE (aC ⟨gq,0,aD⟩) n qc,aE ra z rc] 25 (0,0)):=hW8▸heap_alloc_new w7 _;rw[hW8];have hO8:cP [w7.heap.size] wb.heap.size W8 (aE (aC ⟨gq,0,aD⟩) n qc) (aE ra z rc) s.aN s.aK:=((hO7.low (B2:=wb.heap.size) HXB3.out.size (fun r hr=>hr)).box (r:=w7.heap.size) (aBq _)).ext hx8;have HO8:=hid hO8;have HB8:=hid hb8;have HX8:=hid (HX3.out.tr (hx7.tr hx8));have HXB8:=hid (HXB3.out.tr (hx7.tr hx8));have HX78:=hid hx8;have HGQ:=hid (And.intro hgB hgs);have HS3:=hid (And.intro HX3.out.size hx7.size);have HRW:=hid hrw;obtain⟨ir,ir1,ir2,ir3,ir4⟩:=info_parts info48;clear hO8 hb8 hx7 hx8 hO7 hW8 hgB hgs hrw;have e2:W8.cell? ⟨w7.heap.size,2,aD⟩=aC (aE (aC ⟨gq,0,aD⟩) n qc):=cell_of_row _ _ 2 _ _ _ HB8.out;refine dF 8 (fun W=>W.cell? ⟨w7.heap.size,2,aD⟩=aC (aE (aC ⟨gq,0,aD⟩) n qc)) (by kernel_rfl) e2 (fun hHeld=>?_);clear e2;refine tkT 0 ?_;refine tkT 1 ?_;refine tkT 2 ?_;refine tkT 4 ?_;refine dG (i:=3) (by kernel_rfl) rfl (fun K hK=>?_);simp only[zA,zB,zC];go_simp;obtain⟨W9,hW9⟩:∃ W9,(W8.alloc (.cells #[] 48)).drew=W9:=⟨_,rfl⟩;rw[hW9];have hx89:Ext W8 W9:=hW9▸((Ext.rf W8).al _).dr;have hs9:W9.heap.size=W8.heap.size+1:=by rw[<- hW9];exact aCl ..
 have how9:W9.ownsRow W8.heap.size 48 2 (aE (aC ⟨W8.heap.size,0,aD⟩) 0 0) 0 []:=hW9▸bE (jY W8 _ 2 (by omega)) (Ext.rf _).dr;refine hK.out _ _ ?_ (fun hHeld=>?_)
 ·(exact cell_of_row _ _ 2 _ _ _ (aW HB8.out hx89))
 clear hK K;refine dG (i:=5) (by kernel_rfl) rfl (fun K hK=>?_);simp only[zA,zB,zC];refine wp_append_own _ _ _ _ (by rfl) W8.heap.size 48 ir _ 2 16 underlying29 ir1 ir2 ir3 ir4 rfl (by decide) (aE (aC ⟨W8.heap.size,0,aD⟩) 0 0) 0 [] (by rfl) how9 ⟨fb,fo,aD⟩ fl fc (cF Run.At Run.N f) (by rfl) HLN.out (fun j u hj=>eG (HX8.out.tr hx89) (HRN.out j u hj)) (oN _) (by unfold maxLen;omega) (by omega) (by omega) (fun v1 W10 hown1 hgrow1 hnil1=>?_);rw[Nat.zero_add,List.nil_append] at hown1;obtain⟨g1,c1,rfl⟩:=iK hown1 (by have:=aD4.2 (yH H2.out);rw[HFL.out] at this;omega);have hx90:Ext W8 W10:=hx89.gr hgrow1 (fun r hr=>by cases hr;exact aBq _);refine hK.out _ _ ?_ (fun hHeld=>?_)
 ·(exact cell_of_row _ _ 2 _ _ _ (aW HB8.out hx90))
 clear hK K;have hO10:=HO8.out.ext hx90;rw[<- HQN.out] at hO10;obtain⟨⟨old,k0⟩,f0⟩:=hO10.qcell (k:=k) (by rw[HQN.out];exact HK.out);refine tkT 6 ?_;refine tkT 7 ?_;have hg1:=eU hown1 g1 rfl;have hcv:bC W10 (aE (aC ⟨g1,0,aD⟩) fl c1) f:=cG (base:=W8.heap.size) (e:=48) (by rw[HFL.out];exact hown1) HI2.out (by rw[HFL.out];omega);have hrb:∀ r,(aE ra z rc).ownBlock=aC r->r < w7.heap.size:=fun r hr=>(HRW.out r hr).2;have hO11:=hO10.setC (k:=k) (by rw[HQN.out];exact HK.out) hcv (yH H2.out) (fun a m c e hm=>by
  cases e;have h3:=HXB8.out.size;have h4:=(aBy.1 HB8.out).1;have h5:=HGQ.out.2;have h6:=HX78.out.size;simp only[aC8,aBm,aCj,or_false,Option.mem_toList] at hm;rcases hm with hm | hm | hm | hm
  ·omega
  ·have:=hrb _ hm;omega
  ·omega
  ·have:=kH hm;omega)
 rw[HQN.out] at hO11;have hb11:(W10.setCell ⟨gq,k*3+2,aD⟩ (aE (aC ⟨g1,0,aD⟩) fl c1)).heap[w7.heap.size]?=aC (.cells #[aA aB s.aL,aA aB s.aM,aE (aC ⟨gq,0,aD⟩) n qc,aE ra z rc] 25 (0,0)):=by
  rw[heap_setCell_other W10 ⟨gq,k*3+2,aD⟩ _ _ (by show w7.heap.size≠gq;have:=HGQ.out.2;omega)];exact aW HB8.out hx90
 have hx11:Ext wb (W10.setCell ⟨gq,k*3+2,aD⟩ (aE (aC ⟨g1,0,aD⟩) fl c1)):=(HXB8.out.tr hx90).se (b:=gq) (o:=k*3+2) (by have:=HGQ.out.1;have:=HXB3.out.size;omega) _;have HO11:=hid hO11;have HB11:=hid hb11;have HX11:=hid hx11;clear hO10 hO11 hb11 hx11 hcv hown1 hgrow1 hnil1 hHeld hx89 hx90 hs9 how9 HO8 hg1;refine eM (t:=8) (by kernel_rfl) rfl (by kernel_rfl) (fun K hK=>?_);simp only[zA,zB,zC];go_simp;refine hK.out _ _ ?_;clear hK K;generalize W10.setCell ⟨gq,k*3+2,aD⟩ (aE (aC ⟨g1,0,aD⟩) fl c1)=W11 at *;have hXl:wb.heap.size<=w7.heap.size:=by have:=HXB3.out.size;have:=HS3.out.2;omega
 have HOKT:=hid (Dd (q:=k) (eF (cS (cL H0.out).1).1).2.1 H2.out);have hcl:=(cS (cL H0.out).1).2.1;have HCL:=hid (show 0<=s.aL/\s.aL<=48 from ⟨hcl.1,hcl.2.1⟩);clear k0 f0;rcases Nat.eq_zero_or_pos z with hz0 | hz0
 ·have hbn:s.aK=[]:=List.eq_nil_of_length_eq_zero (by rw[HBZ.out];exact hz0);clear hz0;have hf:mF (eC s.aN k f) [] s.aL.toNat:=fun t h1 h2 p hp=>by
   have:=yG HOKT.out hp t;unfold bV;simp only[bL];omega
  have hO:=HO11.out;rw[hbn] at hO;have HT:=hid (show Calls prog 31 #[aE (aC ⟨gq,0,aD⟩) n qc,aE ra z rc,aA aB s.aL] W11 (rT W11 (jV (eC s.aN k f) [] s.aL.toNat)) from by
   have:=vO W11 _ _ (eC s.aN k f) [] s.aL.toNat (by have:=HCL.out;omega) hO.tree hO.books HOKT.out (fun x hx=>by cases hx) (by simp)
   rwa [aCr HCL.out.1] at this)
  rw[qZ hf] at HT;clear hf hO;have k0:W11.cell? ⟨w7.heap.size,0,aD⟩=aC (aA aB s.aL):=cell_of_row _ _ 0 _ _ _ HB11.out;have k2:W11.cell? ⟨w7.heap.size,2,aD⟩=aC (aE (aC ⟨gq,0,aD⟩) n qc):=cell_of_row _ _ 2 _ _ _ HB11.out;have k3:W11.cell? ⟨w7.heap.size,3,aD⟩=aC (aE ra z rc):=cell_of_row _ _ 3 _ _ _ HB11.out
  go_wp2_with fail
  refine wp_loop_rounds 1 ?_;rw[rounds_succ]
  go_wp2_with fail
  refine HT.out.mono ?_;rintro e w12 ⟨rfl,hx12⟩;clear k0 k2 k3;have HB12:=hid (aW HB11.out hx12);have HX12:=hid (HX11.out.tr hx12);have HO12:=hid (HO11.out.ext hx12);have HZ:=hid (HZ0.out _ (HX11.out.tr hx12));clear hx12;have e0:w12.cell? ⟨w7.heap.size,0,aD⟩=aC (aA aB s.aL):=cell_of_row _ _ 0 _ _ _ HB12.out;have e1:w12.cell? ⟨w7.heap.size,1,aD⟩=aC (aA aB s.aM):=cell_of_row _ _ 1 _ _ _ HB12.out;have e2:w12.cell? ⟨w7.heap.size,2,aD⟩=aC (aE (aC ⟨gq,0,aD⟩) n qc):=cell_of_row _ _ 2 _ _ _ HB12.out;have e3:w12.cell? ⟨w7.heap.size,3,aD⟩=aC (aE ra z rc):=cell_of_row _ _ 3 _ _ _ HB12.out;have HEND:=hid (show StS w.heap.size (w12.setRow (w.heap.size+1) #[aA aB s.aL,aA aB s.aM,aE (aC ⟨gq,0,aD⟩) n qc,aE ra z rc]) (aE (aC ⟨gq,0,aD⟩) n qc) (aE ra z rc) (pY s k f) from .inl (by
   have h:=(((HO12.out.under (r:=w.heap.size+1) (by have:=HSB.out;omega)).kept (bS w12 (w.heap.size+1) #[aA aB s.aL,aA aB s.aM,aE (aC ⟨gq,0,aD⟩) n qc,aE ra z rc]) (aCw ..)).low (ex2:=[]) (B2:=w.heap.size) HX0.out.size (fun r hr=>by cases hr));have e:(pY s k f).aK=s.aK:=by show (lZ s k f).1=s.aK;rw[yC hbn,hbn]
   rw[e];exact h))
  have HX13:=hid ((HX0.out.tr HX12.out).sr (b:=w.heap.size+1) (by omega) #[aA aB s.aL,aA aB s.aM,aE (aC ⟨gq,0,aD⟩) n qc,aE ra z rc]);have HR13:=hid (setRow_heap w12 (w.heap.size+1) _ #[aA aB s.aL,aA aB s.aM,aE (aC ⟨gq,0,aD⟩) n qc,aE ra z rc] _ _ HZ.out);have HRR:=hid (show cr=(pY s k f,[],[],0) from by rw[HR.out,yC hbn]);clear hbn
  go_wp2_with fail
  refine wp_loop_rounds 1 ?_;rw[rounds_succ]
  go_wp2_with (refine wpList_store_row rfl 25 _ _ rfl (w.heap.size+1) #[aA aB s.aL,aA aB s.aM,aE (aC ⟨gq,0,aD⟩) n qc,aE ra z rc] rfl rfl 25 _ HZ.out size25 rfl (by simp[aBz]) ?_)
  exact bodyPost_ret (cU (u1:=7) (u2:=8) (u3:=9) rfl _ _ (w.heap.size+1) 25 #[aA aB s.aL,aA aB s.aM,aE (aC ⟨gq,0,aD⟩) n qc,aE ra z rc] (0,0) _ rfl HR13.out underlying25 rfl size25) rfl (lK (s:=pY s k f) HRR.out HEND.out SV.nil SV.nil HX13.out)
 ·obtain⟨gb,rc',e,_,_⟩:=HO11.out.vsome (by rw[HBZ.out];exact hz0);rw[HBZ.out] at e;cases e;have hln:(eC s.aN k f).length=n:=by rw[jN,HQN.out]
  obtain⟨L,hL⟩:∃ L,eC s.aN k f=L:=⟨_,rfl⟩;have hA0:dR wb w7.heap.size gq qc gb rc s.aL s.aM L s.aK (iD []) (aE aD 0 0) W11:=by
   rw[<- hL];exact⟨by rw[hln,HBZ.out];exact HB11.out,by rw[hln,HBZ.out];exact HO11.out,⟨[],aBV _ _ _ _,⟨rfl,fun k cs x h=>(by simp at h)⟩,fun cs h=>(by cases h),fun g h=>(by cases h)⟩,by simp[aCZ],fun x h=>(by cases h),HX11.out,hXl⟩
  have HA0:=hid hA0;have HLL:=hid hL;rw[hL] at HOKT;have HOKB:=hid (show ∀ x∈s.aK,cB L x from fun x hx=>hL▸oV.2 (HOK.out x hx));have HN12:=hid (show s.aK.length<=12 from by rw[HBZ.out];exact h12);have HLN2:=hid (show L.length=n from hL▸hln);obtain⟨ib,ib1,ib2,ib3,ib4⟩:=info_parts info40;have HIB3:=hid ib3;have HIB4:=hid ib4;clear hA0 hL hln ib3 ib4
  go_wp2_with fail
  go_loopw [12] (fun va wr=>∃ (gq qc gb cap:Nat) (b a:List aT),Hid (dR wb w7.heap.size gq qc gb cap s.aL s.aM L b (iD a) va wr)/\Hid (Ps L s.aL.toNat s.aK b a)) (fun _ wr=>Mg w7.heap.size wr)
  case atStart=>exact⟨gq,qc,gb,rc,s.aK,[],HA0,hid ⟨rfl,List.Sublist.refl _,by rw[aBi]⟩⟩
  case round=>
   clear HA0 HO11 HB11;obtain⟨gq,qc,gb,cap,b,a,HA,HRL⟩:=hrel;have hbok:∀ x∈b,cB L x:=fun x hx=>HOKB.out x (HRL.out.sub.subset hx);have hb12:b.length<=12:=Nat.le_trans HRL.out.sub.length_le HN12.out;have HT:=hid (show Calls prog 31 #[aE (aC ⟨gq,0,aD⟩) L.length qc,aE (aC ⟨gb,0,aD⟩) b.length cap,aA aB s.aL] wr (rT wr (jV L b s.aL.toNat)) from by
    have:=vO wr _ _ L b s.aL.toNat (by have:=HCL.out;omega) HA.out.own.tree HA.out.own.books HOKT.out hbok hb12
    rwa [aCr HCL.out.1] at this)
   have k0:wr.cell? ⟨w7.heap.size,0,aD⟩=aC (aA aB s.aL):=cell_of_row _ _ 0 _ _ _ HA.out.box;have k2:wr.cell? ⟨w7.heap.size,2,aD⟩=aC (aE (aC ⟨gq,0,aD⟩) L.length qc):=cell_of_row _ _ 2 _ _ _ HA.out.box;have k3:wr.cell? ⟨w7.heap.size,3,aD⟩=aC (aE (aC ⟨gb,0,aD⟩) b.length cap):=cell_of_row _ _ 3 _ _ _ HA.out.box;by_cases hf:mF L b s.aL.toNat
   ·rw[qZ hf] at HT;have HSTOP:=hid (show Nu L s.aL.toNat s.aK=(b,a) from HRL.out.go.symm.trans (Dx (Df hf) _));clear hf
    go_wp2_with fail
    refine HT.out.mono ?_;rintro e w12 ⟨rfl,hx12⟩;clear k0 k2 k3;have HA2:=hid (HA.out.later hx12);clear hx12 HT HA;have hrb2:jI s k f=(b,a):=by show Nu (eC s.aN k f) s.aL.toNat s.aK=_;rw[HLL.out];exact HSTOP.out
    have hr1:(jI s k f).1=b:=by rw[hrb2]
    have hr2:(jI s k f).2=a:=by rw[hrb2]
    obtain⟨hA1,hA2,hA3⟩:=Mi (q:=k) H0.out H2.out;have hl0:nU (eC s.aN k f) s.aL s.aM (iD (jI s k f).2) s.aK.length (lZ s k f) 0 (jI s k f).1 [] []:=⟨rfl,zR H0.out H2.out,hA2,by rw[aCO,hA3];exact aBq _⟩;obtain⟨R,hRe⟩:∃ R,lZ s k f=R:=⟨_,rfl⟩;rw[hr1,hr2,HLL.out,hRe] at hl0;rw[hr2,HLL.out] at hA1;obtain⟨A,hA⟩:∃ A,iD a=A:=⟨_,rfl⟩;rw[hA] at hl0 hA1 HA2;have HAE:=hid (show iD (jI s k f).2=A from by rw[hr2];exact hA);have HL0:=hid hl0;have HAB:=hid hA1;have HRE:=hid hRe;have hci:dJ wb w7.heap.size gq qc gb cap s.aL s.aM L A u12 b [] [] (aE aD 0 0) (aE aD 0 0) w12:=
     ⟨HA2.out.box,HA2.out.own,HA2.out.away,HA2.out.live,aBV _ _ _ _,aBV _ _ _ _,fun r h=>(by cases h),fun r h=>(by cases h),HA2.out.apart,HA2.out.ext,HA2.out.low⟩
    obtain⟨aa,ac,hva⟩:∃ a c,u12=aE a A.length c:=by
     obtain⟨css,o1,_⟩:=HA2.out.away;rcases o1.2 with ⟨h,h0⟩ | ⟨g,cp,cur,h,_⟩
     ·exact⟨aD,0,by rw[h,h0]⟩
     ·exact⟨_,_,h⟩
    subst hva;have hnx:=(cS (cL H0.out).1).2.1;have HNX:=hid (show 0<=s.aM/\s.aM<=1048576 from ⟨hnx.2.2.1,hnx.2.2.2⟩);have HCI:=hid hci;have hAl:A.length<=12:=by have h1:=HN12.out;have h2:=HL0.out.len;rw[aCO] at h2;omega
    have hN12:=HN12.out;clear hrb2 hr1 hr2 hA1 hA2 hA3 hl0 hA hRe hci hnx HA2 HRL HSTOP hbok hb12;generalize s.aK.length=N at *;obtain⟨al,hal⟩:∃ al,A.length=al:=⟨_,rfl⟩;rw[hal] at HCI hAl ⊢;have HAL:=hid hal;clear hal;obtain⟨ii,ii1,ii2,ii3,ii4⟩:=info_parts info3
    go_wp2_with fail
    go_loopw [20,21,22] (fun vm vd i wr=>∃ (gb cap j:Nat) (b:List aT) (m d:List Int),i=aA aB j/\j<=al/\Hid (dJ wb w7.heap.size gq qc gb cap s.aL s.aM L A (aE aa al ac) b m d vm vd wr)/\Hid (nU L s.aL s.aM A N R j b m d)/\Hid (m.length+d.length=j)) (fun _ _ i _=>al - (intOf i).toNat)
    case atStart=>exact⟨gb,cap,0,b,[],[],rfl,aBO _,HCI,HL0,hid rfl⟩
    case round=>
     obtain⟨gb,cap,j,b,m,d,rfl,hj,HC,HLA,HMD⟩:=hrel;by_cases hlt:j < al
     ·obtain⟨x,hx⟩:=bT (f:=A) (k:=j) (by rw[HAL.out];exact hlt);obtain⟨ga,ca',pv,bv,e,⟨c0,c1,c2,c3,c4,c5,c6⟩,hbc,hap⟩:=HC.out.take hx;cases e;obtain⟨hbkx,hidx⟩:=HAB.out x (aBJ hx);obtain⟨pa,pc,hpf,_⟩:=(dY hbc).1.form;obtain⟨ba',bc',hbf,_⟩:=(dY hbc).2.1.form;subst hpf hbf;have HX:=hid hx;have HBC:=hid hbc;have HAP:=hid hap;have HBKX:=hid hbkx;have HIDX:=hid hidx;have k0:wr.cell? ⟨w7.heap.size,0,aD⟩=aC (aA aB s.aL):=cell_of_row _ _ 0 _ _ _ HC.out.box;have hXr:w7.heap.size < wr.heap.size:=(aBy.1 HC.out.box).1;clear hx hbc hap hbkx hidx
      go_wp2_with fail
      obtain⟨wq,hwq⟩:∃ wq,(wr.alloc (.cells #[aA aB x.Id,aA aB x.aP.aG,aA aB x.aP.aI,aA aB x.aP.aH,aA aB x.aP.aJ,aE pa x.aP.aF.length pc,aE ba' x.aO.length bc'] 40)).alloc (.cells #[aA aB x.aP.aG,aA aB (max x.aP.aI s.aL),aA aB x.aP.aH,aA aB x.aP.aJ,aE pa x.aP.aF.length pc] 28)=wq:=⟨_,rfl⟩;have hxq:Ext wr wq:=hwq▸((Ext.rf wr).al _).al _;have hb1:wq.heap[wr.heap.size]?=aC (.cells #[aA aB x.Id,aA aB x.aP.aG,aA aB x.aP.aI,aA aB x.aP.aH,aA aB x.aP.aJ,aE pa x.aP.aF.length pc,aE ba' x.aO.length bc'] 40 (0,0)):=hwq▸(aW (heap_alloc_new wr (.cells #[aA aB x.Id,aA aB x.aP.aG,aA aB x.aP.aI,aA aB x.aP.aH,aA aB x.aP.aJ,aE pa x.aP.aF.length pc,aE ba' x.aO.length bc'] 40)) ((Ext.rf _).al _));have hb2:wq.heap[wr.heap.size+1]?=aC (.cells #[aA aB x.aP.aG,aA aB (max x.aP.aI s.aL),aA aB x.aP.aH,aA aB x.aP.aJ,aE pa x.aP.aF.length pc] 28 (0,0)):=by
       rw[<- hwq];have:=heap_alloc_new (wr.alloc (.cells #[aA aB x.Id,aA aB x.aP.aG,aA aB x.aP.aI,aA aB x.aP.aH,aA aB x.aP.aJ,aE pa x.aP.aF.length pc,aE ba' x.aO.length bc'] 40)) (.cells #[aA aB x.aP.aG,aA aB (max x.aP.aI s.aL),aA aB x.aP.aH,aA aB x.aP.aJ,aE pa x.aP.aF.length pc] 28)
       rwa [aCl] at this
      rw[hwq];have BG:=hid (Wx wq _ _ x s.aL ((dY HBC.out).1.mono hxq) ((dY HBC.out).2.1.mono hxq));have HXQ:=hid hxq;have HB1:=hid hb1;have HB2:=hid hb2;clear hxq hb1 hb2 hwq c0 c1 c2 c3 c4 c5 c6 k0;refine BG.out.mono ?_;rintro e W2 ⟨rfl,hx2⟩;have HX2:=hid (HXQ.out.tr hx2);have HR1:=hid (aW HB1.out hx2);have HR2:=hid (aW HB2.out hx2);have r1:W2.cell? ⟨wr.heap.size+1,1,aD⟩=aC (aA aB (max x.aP.aI s.aL)):=cell_of_row _ _ 1 _ _ _ HR2.out;have r2:W2.cell? ⟨wr.heap.size+1,2,aD⟩=aC (aA aB x.aP.aH):=cell_of_row _ _ 2 _ _ _ HR2.out;have e0:W2.cell? ⟨wr.heap.size,0,aD⟩=aC (aA aB x.Id):=cell_of_row _ _ 0 _ _ _ HR1.out;clear hx2 BG HB1 HB2 HXQ;cases hbg:rR s.aL x with
      | true=>
       have hg:iM L s.aL b x=true:=by unfold iM;rw[hbg];rfl
       clear hbg;have HC2:=hid (HC.out.later HX2.out);have HLA2:=hid (HLA.out.gone HX.out hg);have HO1:=hid (HC2.out.drow.alloc (.cells #[aA aB x.Id] 3));have HN1:=hid (Ci W2 rfl (aA aB x.Id) 3);have HSZ:=hid (show wb.heap.size<=(W2.alloc (.cells #[aA aB x.Id] 3)).heap.size from (HC2.out.ext.al _).size);have hdl:d.length<=12:=by have:=HMD.out;omega
       go_wp2_with (at_builtin;refine wpList_append_lies _ rfl _ _ 67 rfl wb.heap.size 3 ii _ 1 8 underlying67 ii1 ii2 ii3 ii4 rfl (by decide) u21 d.length (d.map fun n=>aA .i64 n) rfl HO1.out ⟨W2.heap.size,0,aD⟩ 1 1 [aA aB x.Id] rfl rfl HN1.out (by simp[aBz]) (by omega) (by unfold maxLen;omega) (by omega) HSZ.out (W2.heap.size+1) (by simp) ?_;intro g2 cp2 W3 hown hgrow hlie hlt3)
       have hrel2:=(HC2.out.swap.push hown hgrow hlie).swap;go_roundw
       case rel=>
        have e:(d++[x.Id]).length=d.length+1:=by simp
        rw[e] at hrel2;exact⟨_,_,j+1,b,m,d++[x.Id],by go_num,by omega,hid hrel2,HLA2,hid (by rw[e];have:=HMD.out;omega)⟩
       case measure=>simp[intOf];omega
      | false=>
       by_cases hlate:x.aP.aH<=max x.aP.aI s.aL
       ·have hg:iM L s.aL b x=true:=by unfold iM;rw[deT hlate];simp
        have hlt1:¬ max x.aP.aI s.aL < x.aP.aH:=by omega
        have hlt2:=deF hlt1;have HC2:=hid (HC.out.later HX2.out);have HLA2:=hid (HLA.out.gone HX.out hg);have HO1:=hid (HC2.out.drow.alloc (.cells #[aA aB x.Id] 3));have HN1:=hid (Ci W2 rfl (aA aB x.Id) 3);have HSZ:=hid (show wb.heap.size<=(W2.alloc (.cells #[aA aB x.Id] 3)).heap.size from (HC2.out.ext.al _).size);have hdl:d.length<=12:=by have:=HMD.out;omega
        go_wp2_with (at_builtin;refine wpList_append_lies _ rfl _ _ 67 rfl wb.heap.size 3 ii _ 1 8 underlying67 ii1 ii2 ii3 ii4 rfl (by decide) u21 d.length (d.map fun n=>aA .i64 n) rfl HO1.out ⟨W2.heap.size,0,aD⟩ 1 1 [aA aB x.Id] rfl rfl HN1.out (by simp[aBz]) (by omega) (by unfold maxLen;omega) (by omega) HSZ.out (W2.heap.size+1) (by simp) ?_;intro g2 cp2 W3 hown hgrow hlie hlt3)
        have hrel2:=(HC2.out.swap.push hown hgrow hlie).swap;go_roundw
        case rel=>
         have e:(d++[x.Id]).length=d.length+1:=by simp
         rw[e] at hrel2;exact⟨_,_,j+1,b,m,d++[x.Id],by go_num,by omega,hid hrel2,HLA2,hid (by rw[e];have:=HMD.out;omega)⟩
        case measure=>simp[intOf];omega
       ·have hlt1:max x.aP.aI s.aL < x.aP.aH:=by omega
        have hlt2:=deT hlt1;have hq:=zX HBKX.out.req hlt1;have hstr:=HLA.out.right;obtain⟨ok2,h122,hbok2⟩:=iI hstr;obtain⟨q,hqn⟩:∃ q:Nat,x.aP.aG=q:=⟨x.aP.aG.toNat,by have:=HBKX.out.q0;omega⟩;have hql:q < L.length:=by have:=HBKX.out.q1;omega
        have hfine:gM (bN (gX L b x.aP.aG)):=by rw[hqn];exact zO hstr hql
        have RI:=hid (fun(W:World) (h:Ext wr W)=>show Calls prog 95 #[aE (aC ⟨gq,0,aD⟩) L.length qc,aE (aC ⟨gb,0,aD⟩) b.length cap,aA aB x.aP.aG] W (Gg W (sp (bN (gX L b x.aP.aG)))) from by
         have:=Ap W _ _ L b q hql (HC.out.own.tree.mono h) (HC.out.own.books.mono h) ok2 hbok2 h122;rw[<- hqn] at this;have e:tab (gX L b x.aP.aG)=tab (sp (bN (gX L b x.aP.aG))):=zI (fun t ht=>by rw[fL ht]);exact this.mono fun e' w' ⟨h1,h2⟩=>⟨by rw[h1,e],h2⟩)
        have PI:=hid (fun(W:World) (h:Ext wr W)=>show Calls prog 53 #[.agg (tab (sp (bN (gX L b x.aP.aG)))),.agg #[aA aB x.aP.aG,aA aB (max x.aP.aI s.aL),aA aB x.aP.aH,aA aB x.aP.aJ,aE pa x.aP.aF.length pc]] W (nP W (cN L s.aL b x)) from Kc W (sp (bN (gX L b x.aP.aG))) (pX x.aP s.aL) _ ((dY HBC.out).1.mono h) hq (vQ hfine));have HGG:=hid (show iM L s.aL b x=decide (cN L s.aL b x=[]) from by unfold iM;rw[hbg,deF hlate];simp);have HBB:=hid (show gJ L s.aL b x=qM ⟨x.Id,x.aP,cN L s.aL b x⟩ b from rfl);have hcons:=HLA.out.cons HX.out;have hb11:b.length < 12:=by have:=hcons.2.2.2;omega
        have HBR:=hid (fun hg=>rS hstr HBKX.out HIDX.out hcons.1 hb11 hg);have HID1:=hid hcons.1;clear hq hstr ok2 h122 hbok2 hqn hql hfine hlate hbg hcons;generalize cN L s.aL b x=LB at *;generalize sp (bN (gX L b x.aP.aG))=xt at *;have k2:W2.cell? ⟨w7.heap.size,2,aD⟩=aC (aE (aC ⟨gq,0,aD⟩) L.length qc):=HX2.out.ce' (cell_of_row _ _ 2 _ _ _ HC.out.box);have k3:W2.cell? ⟨w7.heap.size,3,aD⟩=aC (aE (aC ⟨gb,0,aD⟩) b.length cap):=HX2.out.ce' (cell_of_row _ _ 3 _ _ _ HC.out.box);have r0:W2.cell? ⟨wr.heap.size+1,0,aD⟩=aC (aA aB x.aP.aG):=cell_of_row _ _ 0 _ _ _ HR2.out;have r3:W2.cell? ⟨wr.heap.size+1,3,aD⟩=aC (aA aB x.aP.aJ):=cell_of_row _ _ 3 _ _ _ HR2.out;have r4:W2.cell? ⟨wr.heap.size+1,4,aD⟩=aC (aE pa x.aP.aF.length pc):=cell_of_row _ _ 4 _ _ _ HR2.out
        go_wp2_with fail
        go_region_held3 (fun w'=>(w'.cell? ⟨w7.heap.size,2,aD⟩=aC (aE (aC ⟨gq,0,aD⟩) L.length qc)/\w'.cell? ⟨w7.heap.size,3,aD⟩=aC (aE (aC ⟨gb,0,aD⟩) b.length cap)/\w'.cell? ⟨wr.heap.size+1,0,aD⟩=aC (aA aB x.aP.aG)/\w'.cell? ⟨wr.heap.size+1,1,aD⟩=aC (aA aB (max x.aP.aI s.aL))/\w'.cell? ⟨wr.heap.size+1,2,aD⟩=aC (aA aB x.aP.aH)/\w'.cell? ⟨wr.heap.size+1,3,aD⟩=aC (aA aB x.aP.aJ)/\w'.cell? ⟨wr.heap.size+1,4,aD⟩=aC (aE pa x.aP.aF.length pc)))
         (first
          | go_keep
          | (
            go_split_ands
            exact⟨hxk.ce' (by assumption),hxk.ce' (by assumption),hxk.ce' (by assumption),hxk.ce' (by assumption),hxk.ce' (by assumption),hxk.ce' (by assumption),hxk.ce' (by assumption)⟩))
         (first
          | (go_at_call 95;refine(RI.out _ HX2.out.dr).mono ?_;rintro e W3 ⟨rfl,hxk⟩;have HX3:=hid (HX2.out.dr.tr hxk);have HX23:=hid ((Ext.rf W2).dr.tr hxk))
          | (go_at_call 53;refine(PI.out _ HX3.out).mono ?_;rintro e W4 ⟨u4,bb,rfl,hxk,hy,hn⟩;have Hy:=hid hy;have Hn:=hid hn;have HX4:=hid (HX3.out.tr hxk);have HX24:=hid (HX23.out.tr hxk);clear hy hn))
        clear r0 r1 r2 r3 r4 k2 k3 e0 RI PI;cases bb with
        | false=>
         have hg:iM L s.aL b x=true:=by rw[HGG.out,Hn.out rfl];rfl
         clear Hy Hn HBR HBB HID1 HX3 HX23;have HC2:=hid (HC.out.later HX4.out);have HLA2:=hid (HLA.out.gone HX.out hg);have e0:W4.cell? ⟨wr.heap.size,0,aD⟩=aC (aA aB x.Id):=HX24.out.ce' (cell_of_row _ _ 0 _ _ _ HR1.out);have HO1:=hid (HC2.out.drow.alloc (.cells #[aA aB x.Id] 3));have HN1:=hid (Ci W4 rfl (aA aB x.Id) 3);have HSZ:=hid (show wb.heap.size<=(W4.alloc (.cells #[aA aB x.Id] 3)).heap.size from (HC2.out.ext.al _).size);have hdl:d.length<=12:=by have:=HMD.out;omega
         go_wp2_with (at_builtin;refine wpList_append_lies _ rfl _ _ 67 rfl wb.heap.size 3 ii _ 1 8 underlying67 ii1 ii2 ii3 ii4 rfl (by decide) u21 d.length (d.map fun n=>aA .i64 n) rfl HO1.out ⟨W4.heap.size,0,aD⟩ 1 1 [aA aB x.Id] rfl rfl HN1.out (by simp[aBz]) (by omega) (by unfold maxLen;omega) (by omega) HSZ.out (W4.heap.size+1) (by simp) ?_;intro g2 cp2 W3 hown hgrow hlie hlt3)
         have hrel2:=(HC2.out.swap.push hown hgrow hlie).swap;go_roundw
         case rel=>
          have e:(d++[x.Id]).length=d.length+1:=by simp
          rw[e] at hrel2;exact⟨_,_,j+1,b,m,d++[x.Id],by go_num,by omega,hid hrel2,HLA2,hid (by rw[e];have:=HMD.out;omega)⟩
         case measure=>simp[intOf];omega
        | true=>
         obtain⟨hLB,hbv,hfr⟩:=Hy.out rfl;have hg:iM L s.aL b x=false:=by rw[HGG.out];exact deF hLB
         obtain⟨hr1,hr2,_⟩:=HBR.out hg;have HLX:=hid ((nF (l:=L) (b:=[⟨x.Id,x.aP,LB⟩]) (fun y hy=>by rw[aCB.1 hy];exact hr2)) _ (aCB.2 rfl));obtain⟨va,vc,hu4,_,_,_,hvE⟩:=kM hbv;obtain⟨vb,vo,hva,hvb,_⟩:=hvE (aD4.2 hLB);subst hva;subst hu4;have hvf:wr.heap.size<=vb:=by
          have h1:W3.heap.size<=vb:=hfr _ _ _ rfl;have h2:=HX3.out.size;omega
         have HLA2:=hid (HLA.out.put HX.out hg HBKX.out HIDX.out hN12);have HC2:=hid (HC.out.later HX4.out);have HBV:=hid (And.intro hbv (And.intro hLB hvf));have hR4:=aW HR1.out HX24.out;have HR4:=hid hR4;have e0:W4.cell? ⟨wr.heap.size,0,aD⟩=aC (aA aB x.Id):=cell_of_row _ _ 0 _ _ _ hR4;have HO1:=hid (HC2.out.mrow.alloc (.cells #[aA aB x.Id] 3));have HN1:=hid (Ci W4 rfl (aA aB x.Id) 3);have HSZ:=hid (show wb.heap.size<=(W4.alloc (.cells #[aA aB x.Id] 3)).heap.size from (HC2.out.ext.al _).size);have hdl:m.length<=12:=by have:=HMD.out;omega
         clear hg hr1 hr2 hvE hbv hfr hvf hLB hR4 Hy Hn HBR HGG HX3 HX23 HR1 HR2
         go_wp2_with (at_builtin;refine wpList_append_lies _ rfl _ _ 67 rfl wb.heap.size 3 ii _ 1 8 underlying67 ii1 ii2 ii3 ii4 rfl (by decide) u20 m.length (m.map fun n=>aA .i64 n) rfl HO1.out ⟨W4.heap.size,0,aD⟩ 1 1 [aA aB x.Id] rfl rfl HN1.out (by simp[aBz]) (by omega) (by unfold maxLen;omega) (by omega) HSZ.out (W4.heap.size+1) (by simp) ?_;intro g2 cp2 W5 hown hgrow hlie hlt3)
         have hC5:=HC2.out.push hown hgrow hlie;obtain⟨hBN,hAN⟩:=HC.out.placed (q:=(m++[x.Id]).length) (cap2:=cp2) (g2:=g2) HX4.out HBC.out HAP.out HBV.out.1 HBV.out.2.1 HBV.out.2.2 hgrow hlie;have hR5:W5.heap[wr.heap.size]?=aC (.cells #[aA aB x.Id,aA aB x.aP.aG,aA aB x.aP.aI,aA aB x.aP.aH,aA aB x.aP.aJ,aE pa x.aP.aF.length pc,aE ba' x.aO.length bc'] 40 (0,0)):=(hgrow.block wr.heap.size (aBA (aBy.1 HR4.out).1 ((Ext.rf W4).al _).size) (fun e=>by have:=(HC.out.mrow.lt _ e.symm).2;omega)).trans (aW HR4.out ((Ext.rf W4).al _));obtain⟨css,q1,q2,q3,q4,q5,q6,hmk⟩:=hC5.own.mid rfl hb11;have HC5:=hid hC5;have HNEW:=hid (And.intro hBN hAN);have HR5:=hid hR5;have HQ:=hid (And.intro q1 (And.intro q2 q3));have HQ5:=hid q5;have HQ6:=hid q6;have HMK:=hid hmk;have HEX:=hid hC5.old;clear hown hgrow hlie hlt3 hC5 hBN hAN hR5 q1 q2 q3 q5 q6 hmk e0 HO1 HN1 HSZ HC2 HR4 HBV;generalize hbl:b.length=z4 at *;have HZ4:=hid hbl;clear hbl;generalize wr.heap.size=B1 at *;have HB5:=hid (show w7.heap.size < W5.heap.size/\B1 < W5.heap.size from ⟨(aBy.1 HC5.out.box).1,(aBy.1 HR5.out).1⟩);have hz412:z4 < 12:=hb11
         go_wp2_with fail
         go_loopw [27,28] (fun v i wi=>∃ (j4:Nat),i=aA aB j4/\j4<=z4/\Hid (wi.ownsRow W5.heap.size 40 7 v j4 (css.take j4).flatten)/\Hid (∀ (i:Nat) (y:aT),i < j4->b[i]?=aC y->y.Id < x.Id)/\Hid (Ext W5 wi)) (fun _ i _=>z4 - (intOf i).toNat)
         case atStart=>exact⟨0,rfl,aBO _,hid (aBV _ _ _ _),hid (fun i y h=>by omega),hid (Ext.rf _)⟩
         case round=>
          obtain⟨j4,rfl,hj4,HOW,HLE,HXI⟩:=hrel;have k3:wr.cell? ⟨w7.heap.size,3,aD⟩=aC (aE (aC ⟨gb,0,aD⟩) z4 cap):=HXI.out.ce' (by rw[<- HZ4.out];exact cell_of_row _ _ 3 _ _ _ HC5.out.box);obtain⟨f0,f1,f2,f3,f4,f5,f6,_⟩:=dX (aW HR5.out HXI.out);have hj0:(0:Int)<=(j4:Int):=by omega
          by_cases hlt4:j4 < z4
          ·obtain⟨y,hy⟩:=bT (f:=b) (k:=j4) (by rw[HZ4.out];exact hlt4);obtain⟨pv2,bv2,hcs,hp2,hb2⟩:=HQ6.out j4 y hy;obtain⟨pa2,pc2,hf1,_⟩:=hp2.form;obtain⟨ba2,bc2,hf2,_⟩:=hb2.form;subst hf1 hf2;obtain⟨d0,d1,d2,d3,d4,d5,d6⟩:=(Wy HQ.out.2.1 HQ5.out hcs).ext HXI.out;have hltI:(j4:Int) < (z4:Int):=by omega
           have hltd:=deT hlt4;have hltdI:=deT hltI;have HY:=hid hy;have HCS:=hid hcs;clear hy hcs hp2 hb2;by_cases hl:y.Id < x.Id
           ·have hl1:=deT hl
            go_wp2_with fail
            go_quiet (fail)
            have HXQ:=hid (HXI.out.tr ((Ext.rf wr).dn nq));have HOQ:=hid ((bE HOW.out ((Ext.rf wr).dn nq)).alloc (.cells #[aA aB y.Id,aA aB y.aP.aG,aA aB y.aP.aI,aA aB y.aP.aH,aA aB y.aP.aJ,aE pa2 y.aP.aF.length pc2,aE ba2 y.aO.length bc2] 40));have HN7:=hid (xO (wr.drewN nq) [aA aB y.Id,aA aB y.aP.aG,aA aB y.aP.aI,aA aB y.aP.aH,aA aB y.aP.aJ,aE pa2 y.aP.aF.length pc2,aE ba2 y.aO.length bc2] 40 rfl);have HS7:=hid (show W5.heap.size<=((wr.drewN nq).alloc (.cells #[aA aB y.Id,aA aB y.aP.aG,aA aB y.aP.aI,aA aB y.aP.aH,aA aB y.aP.aJ,aE pa2 y.aP.aF.length pc2,aE ba2 y.aO.length bc2] 40)).heap.size from (HXQ.out.al _).size);have d:=(Ext.rf wr).dn nq;replace k3:=d.ce' k3;replace d0:=d.ce' d0;replace d1:=d.ce' d1;replace d2:=d.ce' d2;replace d3:=d.ce' d3;replace d4:=d.ce' d4;replace d5:=d.ce' d5;replace d6:=d.ce' d6;have hvm:=HOW.out.lt;have HVM:=hid hvm;clear d f0 f1 f2 f3 f4 f5 f6 hvm;generalize wr.drewN nq=wq4 at *
            go_wp2_with (at_builtin;refine wpList_append_lies _ rfl _ _ 23 rfl W5.heap.size 40 ib _ 7 88 underlying23 ib1 ib2 HIB3.out HIB4.out rfl (by decide) u27 j4 (css.take j4).flatten rfl HOQ.out ⟨wq4.heap.size,0,aD⟩ 1 1 [aA aB y.Id,aA aB y.aP.aG,aA aB y.aP.aI,aA aB y.aP.aH,aA aB y.aP.aJ,aE pa2 y.aP.aF.length pc2,aE ba2 y.aO.length bc2] rfl rfl HN7.out (by simp[aBz]) (by omega) (by unfold maxLen;omega) (by omega) HS7.out (wq4.heap.size+1) (by simp) ?_;intro g4 cp4 W7 hown4 hgrow4 hlie4 hlt44)
            have hx7:Ext W5 W7:=(HXQ.out.al _).gr hgrow4 (fun r hr=>(HVM.out r hr).1);go_roundw
            case rel=>exact⟨j4+1,by go_num,by omega,hid (by rw[Uz HCS.out];exact hown4),hid (fun i y' hi hy'=>by
             rcases aBK i j4 with h | h
             ·exact HLE.out i y' h hy'
             ·obtain rfl:i=j4:=by omega
              rw[HY.out] at hy';cases hy';exact hl),hid hx7⟩
            case measure=>simp[intOf];omega
           ·have hl1:=deF hl;have hc:¬ cap=j4:=by omega
            go_wp2_with fail
            go_quiet (fail)
            have HXQ:=hid (HXI.out.tr ((Ext.rf wr).dn nq));have HOQ:=hid ((bE HOW.out ((Ext.rf wr).dn nq)).alloc (.cells #[aA aB x.Id,aA aB x.aP.aG,aA aB x.aP.aI,aA aB x.aP.aH,aA aB x.aP.aJ,aE pa x.aP.aF.length pc,aE (aC ⟨vb,vo,aD⟩) LB.length vc] 40));have HN7:=hid (xO (wr.drewN nq) [aA aB x.Id,aA aB x.aP.aG,aA aB x.aP.aI,aA aB x.aP.aH,aA aB x.aP.aJ,aE pa x.aP.aF.length pc,aE (aC ⟨vb,vo,aD⟩) LB.length vc] 40 rfl);have HS7:=hid (show W5.heap.size<=((wr.drewN nq).alloc (.cells #[aA aB x.Id,aA aB x.aP.aG,aA aB x.aP.aI,aA aB x.aP.aH,aA aB x.aP.aJ,aE pa x.aP.aF.length pc,aE (aC ⟨vb,vo,aD⟩) LB.length vc] 40)).heap.size from (HXQ.out.al _).size);have HVM:=hid HOW.out.lt;clear k3 f0 f1 f2 f3 f4 f5 f6;obtain⟨f0,f1,f2,f3,f4,f5,f6,_⟩:=dX (aW HR5.out HXQ.out);generalize wr.drewN nq=wq4 at *;have HSRC:=hid (show ∀ o,(o=j4*7\/z4<=j4)->∀ (j:Nat) v,(css.drop j4).flatten[j]?=aC v->W5.cell? ((⟨gb,o,aD⟩:Addr).add j)=aC v from fun o ho j v hv=>by
             rcases ho with ho | hc
             ·rw[ho,yL];refine HQ5.out _ v ?_;rw[<- eW css HQ.out.2.1,aBN] at hv;exact hv
             ·have h0:css.drop j4=[]:=aDI (by rw[HQ.out.1];omega);rw[h0] at hv;simp at hv)
            have HDL:=hid (show (css.drop j4).flatten.length=(z4 - j4)*7 from by rw[gU _ (fun cs hm=>HQ.out.2.1 cs (aDb hm)),aDc,HQ.out.1]);have HD1:=hid (show ∀ v∈(css.drop j4).flatten,v.oneCell'=true from fun v hv=>HQ.out.2.2 v (by
             rw[<- eW css HQ.out.2.1] at hv;exact aDb hv))
            have hj4I:(j4:Int)<=(z4:Int):=by omega
            go_wp2_with (first
             | (at_builtin;refine wpList_append_lies _ rfl _ _ 23 rfl W5.heap.size 40 ib _ 7 88 underlying23 ib1 ib2 HIB3.out HIB4.out rfl (by decide) u27 j4 (css.take j4).flatten rfl HOQ.out ⟨wq4.heap.size,0,aD⟩ 1 1 [aA aB x.Id,aA aB x.aP.aG,aA aB x.aP.aI,aA aB x.aP.aH,aA aB x.aP.aJ,aE pa x.aP.aF.length pc,aE (aC ⟨vb,vo,aD⟩) LB.length vc] rfl rfl HN7.out (by simp[aBz]) (by omega) (by unfold maxLen;omega) (by omega) HS7.out (wq4.heap.size+1) (by simp) ?_;intro g4 cp4 W8 hown4 hgrow4 hlie4 hlt44;have HX8:Hid (Ext W5 W8):=hid ((HXQ.out.al _).gr hgrow4 (fun r hr=>(HVM.out r hr).1));have k5:W8.cell? ⟨w7.heap.size,3,aD⟩=aC (aE (aC ⟨gb,0,aD⟩) z4 cap):=HX8.out.ce' (by rw[<- HZ4.out];exact cell_of_row _ _ 3 _ _ _ HC5.out.box);have HOW4:=hid hown4;clear hown4 hgrow4 hlie4 hlt44)
             | (at_builtin;refine wpList_append_own _ rfl _ _ 23 rfl W5.heap.size 40 ib _ 7 88 underlying23 ib1 ib2 HIB3.out HIB4.out rfl (by decide) _ (j4+1) _ rfl HOW4.out ⟨gb,j4*7,aD⟩ _ _ (css.drop j4).flatten rfl (by first | exact HDL.out | (rw[HDL.out];omega)) (fun j u hj=>eG HX8.out (HSRC.out _ (.inl rfl) j u hj)) HD1.out (by unfold maxLen;omega) (by omega) HX8.out.size ?_;intro v9 W9 hown9 hgrow9 hnil9;obtain⟨n9,hn9,hown9⟩:∃ n9,n9=z4+1/\W9.ownsRow W5.heap.size 40 7 v9 n9 ((css.take j4).flatten++[aA aB x.Id,aA aB x.aP.aG,aA aB x.aP.aI,aA aB x.aP.aH,aA aB x.aP.aJ,aE pa x.aP.aF.length pc,aE (aC ⟨vb,vo,aD⟩) LB.length vc]++(css.drop j4).flatten):=⟨_,by omega,hown9⟩;obtain⟨g9,cp9,rfl⟩:=iK hown9 (by omega);have HN9:=hid hn9;have HX9:Hid (Ext W5 W9):=hid (HX8.out.gr (v:=aE (aC ⟨g4,0,aD⟩) (j4+1) cp4) hgrow9 (fun r hr=>by have e1:=eU HOW4.out g4 rfl;have e2:=Option.some.inj hr;have e3:g4=r:=e2;omega));have HB9:=hid (aW HC5.out.box HX9.out);have HG9:=hid (eU hown9 g9 rfl);have HOW9:=hid hown9;have k9:W9.cell? ⟨w7.heap.size,3,aD⟩=aC (aE (aC ⟨gb,0,aD⟩) z4 cap):=(by rw[<- HZ4.out];exact cell_of_row _ _ 3 _ _ _ HB9.out);have f9:=frozen_of_row W9 w7.heap.size 3 _ _ HB9.out;clear hown9 hgrow9 hnil9 hn9))
            all_goals
             have hins:gJ L s.aL b x=b.take j4++⟨x.Id,x.aP,LB⟩::b.drop j4:=by
              rw[HBB.out];exact oD (x:=⟨x.Id,x.aP,LB⟩) (by rw[HZ4.out];omega) HLE.out (fun y' hy'=>by rw[HY.out] at hy';cases hy';show ¬ y.Id < x.Id;omega)
             have hlen:(gJ L s.aL b x).length=n9:=by rw[tW,HZ4.out,HN9.out]
             have hO9:=HMK.out W9 g9 n9 cp9 j4 [aA aB x.Id,aA aB x.aP.aG,aA aB x.aP.aI,aA aB x.aP.aH,aA aB x.aP.aJ,aE pa x.aP.aF.length pc,aE (aC ⟨vb,vo,aD⟩) LB.length vc] ⟨x.Id,x.aP,LB⟩ HX9.out HG9.out (by omega) HNEW.out.1 HLX.out HNEW.out.2 HEX.out HOW9.out HN9.out;rw[<- hins,<- hlen] at hO9;have hC9:=HC5.out.anew HX9.out HG9.out hO9;have e:(m++[x.Id]).length=m.length+1:=by simp
             rw[hlen,e] at hC9;have HC9:=hid hC9;clear hins hlen hO9 hC9;go_roundw
             case rel=>exact⟨_,_,j+1,gJ L s.aL b x,m++[x.Id],d,by go_num,by omega,HC9,HLA2,hid (by rw[e];have:=HMD.out;omega)⟩
             case measure=>simp[intOf];omega
          ·have hnn:=deF hlt4;have hnI:¬ (j4:Int) < (z4:Int):=by omega
           have hnd:=deF hnI;by_cases hc:cap=j4
           ·skip
            go_wp2_with fail
            go_quiet (fail)
            have HXQ:=hid (HXI.out.tr ((Ext.rf wr).dn nq));have HOQ:=hid ((bE HOW.out ((Ext.rf wr).dn nq)).alloc (.cells #[aA aB x.Id,aA aB x.aP.aG,aA aB x.aP.aI,aA aB x.aP.aH,aA aB x.aP.aJ,aE pa x.aP.aF.length pc,aE (aC ⟨vb,vo,aD⟩) LB.length vc] 40));have HN7:=hid (xO (wr.drewN nq) [aA aB x.Id,aA aB x.aP.aG,aA aB x.aP.aI,aA aB x.aP.aH,aA aB x.aP.aJ,aE pa x.aP.aF.length pc,aE (aC ⟨vb,vo,aD⟩) LB.length vc] 40 rfl);have HS7:=hid (show W5.heap.size<=((wr.drewN nq).alloc (.cells #[aA aB x.Id,aA aB x.aP.aG,aA aB x.aP.aI,aA aB x.aP.aH,aA aB x.aP.aJ,aE pa x.aP.aF.length pc,aE (aC ⟨vb,vo,aD⟩) LB.length vc] 40)).heap.size from (HXQ.out.al _).size);have HVM:=hid HOW.out.lt;clear k3 f0 f1 f2 f3 f4 f5 f6;obtain⟨f0,f1,f2,f3,f4,f5,f6,_⟩:=dX (aW HR5.out HXQ.out);generalize wr.drewN nq=wq4 at *;have HSRC:=hid (show ∀ o,(o=j4*7\/z4<=j4)->∀ (j:Nat) v,(css.drop j4).flatten[j]?=aC v->W5.cell? ((⟨gb,o,aD⟩:Addr).add j)=aC v from fun o ho j v hv=>by
             rcases ho with ho | hc
             ·rw[ho,yL];refine HQ5.out _ v ?_;rw[<- eW css HQ.out.2.1,aBN] at hv;exact hv
             ·have h0:css.drop j4=[]:=aDI (by rw[HQ.out.1];omega);rw[h0] at hv;simp at hv)
            have HDL:=hid (show (css.drop j4).flatten.length=(z4 - j4)*7 from by rw[gU _ (fun cs hm=>HQ.out.2.1 cs (aDb hm)),aDc,HQ.out.1]);have HD1:=hid (show ∀ v∈(css.drop j4).flatten,v.oneCell'=true from fun v hv=>HQ.out.2.2 v (by
             rw[<- eW css HQ.out.2.1] at hv;exact aDb hv))
            have hj4I:(j4:Int)<=(z4:Int):=by omega
            go_wp2_with (first
             | (at_builtin;refine wpList_append_lies _ rfl _ _ 23 rfl W5.heap.size 40 ib _ 7 88 underlying23 ib1 ib2 HIB3.out HIB4.out rfl (by decide) u27 j4 (css.take j4).flatten rfl HOQ.out ⟨wq4.heap.size,0,aD⟩ 1 1 [aA aB x.Id,aA aB x.aP.aG,aA aB x.aP.aI,aA aB x.aP.aH,aA aB x.aP.aJ,aE pa x.aP.aF.length pc,aE (aC ⟨vb,vo,aD⟩) LB.length vc] rfl rfl HN7.out (by simp[aBz]) (by omega) (by unfold maxLen;omega) (by omega) HS7.out (wq4.heap.size+1) (by simp) ?_;intro g4 cp4 W8 hown4 hgrow4 hlie4 hlt44;have HX8:Hid (Ext W5 W8):=hid ((HXQ.out.al _).gr hgrow4 (fun r hr=>(HVM.out r hr).1));have k5:W8.cell? ⟨w7.heap.size,3,aD⟩=aC (aE (aC ⟨gb,0,aD⟩) z4 cap):=HX8.out.ce' (by rw[<- HZ4.out];exact cell_of_row _ _ 3 _ _ _ HC5.out.box);have HOW4:=hid hown4;clear hown4 hgrow4 hlie4 hlt44)
             | (at_builtin;refine wpList_append_own _ rfl _ _ 23 rfl W5.heap.size 40 ib _ 7 88 underlying23 ib1 ib2 HIB3.out HIB4.out rfl (by decide) _ (j4+1) _ rfl HOW4.out ⟨gb,0,aD⟩ _ _ (css.drop j4).flatten rfl (by first | exact HDL.out | (rw[HDL.out];omega)) (fun j u hj=>eG HX8.out (HSRC.out _ (.inr (by omega)) j u hj)) HD1.out (by unfold maxLen;omega) (by omega) HX8.out.size ?_;intro v9 W9 hown9 hgrow9 hnil9;obtain⟨n9,hn9,hown9⟩:∃ n9,n9=z4+1/\W9.ownsRow W5.heap.size 40 7 v9 n9 ((css.take j4).flatten++[aA aB x.Id,aA aB x.aP.aG,aA aB x.aP.aI,aA aB x.aP.aH,aA aB x.aP.aJ,aE pa x.aP.aF.length pc,aE (aC ⟨vb,vo,aD⟩) LB.length vc]++(css.drop j4).flatten):=⟨_,by omega,hown9⟩;obtain⟨g9,cp9,rfl⟩:=iK hown9 (by omega);have HN9:=hid hn9;have HX9:Hid (Ext W5 W9):=hid (HX8.out.gr (v:=aE (aC ⟨g4,0,aD⟩) (j4+1) cp4) hgrow9 (fun r hr=>by have e1:=eU HOW4.out g4 rfl;have e2:=Option.some.inj hr;have e3:g4=r:=e2;omega));have HB9:=hid (aW HC5.out.box HX9.out);have HG9:=hid (eU hown9 g9 rfl);have HOW9:=hid hown9;have k9:W9.cell? ⟨w7.heap.size,3,aD⟩=aC (aE (aC ⟨gb,0,aD⟩) z4 cap):=(by rw[<- HZ4.out];exact cell_of_row _ _ 3 _ _ _ HB9.out);have f9:=frozen_of_row W9 w7.heap.size 3 _ _ HB9.out;clear hown9 hgrow9 hnil9 hn9))
            all_goals
             have hins:gJ L s.aL b x=b.take j4++⟨x.Id,x.aP,LB⟩::b.drop j4:=by
              rw[HBB.out];exact oD (x:=⟨x.Id,x.aP,LB⟩) (by rw[HZ4.out];omega) HLE.out (fun y' hy'=>by have h:=(aBD.1 hy').1;rw[HZ4.out] at h;omega)
             have hlen:(gJ L s.aL b x).length=n9:=by rw[tW,HZ4.out,HN9.out]
             have hO9:=HMK.out W9 g9 n9 cp9 j4 [aA aB x.Id,aA aB x.aP.aG,aA aB x.aP.aI,aA aB x.aP.aH,aA aB x.aP.aJ,aE pa x.aP.aF.length pc,aE (aC ⟨vb,vo,aD⟩) LB.length vc] ⟨x.Id,x.aP,LB⟩ HX9.out HG9.out (by omega) HNEW.out.1 HLX.out HNEW.out.2 HEX.out HOW9.out HN9.out;rw[<- hins,<- hlen] at hO9;have hC9:=HC5.out.anew HX9.out HG9.out hO9;have e:(m++[x.Id]).length=m.length+1:=by simp
             rw[hlen,e] at hC9;have HC9:=hid hC9;clear hins hlen hO9 hC9;go_roundw
             case rel=>exact⟨_,_,j+1,gJ L s.aL b x,m++[x.Id],d,by go_num,by omega,HC9,HLA2,hid (by rw[e];have:=HMD.out;omega)⟩
             case measure=>simp[intOf];omega
           ·skip
            go_wp2_with fail
            go_quiet (fail)
            have HXQ:=hid (HXI.out.tr ((Ext.rf wr).dn nq));have HOQ:=hid ((bE HOW.out ((Ext.rf wr).dn nq)).alloc (.cells #[aA aB x.Id,aA aB x.aP.aG,aA aB x.aP.aI,aA aB x.aP.aH,aA aB x.aP.aJ,aE pa x.aP.aF.length pc,aE (aC ⟨vb,vo,aD⟩) LB.length vc] 40));have HN7:=hid (xO (wr.drewN nq) [aA aB x.Id,aA aB x.aP.aG,aA aB x.aP.aI,aA aB x.aP.aH,aA aB x.aP.aJ,aE pa x.aP.aF.length pc,aE (aC ⟨vb,vo,aD⟩) LB.length vc] 40 rfl);have HS7:=hid (show W5.heap.size<=((wr.drewN nq).alloc (.cells #[aA aB x.Id,aA aB x.aP.aG,aA aB x.aP.aI,aA aB x.aP.aH,aA aB x.aP.aJ,aE pa x.aP.aF.length pc,aE (aC ⟨vb,vo,aD⟩) LB.length vc] 40)).heap.size from (HXQ.out.al _).size);have HVM:=hid HOW.out.lt;clear k3 f0 f1 f2 f3 f4 f5 f6;obtain⟨f0,f1,f2,f3,f4,f5,f6,_⟩:=dX (aW HR5.out HXQ.out);generalize wr.drewN nq=wq4 at *;have HSRC:=hid (show ∀ o,(o=j4*7\/z4<=j4)->∀ (j:Nat) v,(css.drop j4).flatten[j]?=aC v->W5.cell? ((⟨gb,o,aD⟩:Addr).add j)=aC v from fun o ho j v hv=>by
             rcases ho with ho | hc
             ·rw[ho,yL];refine HQ5.out _ v ?_;rw[<- eW css HQ.out.2.1,aBN] at hv;exact hv
             ·have h0:css.drop j4=[]:=aDI (by rw[HQ.out.1];omega);rw[h0] at hv;simp at hv)
            have HDL:=hid (show (css.drop j4).flatten.length=(z4 - j4)*7 from by rw[gU _ (fun cs hm=>HQ.out.2.1 cs (aDb hm)),aDc,HQ.out.1]);have HD1:=hid (show ∀ v∈(css.drop j4).flatten,v.oneCell'=true from fun v hv=>HQ.out.2.2 v (by
             rw[<- eW css HQ.out.2.1] at hv;exact aDb hv))
            have hj4I:(j4:Int)<=(z4:Int):=by omega
            go_wp2_with (first
             | (at_builtin;refine wpList_append_lies _ rfl _ _ 23 rfl W5.heap.size 40 ib _ 7 88 underlying23 ib1 ib2 HIB3.out HIB4.out rfl (by decide) u27 j4 (css.take j4).flatten rfl HOQ.out ⟨wq4.heap.size,0,aD⟩ 1 1 [aA aB x.Id,aA aB x.aP.aG,aA aB x.aP.aI,aA aB x.aP.aH,aA aB x.aP.aJ,aE pa x.aP.aF.length pc,aE (aC ⟨vb,vo,aD⟩) LB.length vc] rfl rfl HN7.out (by simp[aBz]) (by omega) (by unfold maxLen;omega) (by omega) HS7.out (wq4.heap.size+1) (by simp) ?_;intro g4 cp4 W8 hown4 hgrow4 hlie4 hlt44;have HX8:Hid (Ext W5 W8):=hid ((HXQ.out.al _).gr hgrow4 (fun r hr=>(HVM.out r hr).1));have k5:W8.cell? ⟨w7.heap.size,3,aD⟩=aC (aE (aC ⟨gb,0,aD⟩) z4 cap):=HX8.out.ce' (by rw[<- HZ4.out];exact cell_of_row _ _ 3 _ _ _ HC5.out.box);have HOW4:=hid hown4;clear hown4 hgrow4 hlie4 hlt44)
             | (at_builtin;refine wpList_append_own _ rfl _ _ 23 rfl W5.heap.size 40 ib _ 7 88 underlying23 ib1 ib2 HIB3.out HIB4.out rfl (by decide) _ (j4+1) _ rfl HOW4.out ⟨gb,j4*7,aD⟩ _ _ (css.drop j4).flatten rfl (by first | exact HDL.out | (rw[HDL.out];omega)) (fun j u hj=>eG HX8.out (HSRC.out _ (.inl rfl) j u hj)) HD1.out (by unfold maxLen;omega) (by omega) HX8.out.size ?_;intro v9 W9 hown9 hgrow9 hnil9;obtain⟨n9,hn9,hown9⟩:∃ n9,n9=z4+1/\W9.ownsRow W5.heap.size 40 7 v9 n9 ((css.take j4).flatten++[aA aB x.Id,aA aB x.aP.aG,aA aB x.aP.aI,aA aB x.aP.aH,aA aB x.aP.aJ,aE pa x.aP.aF.length pc,aE (aC ⟨vb,vo,aD⟩) LB.length vc]++(css.drop j4).flatten):=⟨_,by omega,hown9⟩;obtain⟨g9,cp9,rfl⟩:=iK hown9 (by omega);have HN9:=hid hn9;have HX9:Hid (Ext W5 W9):=hid (HX8.out.gr (v:=aE (aC ⟨g4,0,aD⟩) (j4+1) cp4) hgrow9 (fun r hr=>by have e1:=eU HOW4.out g4 rfl;have e2:=Option.some.inj hr;have e3:g4=r:=e2;omega));have HB9:=hid (aW HC5.out.box HX9.out);have HG9:=hid (eU hown9 g9 rfl);have HOW9:=hid hown9;have k9:W9.cell? ⟨w7.heap.size,3,aD⟩=aC (aE (aC ⟨gb,0,aD⟩) z4 cap):=(by rw[<- HZ4.out];exact cell_of_row _ _ 3 _ _ _ HB9.out);have f9:=frozen_of_row W9 w7.heap.size 3 _ _ HB9.out;clear hown9 hgrow9 hnil9 hn9))
            all_goals
             have hins:gJ L s.aL b x=b.take j4++⟨x.Id,x.aP,LB⟩::b.drop j4:=by
              rw[HBB.out];exact oD (x:=⟨x.Id,x.aP,LB⟩) (by rw[HZ4.out];omega) HLE.out (fun y' hy'=>by have h:=(aBD.1 hy').1;rw[HZ4.out] at h;omega)
             have hlen:(gJ L s.aL b x).length=n9:=by rw[tW,HZ4.out,HN9.out]
             have hO9:=HMK.out W9 g9 n9 cp9 j4 [aA aB x.Id,aA aB x.aP.aG,aA aB x.aP.aI,aA aB x.aP.aH,aA aB x.aP.aJ,aE pa x.aP.aF.length pc,aE (aC ⟨vb,vo,aD⟩) LB.length vc] ⟨x.Id,x.aP,LB⟩ HX9.out HG9.out (by omega) HNEW.out.1 HLX.out HNEW.out.2 HEX.out HOW9.out HN9.out;rw[<- hins,<- hlen] at hO9;have hC9:=HC5.out.anew HX9.out HG9.out hO9;have e:(m++[x.Id]).length=m.length+1:=by simp
             rw[hlen,e] at hC9;have HC9:=hid hC9;clear hins hlen hO9 hC9;go_roundw
             case rel=>exact⟨_,_,j+1,gJ L s.aL b x,m++[x.Id],d,by go_num,by omega,HC9,HLA2,hid (by rw[e];have:=HMD.out;omega)⟩
             case measure=>simp[intOf];omega
     ·obtain rfl:j=al:=by omega
      have hgo:=HLA.out.go;rw[List.drop_of_length_le (by rw[HAL.out];exact aBq _)] at hgo;have hEe:lZ s k f=(b,m,d):=HRE.out.trans hgo.symm;have HB11:=hid (HLN2.out▸HC.out.box);have e0:wr.cell? ⟨w7.heap.size,0,aD⟩=aC (aA aB s.aL):=cell_of_row _ _ 0 _ _ _ HB11.out;have e1:wr.cell? ⟨w7.heap.size,1,aD⟩=aC (aA aB s.aM):=cell_of_row _ _ 1 _ _ _ HB11.out;have e2:wr.cell? ⟨w7.heap.size,2,aD⟩=aC (aE (aC ⟨gq,0,aD⟩) n qc):=cell_of_row _ _ 2 _ _ _ HB11.out;have e3:wr.cell? ⟨w7.heap.size,3,aD⟩=aC (aE (aC ⟨gb,0,aD⟩) b.length cap):=cell_of_row _ _ 3 _ _ _ HB11.out;have HZ:=hid (HZ0.out _ HC.out.ext);have HO11:=hid (HC.out.own);have EI:=hid (Zh (q:=k) H0.out H2.out);have hids:∀ y∈m++d,I64 y:=fun y hy=>by
       have hp:=EI.out.perm;rw[hEe] at hp;obtain⟨z',hz',rfl⟩:=List.mem_map.1 (hp.subset hy);obtain⟨_,q1,q2⟩:=HAB.out z' (by rw[<- HAE.out];exact(iU _).symm.subset hz');have:=HNX.out;unfold I64;omega
      have HEND:=hid (show StS w.heap.size (wr.setRow (w.heap.size+1) #[aA aB s.aL,aA aB s.aM,aE (aC ⟨gq,0,aD⟩) n qc,aE (aC ⟨gb,0,aD⟩) b.length cap]) (aE (aC ⟨gq,0,aD⟩) n qc) (aE (aC ⟨gb,0,aD⟩) b.length cap) (pY s k f) from .inl (by
       have h:=(((HO11.out.under (r:=w.heap.size+1) (by have:=HSB.out;omega)).kept (bS wr (w.heap.size+1) #[aA aB s.aL,aA aB s.aM,aE (aC ⟨gq,0,aD⟩) n qc,aE (aC ⟨gb,0,aD⟩) b.length cap]) (aCw ..)).low (ex2:=[]) (B2:=w.heap.size) HX0.out.size (fun r hr=>by cases hr));have e:(pY s k f).aK=b:=by show (lZ s k f).1=b;rw[hEe]
       have e':(pY s k f).aN=L:=HLL.out;rw[e,e'];rw[HLN2.out] at h;exact h))
      have HX12:=hid ((HX0.out.tr HC.out.ext).sr (b:=w.heap.size+1) (by omega) #[aA aB s.aL,aA aB s.aM,aE (aC ⟨gq,0,aD⟩) n qc,aE (aC ⟨gb,0,aD⟩) b.length cap]);have HR12:=hid (setRow_heap wr (w.heap.size+1) _ #[aA aB s.aL,aA aB s.aM,aE (aC ⟨gq,0,aD⟩) n qc,aE (aC ⟨gb,0,aD⟩) b.length cap] _ _ HZ.out);have HRR:=hid (show cr=(pY s k f,m,d,0) from by rw[HR.out,hEe]);have hsz:=HSB.out;have HIM:=hid (mU (cY HC.out.mrow (bS wr (w.heap.size+1) #[aA aB s.aL,aA aB s.aM,aE (aC ⟨gq,0,aD⟩) n qc,aE (aC ⟨gb,0,aD⟩) b.length cap]) (fun r hr e=>by have:=(HC.out.mrow.lt r hr).1;have:=Option.some.inj e;omega)) (fun y hy=>hids y (aD1 _ hy)) (by have:=HMD.out;omega));have HID:=hid (mU (cY HC.out.drow (bS wr (w.heap.size+1) #[aA aB s.aL,aA aB s.aM,aE (aC ⟨gq,0,aD⟩) n qc,aE (aC ⟨gb,0,aD⟩) b.length cap]) (fun r hr e=>by have:=(HC.out.drow.lt r hr).1;have:=Option.some.inj e;omega)) (fun y hy=>hids y (aD2 _ hy)) (by have:=HMD.out;omega));clear hgo hEe hids hsz
      go_wp2_with (refine wpList_store_row rfl 25 _ _ rfl (w.heap.size+1) #[aA aB s.aL,aA aB s.aM,aE (aC ⟨gq,0,aD⟩) n qc,aE (aC ⟨gb,0,aD⟩) b.length cap] rfl rfl 25 _ HZ.out size25 rfl (by simp[aBz]) ?_)
      exact bodyPost_ret (cU (u1:=7) (u2:=8) (u3:=9) rfl _ _ (w.heap.size+1) 25 #[aA aB s.aL,aA aB s.aM,aE (aC ⟨gq,0,aD⟩) n qc,aE (aC ⟨gb,0,aD⟩) b.length cap] (0,0) _ rfl HR12.out underlying25 rfl size25) rfl (lK (s:=pY s k f) HRR.out HEND.out HIM.out HID.out HX12.out)
   ·obtain⟨t,q,ho⟩:=uM hf;obtain⟨x,hx,hh⟩:=Ec HOKT.out hbok ho;rw[uF ho] at HT;have HHO:=hid ho;have HHX:=hid hx;clear hf ho hx hh
    go_wp2_with fail
    refine HT.out.mono ?_;rintro e w12 ⟨rfl,hx12⟩;clear k0 k2 k3;have HA2:=hid (HA.out.later hx12);have VI:=hid (Gy w12 s.aL s.aM _ _ L b t q HA2.out.own.tree HA2.out.own.books HOKT.out hbok hb12);have k0:w12.cell? ⟨w7.heap.size,0,aD⟩=aC (aA aB s.aL):=cell_of_row _ _ 0 _ _ _ HA2.out.box;have k1:w12.cell? ⟨w7.heap.size,1,aD⟩=aC (aA aB s.aM):=cell_of_row _ _ 1 _ _ _ HA2.out.box;have k2:w12.cell? ⟨w7.heap.size,2,aD⟩=aC (aE (aC ⟨gq,0,aD⟩) L.length qc):=cell_of_row _ _ 2 _ _ _ HA2.out.box;have k3:w12.cell? ⟨w7.heap.size,3,aD⟩=aC (aE (aC ⟨gb,0,aD⟩) b.length cap):=cell_of_row _ _ 3 _ _ _ HA2.out.box;clear hx12 HT
    go_wp2_with fail
    refine VI.out.mono ?_;rintro e w13 ⟨rfl,hx13⟩;clear k0 k1 k2 k3;have HA3:=hid (HA2.out.later hx13);have HRS:=hid (HRL.out.step HHO.out HHX.out);have HKL:=hid (aBD.1 HHX.out).1;clear hx13 VI HA2;have HBL:=hid (qU HA.out);generalize oJ L b t q=kv at *;have HA12:=hid (show a.length+1<=12 from by have h1:=HRL.out.perm.length_eq;rw[aBk] at h1;have:=HN12.out;have:=HKL.out;omega);obtain⟨A,hA⟩:∃ A,iD a=A:=⟨_,rfl⟩;have HAE:=hid hA;rw[hA] at HA3;have HAL:=hid (show A.length=a.length from hA▸(iU a).length_eq);obtain⟨al,hal⟩:∃ al,A.length=al:=⟨_,rfl⟩;have HAL2:=hid hal;have hal12:al+1<=12:=by have:=HAL.out;have:=HA12.out;omega
    clear HA hA hal;obtain⟨css,o1,o2,o3,_⟩:=HA3.out.away;obtain⟨pv,bv,⟨c0,c1,c2,c3,c4,c5,c6⟩,hpx,hbx,hbkc,hlx,hap⟩:=HA3.out.own.take1 rfl HHX.out;obtain⟨pa,pc,hpf,_⟩:=hpx.form;obtain⟨ba',bc',hbf,_⟩:=hbx.form;subst hpf hbf;have k3:w13.cell? ⟨w7.heap.size,3,aD⟩=aC (aE (aC ⟨gb,0,aD⟩) b.length cap):=cell_of_row _ _ 3 _ _ _ HA3.out.box;have HOWN:=hid (Yi w13 [aA aB x.Id,aA aB x.aP.aG,aA aB x.aP.aI,aA aB x.aP.aH,aA aB x.aP.aJ,aE pa x.aP.aF.length pc,aE ba' x.aO.length bc'] rfl);have HROW:=hid (bE o1 ((Ext.rf w13).al (.cells #[aA aB x.Id,aA aB x.aP.aG,aA aB x.aP.aI,aA aB x.aP.aH,aA aB x.aP.aJ,aE pa x.aP.aF.length pc,aE ba' x.aO.length bc'] 40)));have HOLD:=hid (And.intro o2 o3);have HXX:=hid (And.intro hbkc (And.intro hlx hap));have HS13:=hid (show wb.heap.size<=w13.heap.size from HA3.out.ext.size);have hkz:kv < b.length:=HKL.out;have hkz2:(kv:Int) < (b.length:Int):=by omega
    have hk0:(0:Int)<=(kv:Int):=by omega
    clear o1 o2 o3 hpx hbx hbkc hlx hap;rw[HAL2.out] at HROW
    go_wp2_with (at_builtin;refine wY rfl _ _ 23 rfl w13.heap.size 40 ib _ 7 88 underlying23 ib1 ib2 HIB3.out HIB4.out rfl (by decide) w13.heap.size 1 1 _ rfl HOWN.out (aBq _) u12 wb.heap.size al css.flatten rfl HROW.out HOLD.out.1.one (by unfold maxLen;omega) (by omega) (by simp) ?_;intro v2 w14 hown2 hgrow2)
    obtain⟨N,hN⟩:∃ N,1+al=N:=⟨_,rfl⟩;rw[hN] at hown2;obtain⟨g2,cap2,rfl⟩:=iK hown2 (by omega);have hg2:=eU hown2 g2 rfl;have hx14:Ext w13 w14:=((Ext.rf w13).al _).gr (v:=aE (aC ⟨w13.heap.size,0,aD⟩) 1 1) hgrow2 (fun r hr=>by have e:=Option.some.inj hr;have e2:w13.heap.size=r:=e;omega);have hA4:=HA3.out.pre HOLD.out.1 HOLD.out.2 HXX.out.1 HXX.out.2.1 HXX.out.2.2 hx14 hg2 hown2 (by rw[HAL2.out];omega);have HNN:=hid hN;have HA4:Hid (dR wb w7.heap.size gq qc gb cap s.aL s.aM L b (A.take 0++x::A.drop 0) (aE (aC ⟨g2,0,aD⟩) N cap2) w14):=hid hA4;have HLX:=hid HXX.out.2.1;have hxid:=(dY HXX.out.1).2.2.2;have HXI:=hid hxid;clear hown2 hgrow2 hx14 hA4 hg2 hN HA3 HOWN HROW HOLD HXX k3 c0 c1 c2 c3 c4 c5 c6 hxid
    go_wp2_with fail
    go_loopw [17] (fun i wi=>∃ j:Nat,i=aA aB j/\j<=al/\Hid (dR wb w7.heap.size gq qc gb cap s.aL s.aM L b (A.take j++x::A.drop j) (aE (aC ⟨g2,0,aD⟩) N cap2) wi)/\Hid (∀ (i:Nat) (y:aT),i < j->A[i]?=aC y->y.Id < x.Id)) (fun i _=>al - (intOf i).toNat)
    case atStart=>exact⟨0,rfl,aBO _,HA4,hid (fun i y h=>by omega)⟩
    case round=>
     obtain⟨j,rfl,hj,HAJ,HLE⟩:=hrel;by_cases hlt:j < al
     ·obtain⟨y,hy⟩:=bT (f:=A) (k:=j) (by rw[HAL2.out];exact hlt);obtain⟨hj1,hj2⟩:=aAU (x:=x) (show j<=A.length by rw[HAL2.out];omega) hy;obtain⟨pv1,bv1,⟨c0,c1,c2,c3,c4,c5,c6⟩,hb1,ha1,ht1⟩:=HAJ.out.away.at hj1;obtain⟨pv2,bv2,⟨d0,d1,d2,d3,d4,d5,d6⟩,hb2,ha2,ht2⟩:=HAJ.out.away.at hj2;obtain⟨pa1,pc1,hf1,_⟩:=(dY hb1).1.form;obtain⟨ba1,bc1,hf2,_⟩:=(dY hb1).2.1.form;obtain⟨pa2,pc2,hf3,_⟩:=(dY hb2).1.form;obtain⟨ba2,bc2,hf4,_⟩:=(dY hb2).2.1.form;subst hf1 hf2 hf3 hf4;have HY:=hid hy;have H1:=hid (And.intro hb1 ha1);have H22:=hid (And.intro hb2 ha2);have HT1:=hid ht1;have HT2:=hid ht2;have hjn:j+1 < N:=by have:=HNN.out;omega
      have hjm:(j:Int)+1 < (N:Int):=by omega
      have hjt2:=deT hjn;have hjN:j < N:=by omega
      have hjNI:(j:Int) < (N:Int):=by omega
      have hj01:(0:Int)<=(j:Int)+1:=by omega
      have hj0:(0:Int)<=(j:Int):=by omega
      have hwj:IntKind.i64.wrap ((j:Int)+1)=(j:Int)+1:=by rw[IntKind.wrap_i64];omega
      have hjt:=deT hjm;have HJ:=hid (And.intro hj1 hj2);clear hb1 ha1 hb2 ha2 ht1 ht2 hj1 hj2 hy;by_cases hl:y.Id < x.Id
      ·have hlt1:=deT hl
       go_wp2_with fail
       go_quiet (fail)
       go_wp2_with fail
       have HAQ:=hid (HAJ.out.later ((Ext.rf wr).dn nq));have HS14:=hid (show ∀ W,Ext (wr.drewN nq) W->W.cell? ⟨g2,j*7,aD⟩=aC (aA aB x.Id)/\W.cell? ⟨g2,j*7+1,aD⟩=aC (aA aB x.aP.aG)/\W.cell? ⟨g2,j*7+2,aD⟩=aC (aA aB x.aP.aI)/\W.cell? ⟨g2,j*7+3,aD⟩=aC (aA aB x.aP.aH)/\W.cell? ⟨g2,j*7+4,aD⟩=aC (aA aB x.aP.aJ)/\W.cell? ⟨g2,j*7+5,aD⟩=aC (aE pa1 x.aP.aF.length pc1)/\W.cell? ⟨g2,j*7+6,aD⟩=aC (aE ba1 x.aO.length bc1)/\W.cell? ⟨g2,(j+1)*7,aD⟩=aC (aA aB y.Id)/\W.cell? ⟨g2,(j+1)*7+1,aD⟩=aC (aA aB y.aP.aG)/\W.cell? ⟨g2,(j+1)*7+2,aD⟩=aC (aA aB y.aP.aI)/\W.cell? ⟨g2,(j+1)*7+3,aD⟩=aC (aA aB y.aP.aH)/\W.cell? ⟨g2,(j+1)*7+4,aD⟩=aC (aA aB y.aP.aJ)/\W.cell? ⟨g2,(j+1)*7+5,aD⟩=aC (aE pa2 y.aP.aF.length pc2)/\W.cell? ⟨g2,(j+1)*7+6,aD⟩=aC (aE ba2 y.aO.length bc2) from fun W hW=>⟨hW.ce' (((Ext.rf wr).dn nq).ce' c0),hW.ce' (((Ext.rf wr).dn nq).ce' c1),hW.ce' (((Ext.rf wr).dn nq).ce' c2),hW.ce' (((Ext.rf wr).dn nq).ce' c3),hW.ce' (((Ext.rf wr).dn nq).ce' c4),hW.ce' (((Ext.rf wr).dn nq).ce' c5),hW.ce' (((Ext.rf wr).dn nq).ce' c6),hW.ce' (((Ext.rf wr).dn nq).ce' d0),hW.ce' (((Ext.rf wr).dn nq).ce' d1),hW.ce' (((Ext.rf wr).dn nq).ce' d2),hW.ce' (((Ext.rf wr).dn nq).ce' d3),hW.ce' (((Ext.rf wr).dn nq).ce' d4),hW.ce' (((Ext.rf wr).dn nq).ce' d5),hW.ce' (((Ext.rf wr).dn nq).ce' d6)⟩);have HB1:=hid (H1.out.1.mono ((Ext.rf wr).dn nq));have HB2:=hid (H22.out.1.mono ((Ext.rf wr).dn nq));generalize wr.drewN nq=wq at *
       go_cut [18,19] from 82 to 120 (fun p1 p2 W=>∃ (B1 B2:Nat),p1=.pointer (aC ⟨B1,0,aD⟩)/\p2=.pointer (aC ⟨B2,0,aD⟩)/\Hid (W.heap[B1]?=aC (.cells #[aA aB x.Id,aA aB x.aP.aG,aA aB x.aP.aI,aA aB x.aP.aH,aA aB x.aP.aJ,aE pa1 x.aP.aF.length pc1,aE ba1 x.aO.length bc1] 40 (0,0)))/\Hid (W.heap[B2]?=aC (.cells #[aA aB y.Id,aA aB y.aP.aG,aA aB y.aP.aI,aA aB y.aP.aH,aA aB y.aP.aJ,aE pa2 y.aP.aF.length pc2,aE ba2 y.aO.length bc2] 40 (0,0)))/\wq.heap.size<=B1/\wq.heap.size<=B2/\Ext wq W)
       case first=>
        refine wp_region_held_drew (S:=fun W=>W.cell? ⟨g2,j*7,aD⟩=aC (aA aB x.Id)/\W.cell? ⟨g2,j*7+1,aD⟩=aC (aA aB x.aP.aG)/\W.cell? ⟨g2,j*7+2,aD⟩=aC (aA aB x.aP.aI)/\W.cell? ⟨g2,j*7+3,aD⟩=aC (aA aB x.aP.aH)/\W.cell? ⟨g2,j*7+4,aD⟩=aC (aA aB x.aP.aJ)/\W.cell? ⟨g2,j*7+5,aD⟩=aC (aE pa1 x.aP.aF.length pc1)/\W.cell? ⟨g2,j*7+6,aD⟩=aC (aE ba1 x.aO.length bc1)/\W.cell? ⟨g2,(j+1)*7,aD⟩=aC (aA aB y.Id)/\W.cell? ⟨g2,(j+1)*7+1,aD⟩=aC (aA aB y.aP.aG)/\W.cell? ⟨g2,(j+1)*7+2,aD⟩=aC (aA aB y.aP.aI)/\W.cell? ⟨g2,(j+1)*7+3,aD⟩=aC (aA aB y.aP.aH)/\W.cell? ⟨g2,(j+1)*7+4,aD⟩=aC (aA aB y.aP.aJ)/\W.cell? ⟨g2,(j+1)*7+5,aD⟩=aC (aE pa2 y.aP.aF.length pc2)/\W.cell? ⟨g2,(j+1)*7+6,aD⟩=aC (aE ba2 y.aO.length bc2)) (by kernel_rfl) (HS14.out _ (Ext.rf wq).dr) (fun hHeld=>?_);clear c0 c1 c2 c3 c4 c5 c6 d0 d1 d2 d3 d4 d5 d6;refine tkH 0 ?_;refine tkH 1 ?_;refine tkH 2 ?_;refine tkH 3 ?_;refine tkH 4 ?_;refine tkH 5 ?_;refine tkH 6 ?_;refine tkH 7 ?_;refine tkH 8 ?_;refine wpAnyH_ready (rs:=[9,10]) (by kernel_rfl) (by simp) ?_;refine AllReadyH.cons rfl (fun K hK=>?_) (AllReadyH.cons rfl (fun K hK=>?_) AllReadyH.nil)
        all_goals simp only[zA,zB,zC]
        ·go_simp;obtain⟨Wa,hWa⟩:∃ Wa,(wq.alloc (.cells #[aA aB 0,aA aB 0,aA aB 0,aA aB 0,aA aB 0,aE aD 0 0,aE aD 0 0] 40)).drew=Wa:=⟨_,rfl⟩;rw[hWa];have hxa:Ext wq Wa:=hWa▸((Ext.rf wq).al _).dr;have hra:Wa.heap[wq.heap.size]?=aC (.cells #[aA aB 0,aA aB 0,aA aB 0,aA aB 0,aA aB 0,aE aD 0 0,aE aD 0 0] 40 (0,0)):=hWa▸heap_alloc_new wq _;have hsa:Wa.heap.size=wq.heap.size+1:=by rw[<- hWa];exact aCl ..
         refine hK.out _ _ ?_ (fun hHeld=>?_)
         ·(exact HS14.out _ hxa)
         clear hK K;refine wpAnyH_ready (rs:=[10]) (by kernel_rfl) (by simp) ?_;refine AllReadyH.cons rfl (fun K hK=>?_) AllReadyH.nil;simp only[zA,zB,zC];go_simp;obtain⟨Wb,hWb⟩:∃ Wb,Wa.alloc (.cells #[aA aB 0,aA aB 0,aA aB 0,aA aB 0,aA aB 0,aE aD 0 0,aE aD 0 0] 40)=Wb:=⟨_,rfl⟩;rw[hWb];have hxb:Ext wq Wb:=hWb▸hxa.al _;have hr1:Wb.heap[wq.heap.size]?=aC (.cells #[aA aB 0,aA aB 0,aA aB 0,aA aB 0,aA aB 0,aE aD 0 0,aE aD 0 0] 40 (0,0)):=aW hra (hWb▸(Ext.rf Wa).al _);have hr2:Wb.heap[wq.heap.size+1]?=aC (.cells #[aA aB 0,aA aB 0,aA aB 0,aA aB 0,aA aB 0,aE aD 0 0,aE aD 0 0] 40 (0,0)):=by rw[<- hsa,<- hWb];exact heap_alloc_new Wa _
         refine hK.out _ _ ?_ (fun hHeld=>?_)
         ·(exact HS14.out _ hxb)
         clear hK K;refine wpAnyH_ready (rs:=[11]) (by kernel_rfl) (by simp) ?_;refine AllReadyH.cons rfl (fun K hK=>?_) AllReadyH.nil;simp only[zA,zB,zC];rw[if_pos (by rfl)];refine wp_store_row 40 _ _ rfl (wq.heap.size) #[aA aB x.Id,aA aB x.aP.aG,aA aB x.aP.aI,aA aB x.aP.aH,aA aB x.aP.aJ,aE pa1 x.aP.aF.length pc1,aE ba1 x.aO.length bc1] rfl rfl 40 _ hr1 size40 rfl (by simp[aBz]) ?_;obtain⟨Wc,hWc⟩:∃ Wc,Wb.setRow (wq.heap.size) #[aA aB x.Id,aA aB x.aP.aG,aA aB x.aP.aI,aA aB x.aP.aH,aA aB x.aP.aJ,aE pa1 x.aP.aF.length pc1,aE ba1 x.aO.length bc1]=Wc:=⟨_,rfl⟩;rw[hWc];have hxc:Ext wq Wc:=hWc▸hxb.sr (b:=wq.heap.size) (by omega) _;have hs1:Wc.heap[wq.heap.size]?=aC (.cells #[aA aB x.Id,aA aB x.aP.aG,aA aB x.aP.aI,aA aB x.aP.aH,aA aB x.aP.aJ,aE pa1 x.aP.aF.length pc1,aE ba1 x.aO.length bc1] 40 (0,0)):=hWc▸setRow_heap Wb (wq.heap.size) _ _ _ _ hr1;have hs2:Wc.heap[wq.heap.size+1]?=aC (.cells #[aA aB 0,aA aB 0,aA aB 0,aA aB 0,aA aB 0,aE aD 0 0,aE aD 0 0] 40 (0,0)):=((hWc▸bS Wb (wq.heap.size) #[aA aB x.Id,aA aB x.aP.aG,aA aB x.aP.aI,aA aB x.aP.aH,aA aB x.aP.aJ,aE pa1 x.aP.aF.length pc1,aE ba1 x.aO.length bc1]:Wb.grownBy Wc (aC (wq.heap.size))).block (wq.heap.size+1) (aBy.1 hr2).1 (fun e=>by have:=Option.some.inj e;omega)).trans hr2;refine hK.out _ _ ?_ (fun hHeld=>?_)
         ·(exact HS14.out _ hxc)
         clear hK K;refine wpAnyH_ready (rs:=[12]) (by kernel_rfl) (by simp) ?_;refine AllReadyH.cons rfl (fun K hK=>?_) AllReadyH.nil;simp only[zA,zB,zC];rw[if_pos (by rfl)];refine wp_store_row 40 _ _ rfl (wq.heap.size+1) #[aA aB y.Id,aA aB y.aP.aG,aA aB y.aP.aI,aA aB y.aP.aH,aA aB y.aP.aJ,aE pa2 y.aP.aF.length pc2,aE ba2 y.aO.length bc2] rfl rfl 40 _ hs2 size40 rfl (by simp[aBz]) ?_;obtain⟨Wd,hWd⟩:∃ Wd,Wc.setRow (wq.heap.size+1) #[aA aB y.Id,aA aB y.aP.aG,aA aB y.aP.aI,aA aB y.aP.aH,aA aB y.aP.aJ,aE pa2 y.aP.aF.length pc2,aE ba2 y.aO.length bc2]=Wd:=⟨_,rfl⟩;rw[hWd];have hxd:Ext wq Wd:=hWd▸hxc.sr (b:=wq.heap.size+1) (by omega) _;have ht1:Wd.heap[wq.heap.size+1]?=aC (.cells #[aA aB y.Id,aA aB y.aP.aG,aA aB y.aP.aI,aA aB y.aP.aH,aA aB y.aP.aJ,aE pa2 y.aP.aF.length pc2,aE ba2 y.aO.length bc2] 40 (0,0)):=hWd▸setRow_heap Wc (wq.heap.size+1) _ _ _ _ hs2;have ht2:Wd.heap[wq.heap.size]?=aC (.cells #[aA aB x.Id,aA aB x.aP.aG,aA aB x.aP.aI,aA aB x.aP.aH,aA aB x.aP.aJ,aE pa1 x.aP.aF.length pc1,aE ba1 x.aO.length bc1] 40 (0,0)):=((hWd▸bS Wc (wq.heap.size+1) #[aA aB y.Id,aA aB y.aP.aG,aA aB y.aP.aI,aA aB y.aP.aH,aA aB y.aP.aJ,aE pa2 y.aP.aF.length pc2,aE ba2 y.aO.length bc2]:Wc.grownBy Wd (aC (wq.heap.size+1))).block (wq.heap.size) (aBy.1 hs1).1 (fun e=>by have:=Option.some.inj e;omega)).trans hs1;refine hK.out _ _ ?_ (fun hHeld=>?_)
         ·(exact HS14.out _ hxd)
         clear hK K;refine wpAnyH_done (by kernel_rfl) ?_ _
         go_wp2_with fail
         go_meet
         case rel=>exact⟨_,_,rfl,rfl,hid ht2,hid ht1,by omega,by omega,hxd⟩
        ·go_simp;obtain⟨Wa,hWa⟩:∃ Wa,(wq.alloc (.cells #[aA aB 0,aA aB 0,aA aB 0,aA aB 0,aA aB 0,aE aD 0 0,aE aD 0 0] 40)).drew=Wa:=⟨_,rfl⟩;rw[hWa];have hxa:Ext wq Wa:=hWa▸((Ext.rf wq).al _).dr;have hra:Wa.heap[wq.heap.size]?=aC (.cells #[aA aB 0,aA aB 0,aA aB 0,aA aB 0,aA aB 0,aE aD 0 0,aE aD 0 0] 40 (0,0)):=hWa▸heap_alloc_new wq _;have hsa:Wa.heap.size=wq.heap.size+1:=by rw[<- hWa];exact aCl ..
         refine hK.out _ _ ?_ (fun hHeld=>?_)
         ·(exact HS14.out _ hxa)
         clear hK K;refine wpAnyH_ready (rs:=[9]) (by kernel_rfl) (by simp) ?_;refine AllReadyH.cons rfl (fun K hK=>?_) AllReadyH.nil;simp only[zA,zB,zC];go_simp;obtain⟨Wb,hWb⟩:∃ Wb,Wa.alloc (.cells #[aA aB 0,aA aB 0,aA aB 0,aA aB 0,aA aB 0,aE aD 0 0,aE aD 0 0] 40)=Wb:=⟨_,rfl⟩;rw[hWb];have hxb:Ext wq Wb:=hWb▸hxa.al _;have hr1:Wb.heap[wq.heap.size]?=aC (.cells #[aA aB 0,aA aB 0,aA aB 0,aA aB 0,aA aB 0,aE aD 0 0,aE aD 0 0] 40 (0,0)):=aW hra (hWb▸(Ext.rf Wa).al _);have hr2:Wb.heap[wq.heap.size+1]?=aC (.cells #[aA aB 0,aA aB 0,aA aB 0,aA aB 0,aA aB 0,aE aD 0 0,aE aD 0 0] 40 (0,0)):=by rw[<- hsa,<- hWb];exact heap_alloc_new Wa _
         refine hK.out _ _ ?_ (fun hHeld=>?_)
         ·(exact HS14.out _ hxb)
         clear hK K;refine wpAnyH_ready (rs:=[11]) (by kernel_rfl) (by simp) ?_;refine AllReadyH.cons rfl (fun K hK=>?_) AllReadyH.nil;simp only[zA,zB,zC];rw[if_pos (by rfl)];refine wp_store_row 40 _ _ rfl (wq.heap.size+1) #[aA aB x.Id,aA aB x.aP.aG,aA aB x.aP.aI,aA aB x.aP.aH,aA aB x.aP.aJ,aE pa1 x.aP.aF.length pc1,aE ba1 x.aO.length bc1] rfl rfl 40 _ hr2 size40 rfl (by simp[aBz]) ?_;obtain⟨Wc,hWc⟩:∃ Wc,Wb.setRow (wq.heap.size+1) #[aA aB x.Id,aA aB x.aP.aG,aA aB x.aP.aI,aA aB x.aP.aH,aA aB x.aP.aJ,aE pa1 x.aP.aF.length pc1,aE ba1 x.aO.length bc1]=Wc:=⟨_,rfl⟩;rw[hWc];have hxc:Ext wq Wc:=hWc▸hxb.sr (b:=wq.heap.size+1) (by omega) _;have hs1:Wc.heap[wq.heap.size+1]?=aC (.cells #[aA aB x.Id,aA aB x.aP.aG,aA aB x.aP.aI,aA aB x.aP.aH,aA aB x.aP.aJ,aE pa1 x.aP.aF.length pc1,aE ba1 x.aO.length bc1] 40 (0,0)):=hWc▸setRow_heap Wb (wq.heap.size+1) _ _ _ _ hr2;have hs2:Wc.heap[wq.heap.size]?=aC (.cells #[aA aB 0,aA aB 0,aA aB 0,aA aB 0,aA aB 0,aE aD 0 0,aE aD 0 0] 40 (0,0)):=((hWc▸bS Wb (wq.heap.size+1) #[aA aB x.Id,aA aB x.aP.aG,aA aB x.aP.aI,aA aB x.aP.aH,aA aB x.aP.aJ,aE pa1 x.aP.aF.length pc1,aE ba1 x.aO.length bc1]:Wb.grownBy Wc (aC (wq.heap.size+1))).block (wq.heap.size) (aBy.1 hr1).1 (fun e=>by have:=Option.some.inj e;omega)).trans hr1;refine hK.out _ _ ?_ (fun hHeld=>?_)
         ·(exact HS14.out _ hxc)
         clear hK K;refine wpAnyH_ready (rs:=[12]) (by kernel_rfl) (by simp) ?_;refine AllReadyH.cons rfl (fun K hK=>?_) AllReadyH.nil;simp only[zA,zB,zC];rw[if_pos (by rfl)];refine wp_store_row 40 _ _ rfl (wq.heap.size) #[aA aB y.Id,aA aB y.aP.aG,aA aB y.aP.aI,aA aB y.aP.aH,aA aB y.aP.aJ,aE pa2 y.aP.aF.length pc2,aE ba2 y.aO.length bc2] rfl rfl 40 _ hs2 size40 rfl (by simp[aBz]) ?_;obtain⟨Wd,hWd⟩:∃ Wd,Wc.setRow (wq.heap.size) #[aA aB y.Id,aA aB y.aP.aG,aA aB y.aP.aI,aA aB y.aP.aH,aA aB y.aP.aJ,aE pa2 y.aP.aF.length pc2,aE ba2 y.aO.length bc2]=Wd:=⟨_,rfl⟩;rw[hWd];have hxd:Ext wq Wd:=hWd▸hxc.sr (b:=wq.heap.size) (by omega) _;have ht1:Wd.heap[wq.heap.size]?=aC (.cells #[aA aB y.Id,aA aB y.aP.aG,aA aB y.aP.aI,aA aB y.aP.aH,aA aB y.aP.aJ,aE pa2 y.aP.aF.length pc2,aE ba2 y.aO.length bc2] 40 (0,0)):=hWd▸setRow_heap Wc (wq.heap.size) _ _ _ _ hs2;have ht2:Wd.heap[wq.heap.size+1]?=aC (.cells #[aA aB x.Id,aA aB x.aP.aG,aA aB x.aP.aI,aA aB x.aP.aH,aA aB x.aP.aJ,aE pa1 x.aP.aF.length pc1,aE ba1 x.aO.length bc1] 40 (0,0)):=((hWd▸bS Wc (wq.heap.size) #[aA aB y.Id,aA aB y.aP.aG,aA aB y.aP.aI,aA aB y.aP.aH,aA aB y.aP.aJ,aE pa2 y.aP.aF.length pc2,aE ba2 y.aO.length bc2]:Wc.grownBy Wd (aC (wq.heap.size))).block (wq.heap.size+1) (aBy.1 hs1).1 (fun e=>by have:=Option.some.inj e;omega)).trans hs1;refine hK.out _ _ ?_ (fun hHeld=>?_)
         ·(exact HS14.out _ hxd)
         clear hK K;refine wpAnyH_done (by kernel_rfl) ?_ _
         go_wp2_with fail
         go_meet
         case rel=>exact⟨_,_,rfl,rfl,hid ht2,hid ht1,by omega,by omega,hxd⟩
       case rest=>
        obtain⟨B1,B2,rfl,rfl,HR1,HR2,hB1,hB2,hxc⟩:=hcut;have hgq:=(HAQ.out.ne (r:=g2) rfl).2.2.2.2;have hAC:=HAQ.out.later hxc;obtain⟨_,_,_,_,_,htj⟩:=hAC.away.at HJ.out.1;have hP1:=hAC.put (aBD.1 HJ.out.1).1 (HB2.out.mono hxc) (hAC.live y (aBJ HJ.out.2)) H22.out.2;obtain⟨W2,hW2⟩:∃ W2,wc.setCells g2 (j*7) (#[aA aB y.Id,aA aB y.aP.aG,aA aB y.aP.aI,aA aB y.aP.aH,aA aB y.aP.aJ,aE pa2 y.aP.aF.length pc2,aE ba2 y.aO.length bc2]:Array Value).toList=W2:=⟨_,rfl⟩;have hg1:wc.grownBy W2 (aC g2):=hW2▸eV wc g2 _ _;have hP1':dR wb w7.heap.size gq qc gb cap s.aL s.aM L b ((A.take j++x::A.drop j).set j y) (aE (aC ⟨g2,0,aD⟩) N cap2) W2:=hW2▸hP1;have hxr:W2.heap[B1]?=aC (.cells #[aA aB x.Id,aA aB x.aP.aG,aA aB x.aP.aI,aA aB x.aP.aH,aA aB x.aP.aJ,aE pa1 x.aP.aF.length pc1,aE ba1 x.aO.length bc1] 40 (0,0)):=(hg1.block B1 (aBy.1 HR1.out).1 (fun e=>by have:=Option.some.inj e;omega)).trans HR1.out;have hj3:((A.take j++x::A.drop j).set j y)[j+1]?=aC y:=by rw[List.getElem?_set_ne (by omega)];exact HJ.out.2
        obtain⟨_,_,_,_,_,htj2⟩:=hP1'.away.at hj3;have hP2:=hP1'.put (aBD.1 hj3).1 (gE (HB1.out.mono hxc) hg1 (fun u hu a n c e hm=>H1.out.2 u hu a n c e (by rw[aCB.1 hm];exact aCw ..))) HLX.out H1.out.2;rw[Yr (by rw[HAL2.out];exact hlt) HY.out] at hP2;obtain⟨W3,hW3⟩:∃ W3,W2.setCells g2 ((j+1)*7) (#[aA aB x.Id,aA aB x.aP.aG,aA aB x.aP.aI,aA aB x.aP.aH,aA aB x.aP.aJ,aE pa1 x.aP.aF.length pc1,aE ba1 x.aO.length bc1]:Array Value).toList=W3:=⟨_,rfl⟩;have HP3:Hid (dR wb w7.heap.size gq qc gb cap s.aL s.aM L b (A.take (j+1)++x::A.drop (j+1)) (aE (aC ⟨g2,0,aD⟩) N cap2) W3):=hid (hW3▸hP2);have HW2:=hid hW2;have HW3:=hid hW3;have HTJ:=hid htj;have HTJ2:=hid htj2;have HXR:=hid hxr;obtain⟨e0,e1,e2,e3,e4,e5,e6,_⟩:=dX HR2.out;have HLE2:=hid (show ∀ (i:Nat) (y':aT),i < j+1->A[i]?=aC y'->y'.Id < x.Id from fun i y' hi hy'=>by
         rcases aBK i j with h | h
         ·exact HLE.out i y' h hy'
         ·obtain rfl:i=j:=by omega
          rw[HY.out] at hy';cases hy';exact hl)
        clear hgq hAC htj hP1 hW2 hg1 hP1' hxr hj3 htj2 hP2 hW3 hxc;obtain⟨f0,f1,f2,f3,f4,f5,f6,_⟩:=dX HXR.out
        go_wp2_with (first | (refine wpList_store_mid rfl 40 (.tmp 115) (.tmp 114) rfl g2 (j*7) #[aA aB y.Id,aA aB y.aP.aG,aA aB y.aP.aI,aA aB y.aP.aH,aA aB y.aP.aJ,aE pa2 y.aP.aF.length pc2,aE ba2 y.aO.length bc2] rfl rfl HTJ.out size40 (by simp[aBz]) ?_;rw[HW2.out]) | (refine wpList_store_mid rfl 40 (.tmp 120) (.tmp 119) rfl g2 ((j+1)*7) #[aA aB x.Id,aA aB x.aP.aG,aA aB x.aP.aI,aA aB x.aP.aH,aA aB x.aP.aJ,aE pa1 x.aP.aF.length pc1,aE ba1 x.aO.length bc1] rfl rfl HTJ2.out size40 (by simp[aBz]) ?_;rw[HW3.out]))
        go_roundw
        case rel=>exact⟨j+1,by go_num,by omega,HP3,HLE2⟩
        case measure=>simp[intOf];omega
      ·have hlt1:=deF hl
       go_wp2_with fail
       go_quiet (fail)
       clear c0 c1 c2 c3 c4 c5 c6 d0 d1 d2 d3 d4 d5 d6;have hins:A.take j++x::A.drop j=iD (a++[x]):=by
        rw[Dj,HAE.out];exact(oD (by rw[HAL2.out];exact hj) HLE.out (fun y' hy'=>by rw[HY.out] at hy';cases hy';omega)).symm
       have hAS:=HAJ.out.later ((Ext.rf wr).dn nq);rw[hins] at hAS;have HAS:=hid hAS;clear hAS hins;generalize wr.drewN nq=wq at *;have WO:=hid (show Calls prog 97 #[.agg #[aA aB s.aL,aA aB s.aM,aE (aC ⟨gq,0,aD⟩) L.length qc,aE (aC ⟨gb,0,aD⟩) b.length cap],aA aB (kv:Int)] wq (fun e w'=>∃ u v,e=.returned (.agg #[aA aB s.aL,aA aB s.aM,u,v])/\cP [] wq.heap.size w' u v L (b.eraseIdx kv)/\Ext wq w'/\∃ g cap,v=aE (aC ⟨g,0,aD⟩) (b.eraseIdx kv).length cap) from sI wq _ _ ⟨s.aL,s.aM,L,b⟩ kv HAS.out.own.tree HAS.out.own.books HOKT.out hb12 hbok HKL.out);have k0:wq.cell? ⟨w7.heap.size,0,aD⟩=aC (aA aB s.aL):=cell_of_row _ _ 0 _ _ _ HAS.out.box;have k1:wq.cell? ⟨w7.heap.size,1,aD⟩=aC (aA aB s.aM):=cell_of_row _ _ 1 _ _ _ HAS.out.box;have k2:wq.cell? ⟨w7.heap.size,2,aD⟩=aC (aE (aC ⟨gq,0,aD⟩) L.length qc):=cell_of_row _ _ 2 _ _ _ HAS.out.box;have k3:wq.cell? ⟨w7.heap.size,3,aD⟩=aC (aE (aC ⟨gb,0,aD⟩) b.length cap):=cell_of_row _ _ 3 _ _ _ HAS.out.box
       go_wp2_with fail
       refine WO.out.mono ?_;rintro e w20 ⟨u20,v20,rfl,hO20,hx20,gb',cap',rfl⟩;obtain⟨gq',qc',rfl,_,_⟩:=hO20.uform;have HRN2:=hid (HAS.out.renew hO20 hx20);have HBX:=hid (aW HAS.out.box hx20);clear k0 k1 k2 k3 hO20 hx20 WO
       go_wp2_with (refine wpList_store_row rfl 25 _ _ rfl w7.heap.size #[aA aB s.aL,aA aB s.aM,aE (aC ⟨gq',0,aD⟩) L.length qc',aE (aC ⟨gb',0,aD⟩) (b.eraseIdx kv).length cap'] rfl rfl 25 _ HBX.out size25 rfl (by simp[aBz]) ?_)
       dsimp only[Act.put];go_roundw
       case rel=>exact⟨gq',qc',gb',cap',b.eraseIdx kv,a++[x],HRN2,HRS⟩
       case measure=>rw[qU HRN2.out,HBL.out,aDk HKL.out];omega
     ·obtain rfl:j=al:=by omega
      have hjn:¬ j+1 < N:=by have:=HNN.out;omega
      have hjm:¬ (j:Int)+1 < (N:Int):=by omega
      have hj0:(0:Int)<=(j:Int):=by omega
      have hwj:IntKind.i64.wrap ((j:Int)+1)=(j:Int)+1:=by rw[IntKind.wrap_i64];omega
      have hjt:=deF hjm;have hjt2:=deF hjn
      go_wp2_with fail
      go_quiet (fail)
      have hins:A.take j++x::A.drop j=iD (a++[x]):=by
       rw[Dj,HAE.out];exact(oD (by rw[HAL2.out];exact hj) HLE.out (fun y' hy'=>by have h:=(aBD.1 hy').1;rw[HAL2.out] at h;omega)).symm
      have hAS:=HAJ.out.later ((Ext.rf wr).dn nq);rw[hins] at hAS;have HAS:=hid hAS;clear hAS hins;generalize wr.drewN nq=wq at *;have WO:=hid (show Calls prog 97 #[.agg #[aA aB s.aL,aA aB s.aM,aE (aC ⟨gq,0,aD⟩) L.length qc,aE (aC ⟨gb,0,aD⟩) b.length cap],aA aB (kv:Int)] wq (fun e w'=>∃ u v,e=.returned (.agg #[aA aB s.aL,aA aB s.aM,u,v])/\cP [] wq.heap.size w' u v L (b.eraseIdx kv)/\Ext wq w'/\∃ g cap,v=aE (aC ⟨g,0,aD⟩) (b.eraseIdx kv).length cap) from sI wq _ _ ⟨s.aL,s.aM,L,b⟩ kv HAS.out.own.tree HAS.out.own.books HOKT.out hb12 hbok HKL.out);have k0:wq.cell? ⟨w7.heap.size,0,aD⟩=aC (aA aB s.aL):=cell_of_row _ _ 0 _ _ _ HAS.out.box;have k1:wq.cell? ⟨w7.heap.size,1,aD⟩=aC (aA aB s.aM):=cell_of_row _ _ 1 _ _ _ HAS.out.box;have k2:wq.cell? ⟨w7.heap.size,2,aD⟩=aC (aE (aC ⟨gq,0,aD⟩) L.length qc):=cell_of_row _ _ 2 _ _ _ HAS.out.box;have k3:wq.cell? ⟨w7.heap.size,3,aD⟩=aC (aE (aC ⟨gb,0,aD⟩) b.length cap):=cell_of_row _ _ 3 _ _ _ HAS.out.box
      go_wp2_with fail
      refine WO.out.mono ?_;rintro e w20 ⟨u20,v20,rfl,hO20,hx20,gb',cap',rfl⟩;obtain⟨gq',qc',rfl,_,_⟩:=hO20.uform;have HRN2:=hid (HAS.out.renew hO20 hx20);have HBX:=hid (aW HAS.out.box hx20);clear k0 k1 k2 k3 hO20 hx20 WO
      go_wp2_with (refine wpList_store_row rfl 25 _ _ rfl w7.heap.size #[aA aB s.aL,aA aB s.aM,aE (aC ⟨gq',0,aD⟩) L.length qc',aE (aC ⟨gb',0,aD⟩) (b.eraseIdx kv).length cap'] rfl rfl 25 _ HBX.out size25 rfl (by simp[aBz]) ?_)
      dsimp only[Act.put];go_roundw
      case rel=>exact⟨gq',qc',gb',cap',b.eraseIdx kv,a++[x],HRN2,HRS⟩
      case measure=>rw[qU HRN2.out,HBL.out,aDk HKL.out];omega
theorem Mt (w:World) (tv bv rv:Value) (s:aV) (q:Int) (f:List Run) (hl:aX w tv s.aN) (hb:bD w bv s.aK) (hr:bC w rv f) (hq:I64 q) :
  Calls prog 48 #[.agg #[aA aB s.aL,aA aB s.aM,tv,bv],aA aB q,rv] w (gV w (dK s q f)):=by
 by_cases h0:aZ s=0
 ·by_cases h1:0<=q/\q < s.aN.length
  ·obtain⟨k,rfl⟩:∃ k:Nat,q=k:=⟨q.toNat,by omega⟩;by_cases h2:fK f
   ·exact Io w tv bv rv s k f hl hb hr h0 (by omega) h2
   ·exact Ip w tv bv rv s k f hl hb hr h0 h1 h2
  ·exact Qa w tv bv rv s q f hl hb hr h0 h1
 ·exact Ms w tv bv rv s q f hl hb hr h0
structure dE where
 aJ:Int
 N:Int
 aP:aS
 Cap:List Run
@[irreducible] noncomputable def doR (s:aV) (x:dE):aV × Int:=
 if x.aJ=1 then((dC s x.aP).1,(dC s x.aP).2.2) else if x.aJ=2 then mW s x.N else if x.aJ=3 then((iC s x.N).1,(iC s x.N).2.2) else if x.aJ=4 then((dK s x.N x.Cap).1,(dK s x.N x.Cap).2.2.2) else(fA,7)
theorem Zk {s:aV} {x:dE} (h:x.aJ=1):doR s x=((dC s x.aP).1,(dC s x.aP).2.2):=by unfold doR;rw[if_pos h]
theorem aAL {s:aV} {x:dE} (h:x.aJ=2):doR s x=mW s x.N:=by unfold doR;rw[if_neg (by omega),if_pos h]
theorem Zj {s:aV} {x:dE} (h:x.aJ=3):doR s x=((iC s x.N).1,(iC s x.N).2.2):=by unfold doR;rw[if_neg (by omega),if_neg (by omega),if_pos h]
theorem aAK {s:aV} {x:dE} (h:x.aJ=4):doR s x=((dK s x.N x.Cap).1,(dK s x.N x.Cap).2.2.2):=by unfold doR;rw[if_neg (by omega),if_neg (by omega),if_neg (by omega),if_pos h]
theorem Sa {s:aV} {x:dE} (h1:x.aJ≠1) (h2:x.aJ≠2) (h3:x.aJ≠3) (h4:x.aJ≠4):doR s x=(fA,7):=by unfold doR;rw[if_neg h1,if_neg h2,if_neg h3,if_neg h4]
theorem StS.put {B B2 r:Nat} {W:World} {u v:Value} {S:aV} (h:StS B W u v S) (hr:r < B) (hb:B2<=B) (cs:Array Value):StS B2 (W.setRow r cs) u v S:=by
 rcases h with h | h
 ·exact .inl (((h.under (r:=r) hr).kept (bS W r cs) (aCw ..)).low (ex2:=[]) hb (fun r hr=>by cases hr))
 ·exact .inr h
theorem StS.later {B:Nat} {W W':World} {u v:Value} {S:aV} (h:StS B W u v S) (hx:Ext W W'):StS B W' u v S:=by
 rcases h with h | h
 ·exact .inl (h.ext hx)
 ·exact .inr h
theorem StS.forms {B:Nat} {W:World} {u v:Value} {S:aV} (h:StS B W u v S):∃ a c b d,u=aE a S.aN.length c/\v=aE b S.aK.length d:=by
 obtain⟨a,c,e1,_⟩:=h.tree.form;obtain⟨b,d,e2,_⟩:=h.books.form;exact⟨a,c,b,d,e1,e2⟩
theorem kL (w:World) (s:aV) (x:dE) (tv bv pv cv:Value):∃ w1:World,((w.alloc (.cells #[aA aB s.aL,aA aB s.aM,tv,bv] 25)).alloc (.cells #[aA aB x.aJ,aA aB x.N,aA aB x.aP.aG,aA aB x.aP.aI,aA aB x.aP.aH,aA aB x.aP.aJ,pv,cv] 31)).alloc (.cells #[aA aB 0,aA aB 0,aE aD 0 0,aE aD 0 0] 25)=w1/\Ext w w1/\
  (∀ W,Ext w1 W->W.heap[w.heap.size+2]?=aC (.cells #[aA aB 0,aA aB 0,aE aD 0 0,aE aD 0 0] 25 (0,0)))/\w1.heap.size=w.heap.size+3:=by
 refine⟨_,rfl,(((Ext.rf w).al _).al _).al _,fun W h=>?_,by simp⟩;have e:=heap_alloc_new ((w.alloc (.cells #[aA aB s.aL,aA aB s.aM,tv,bv] 25)).alloc (.cells #[aA aB x.aJ,aA aB x.N,aA aB x.aP.aG,aA aB x.aP.aI,aA aB x.aP.aH,aA aB x.aP.aJ,pv,cv] 31)) (.cells #[aA aB 0,aA aB 0,aE aD 0 0,aE aD 0 0] 25);simp only[aCl] at e;exact(h.block _ (by simp)).trans e
theorem Tv (w:World) (c n k m:Int) (a b:Option Addr) (x1 x2 y1 y2:Nat) :
  Calls prog 37 #[.agg #[aA aB c,aA aB n,aE a x1 x2,aE b y1 y2],aA aB k,aA aB m] w fun e w'=>e=.returned (.tuple #[.agg #[aA aB c,aA aB n,aE a x1 x2,aE b y1 y2],aA aB m])/\Ext w w':=by
 have hz:((w.alloc (.cells #[aA aB c,aA aB n,aE a x1 x2,aE b y1 y2] 25)).alloc (.cells #[aA aB 0,aA aB 0,aE aD 0 0,aE aD 0 0] 25)).heap[w.heap.size+1]?=aC (.cells #[aA aB 0,aA aB 0,aE aD 0 0,aE aD 0 0] 25 (0,0)):=by
  have e:=heap_alloc_new (w.alloc (.cells #[aA aB c,aA aB n,aE a x1 x2,aE b y1 y2] 25)) (.cells #[aA aB 0,aA aB 0,aE aD 0 0,aE aD 0 0] 25)
  rwa [aCl] at e
 have HZ:=hid hz;have HX:=hid ((((Ext.rf w).al (.cells #[aA aB c,aA aB n,aE a x1 x2,aE b y1 y2] 25)).al (.cells #[aA aB 0,aA aB 0,aE aD 0 0,aE aD 0 0] 25)).sr (b:=w.heap.size+1) (by omega) #[aA aB c,aA aB n,aE a x1 x2,aE b y1 y2]);have HR:=hid (setRow_heap _ (w.heap.size+1) _ #[aA aB c,aA aB n,aE a x1 x2,aE b y1 y2] _ _ hz);clear hz;go_enter func37,ntmps37
 go_wp2_with (refine wpList_store_row rfl 25 _ _ rfl (w.heap.size+1) #[aA aB c,aA aB n,aE a x1 x2,aE b y1 y2] rfl rfl 25 _ HZ.out size25 rfl (by simp[aBz]) ?_)
 exact bodyPost_ret (bZ (u:=7) rfl _ _ (w.heap.size+1) 25 #[aA aB c,aA aB n,aE a x1 x2,aE b y1 y2] (0,0) _ rfl HR.out underlying25 rfl size25) rfl ⟨rfl,HX.out⟩
theorem Do_1 (w:World) (tv bv pv cv:Value) (s:aV) (x:dE) (hk:x.aJ=1) (hl:aX w tv s.aN) (hb:bD w bv s.aK) (hp:aU w pv x.aP.aF) (hc:bC w cv x.Cap) (hI:I64 x.aP.aG/\I64 x.aP.aI/\I64 x.aP.aH/\I64 x.aP.aJ) (hN:I64 x.N) :
  Calls prog 13 #[.agg #[aA aB s.aL,aA aB s.aM,tv,bv],.agg #[aA aB x.aJ,aA aB x.N,aA aB x.aP.aG,aA aB x.aP.aI,aA aB x.aP.aH,aA aB x.aP.aJ,pv,cv]] w (eO w (doR s x)):=by
 have HRR:=hid (Zk (s:=s) hk);have CA:=hid (fun(W:World) (h:Ext w W)=>Tc W tv bv pv s x.aP (hl.mono h) (hb.mono h) (hp.mono h) hI);obtain⟨wb,hwb,HX,HZZ,hszb⟩:=kL w s x tv bv pv cv;have HX0:=hid HX;have HZ0:=hid HZZ;have HWB:=hid hwb;have HSB:=hid hszb;clear HX HZZ hwb hszb;have q1:=eqT hk;have q2:=eqF (show x.aJ≠2 by omega);have q3:=eqF (show x.aJ≠3 by omega);have q4:=eqF (show x.aJ≠4 by omega);obtain⟨qa,qc,rfl,_,_,_⟩:=hl.form;obtain⟨ba,bc,rfl,_,_,_⟩:=hb.form;obtain⟨pa,pc,rfl,_,_,_⟩:=hp.form;obtain⟨ra,rc,rfl,_,_,_⟩:=hc.form;clear hl hb hp hc hk;generalize dC s x.aP=cr at *;obtain⟨S,n,er⟩:=cr;generalize s.aN.length=sn at *;generalize s.aK.length=sz at *;generalize x.aP.aF.length=pn at *;generalize x.Cap.length=rn at *;go_enter func13,ntmps13
 go_wp2_with fail
 rw[HWB.out];refine(CA.out _ HX0.out).mono ?_;rintro e w2 ⟨u,v,rfl,hS,hx2⟩;obtain⟨ua,uc,va,vc,rfl,rfl⟩:=hS.forms;have ON:=hid (fun(W:World)=>Tv W S.aL S.aM n er ua va S.aN.length uc S.aK.length vc);have HS2:=hid hS;have HX2:=hid hx2;clear hS hx2
 go_wp2_with fail
 refine(ON.out _).mono ?_;rintro e w3 ⟨rfl,hx3⟩;have HS3:=hid (HS2.out.later hx3);have HX3:=hid (HX2.out.tr hx3);clear hx3;have HZ:=hid (HZ0.out _ HX3.out);have HEND:=hid (HS3.out.put (r:=w.heap.size+2) (B2:=w.heap.size) (by rw[HSB.out];omega) HX0.out.size #[aA aB S.aL,aA aB S.aM,aE ua S.aN.length uc,aE va S.aK.length vc]);have HXE:=hid ((HX0.out.tr HX3.out).sr (b:=w.heap.size+2) (by omega) #[aA aB S.aL,aA aB S.aM,aE ua S.aN.length uc,aE va S.aK.length vc]);have HR:=hid (setRow_heap w3 (w.heap.size+2) _ #[aA aB S.aL,aA aB S.aM,aE ua S.aN.length uc,aE va S.aK.length vc] _ _ HZ.out)
 go_wp2_with (refine wpList_store_row rfl 25 _ _ rfl (w.heap.size+2) #[aA aB S.aL,aA aB S.aM,aE ua S.aN.length uc,aE va S.aK.length vc] rfl rfl 25 _ HZ.out size25 rfl (by simp[aBz]) ?_)
 exact bodyPost_ret (bZ (u:=5) rfl _ _ (w.heap.size+2) 25 #[aA aB S.aL,aA aB S.aM,aE ua S.aN.length uc,aE va S.aK.length vc] (0,0) _ rfl HR.out underlying25 rfl size25) rfl (eS HRR.out HEND.out HXE.out)
theorem Do_2 (w:World) (tv bv pv cv:Value) (s:aV) (x:dE) (hk:x.aJ=2) (hl:aX w tv s.aN) (hb:bD w bv s.aK) (hp:aU w pv x.aP.aF) (hc:bC w cv x.Cap) (hI:I64 x.aP.aG/\I64 x.aP.aI/\I64 x.aP.aH/\I64 x.aP.aJ) (hN:I64 x.N) :
  Calls prog 13 #[.agg #[aA aB s.aL,aA aB s.aM,tv,bv],.agg #[aA aB x.aJ,aA aB x.N,aA aB x.aP.aG,aA aB x.aP.aI,aA aB x.aP.aH,aA aB x.aP.aJ,pv,cv]] w (eO w (doR s x)):=by
 have HRR:=hid (aAL (s:=s) hk);have CA:=hid (fun(W:World) (h:Ext w W)=>Tn W tv bv s x.N (hl.mono h) (hb.mono h));obtain⟨wb,hwb,HX,HZZ,hszb⟩:=kL w s x tv bv pv cv;have HX0:=hid HX;have HZ0:=hid HZZ;have HWB:=hid hwb;have HSB:=hid hszb;clear HX HZZ hwb hszb;have q1:=eqF (show x.aJ≠1 by omega);have q2:=eqT hk;have q3:=eqF (show x.aJ≠3 by omega);have q4:=eqF (show x.aJ≠4 by omega);obtain⟨qa,qc,rfl,_,_,_⟩:=hl.form;obtain⟨ba,bc,rfl,_,_,_⟩:=hb.form;obtain⟨pa,pc,rfl,_,_,_⟩:=hp.form;obtain⟨ra,rc,rfl,_,_,_⟩:=hc.form;clear hl hb hp hc hk;generalize mW s x.N=cr at *;obtain⟨S,er⟩:=cr;generalize s.aN.length=sn at *;generalize s.aK.length=sz at *;generalize x.aP.aF.length=pn at *;generalize x.Cap.length=rn at *;go_enter func13,ntmps13
 go_wp2_with fail
 rw[HWB.out];refine(CA.out _ HX0.out).mono ?_;rintro e w2 ⟨u,v,rfl,hS,hx2⟩;obtain⟨ua,uc,va,vc,rfl,rfl⟩:=hS.forms;have HS3:=hid hS;have HX3:=hid hx2;clear hS hx2;have HZ:=hid (HZ0.out _ HX3.out);have HEND:=hid (HS3.out.put (r:=w.heap.size+2) (B2:=w.heap.size) (by rw[HSB.out];omega) HX0.out.size #[aA aB S.aL,aA aB S.aM,aE ua S.aN.length uc,aE va S.aK.length vc]);have HXE:=hid ((HX0.out.tr HX3.out).sr (b:=w.heap.size+2) (by omega) #[aA aB S.aL,aA aB S.aM,aE ua S.aN.length uc,aE va S.aK.length vc]);have HR:=hid (setRow_heap w2 (w.heap.size+2) _ #[aA aB S.aL,aA aB S.aM,aE ua S.aN.length uc,aE va S.aK.length vc] _ _ HZ.out)
 go_wp2_with (refine wpList_store_row rfl 25 _ _ rfl (w.heap.size+2) #[aA aB S.aL,aA aB S.aM,aE ua S.aN.length uc,aE va S.aK.length vc] rfl rfl 25 _ HZ.out size25 rfl (by simp[aBz]) ?_)
 exact bodyPost_ret (bZ (u:=5) rfl _ _ (w.heap.size+2) 25 #[aA aB S.aL,aA aB S.aM,aE ua S.aN.length uc,aE va S.aK.length vc] (0,0) _ rfl HR.out underlying25 rfl size25) rfl (eS HRR.out HEND.out HXE.out)
theorem Do_3 (w:World) (tv bv pv cv:Value) (s:aV) (x:dE) (hk:x.aJ=3) (hl:aX w tv s.aN) (hb:bD w bv s.aK) (hp:aU w pv x.aP.aF) (hc:bC w cv x.Cap) (hI:I64 x.aP.aG/\I64 x.aP.aI/\I64 x.aP.aH/\I64 x.aP.aJ) (hN:I64 x.N) :
  Calls prog 13 #[.agg #[aA aB s.aL,aA aB s.aM,tv,bv],.agg #[aA aB x.aJ,aA aB x.N,aA aB x.aP.aG,aA aB x.aP.aI,aA aB x.aP.aH,aA aB x.aP.aJ,pv,cv]] w (eO w (doR s x)):=by
 have HRR:=hid (Zj (s:=s) hk);have CA:=hid (fun(W:World) (h:Ext w W)=>Zs W tv bv s x.N (hl.mono h) (hb.mono h));obtain⟨wb,hwb,HX,HZZ,hszb⟩:=kL w s x tv bv pv cv;have HX0:=hid HX;have HZ0:=hid HZZ;have HWB:=hid hwb;have HSB:=hid hszb;clear HX HZZ hwb hszb;have q1:=eqF (show x.aJ≠1 by omega);have q2:=eqF (show x.aJ≠2 by omega);have q3:=eqT hk;have q4:=eqF (show x.aJ≠4 by omega);obtain⟨qa,qc,rfl,_,_,_⟩:=hl.form;obtain⟨ba,bc,rfl,_,_,_⟩:=hb.form;obtain⟨pa,pc,rfl,_,_,_⟩:=hp.form;obtain⟨ra,rc,rfl,_,_,_⟩:=hc.form;clear hl hb hp hc hk;generalize iC s x.N=cr at *;obtain⟨S,n,er⟩:=cr;generalize s.aN.length=sn at *;generalize s.aK.length=sz at *;generalize x.aP.aF.length=pn at *;generalize x.Cap.length=rn at *;go_enter func13,ntmps13
 go_wp2_with fail
 rw[HWB.out];refine(CA.out _ HX0.out).mono ?_;rintro e w2 ⟨u,v,rfl,hS,hx2⟩;obtain⟨ua,uc,va,vc,rfl,rfl⟩:=hS.forms;have ON:=hid (fun(W:World)=>Tv W S.aL S.aM n er ua va S.aN.length uc S.aK.length vc);have HS2:=hid hS;have HX2:=hid hx2;clear hS hx2
 go_wp2_with fail
 refine(ON.out _).mono ?_;rintro e w3 ⟨rfl,hx3⟩;have HS3:=hid (HS2.out.later hx3);have HX3:=hid (HX2.out.tr hx3);clear hx3;have HZ:=hid (HZ0.out _ HX3.out);have HEND:=hid (HS3.out.put (r:=w.heap.size+2) (B2:=w.heap.size) (by rw[HSB.out];omega) HX0.out.size #[aA aB S.aL,aA aB S.aM,aE ua S.aN.length uc,aE va S.aK.length vc]);have HXE:=hid ((HX0.out.tr HX3.out).sr (b:=w.heap.size+2) (by omega) #[aA aB S.aL,aA aB S.aM,aE ua S.aN.length uc,aE va S.aK.length vc]);have HR:=hid (setRow_heap w3 (w.heap.size+2) _ #[aA aB S.aL,aA aB S.aM,aE ua S.aN.length uc,aE va S.aK.length vc] _ _ HZ.out)
 go_wp2_with (refine wpList_store_row rfl 25 _ _ rfl (w.heap.size+2) #[aA aB S.aL,aA aB S.aM,aE ua S.aN.length uc,aE va S.aK.length vc] rfl rfl 25 _ HZ.out size25 rfl (by simp[aBz]) ?_)
 exact bodyPost_ret (bZ (u:=5) rfl _ _ (w.heap.size+2) 25 #[aA aB S.aL,aA aB S.aM,aE ua S.aN.length uc,aE va S.aK.length vc] (0,0) _ rfl HR.out underlying25 rfl size25) rfl (eS HRR.out HEND.out HXE.out)
theorem Do_4 (w:World) (tv bv pv cv:Value) (s:aV) (x:dE) (hk:x.aJ=4) (hl:aX w tv s.aN) (hb:bD w bv s.aK) (hp:aU w pv x.aP.aF) (hc:bC w cv x.Cap) (hI:I64 x.aP.aG/\I64 x.aP.aI/\I64 x.aP.aH/\I64 x.aP.aJ) (hN:I64 x.N) :
  Calls prog 13 #[.agg #[aA aB s.aL,aA aB s.aM,tv,bv],.agg #[aA aB x.aJ,aA aB x.N,aA aB x.aP.aG,aA aB x.aP.aI,aA aB x.aP.aH,aA aB x.aP.aJ,pv,cv]] w (eO w (doR s x)):=by
 have HRR:=hid (aAK (s:=s) hk);have CA:=hid (fun(W:World) (h:Ext w W)=>Tm W tv bv cv s x.N x.Cap (hl.mono h) (hb.mono h) (hc.mono h) hN);obtain⟨wb,hwb,HX,HZZ,hszb⟩:=kL w s x tv bv pv cv;have HX0:=hid HX;have HZ0:=hid HZZ;have HWB:=hid hwb;have HSB:=hid hszb;clear HX HZZ hwb hszb;have q1:=eqF (show x.aJ≠1 by omega);have q2:=eqF (show x.aJ≠2 by omega);have q3:=eqF (show x.aJ≠3 by omega);have q4:=eqT hk;obtain⟨qa,qc,rfl,_,_,_⟩:=hl.form;obtain⟨ba,bc,rfl,_,_,_⟩:=hb.form;obtain⟨pa,pc,rfl,_,_,_⟩:=hp.form;obtain⟨ra,rc,rfl,_,_,_⟩:=hc.form;clear hl hb hp hc hk;generalize dK s x.N x.Cap=cr at *;obtain⟨S,m,d,er⟩:=cr;generalize s.aN.length=sn at *;generalize s.aK.length=sz at *;generalize x.aP.aF.length=pn at *;generalize x.Cap.length=rn at *;go_enter func13,ntmps13
 go_wp2_with fail
 rw[HWB.out];refine(CA.out _ HX0.out).mono ?_;rintro e w2 ⟨u,v,mv,dv,rfl,hS,hm,hd,hx2⟩;obtain⟨ua,uc,va,vc,rfl,rfl⟩:=hS.forms;obtain⟨ma,mc,rfl,_,_,_⟩:=hm.form;obtain⟨da,dc,rfl,_,_,_⟩:=hd.form;clear hm hd;have HS3:=hid (hS.later ((Ext.rf w2).al (.cells #[aA aB S.aL,aA aB S.aM,aE ua S.aN.length uc,aE va S.aK.length vc] 25)));have HX3:=hid (hx2.tr ((Ext.rf w2).al (.cells #[aA aB S.aL,aA aB S.aM,aE ua S.aN.length uc,aE va S.aK.length vc] 25)));clear hS hx2;have HZ:=hid (HZ0.out _ HX3.out);have HEND:=hid (HS3.out.put (r:=w.heap.size+2) (B2:=w.heap.size) (by rw[HSB.out];omega) HX0.out.size #[aA aB S.aL,aA aB S.aM,aE ua S.aN.length uc,aE va S.aK.length vc]);have HXE:=hid ((HX0.out.tr HX3.out).sr (b:=w.heap.size+2) (by omega) #[aA aB S.aL,aA aB S.aM,aE ua S.aN.length uc,aE va S.aK.length vc]);have HR:=hid (setRow_heap (w2.alloc (.cells #[aA aB S.aL,aA aB S.aM,aE ua S.aN.length uc,aE va S.aK.length vc] 25)) (w.heap.size+2) _ #[aA aB S.aL,aA aB S.aM,aE ua S.aN.length uc,aE va S.aK.length vc] _ _ HZ.out)
 go_wp2_with (refine wpList_store_row rfl 25 _ _ rfl (w.heap.size+2) #[aA aB S.aL,aA aB S.aM,aE ua S.aN.length uc,aE va S.aK.length vc] rfl rfl 25 _ HZ.out size25 rfl (by simp[aBz]) ?_)
 exact bodyPost_ret (bZ (u:=5) rfl _ _ (w.heap.size+2) 25 #[aA aB S.aL,aA aB S.aM,aE ua S.aN.length uc,aE va S.aK.length vc] (0,0) _ rfl HR.out underlying25 rfl size25) rfl (eS HRR.out HEND.out HXE.out)
theorem Do_no (w:World) (tv bv pv cv:Value) (s:aV) (x:dE) (h1:x.aJ≠1) (h2:x.aJ≠2) (h3:x.aJ≠3) (h4:x.aJ≠4) (hl:aX w tv s.aN) (hb:bD w bv s.aK) (hp:aU w pv x.aP.aF) (hc:bC w cv x.Cap) :
  Calls prog 13 #[.agg #[aA aB s.aL,aA aB s.aM,tv,bv],.agg #[aA aB x.aJ,aA aB x.N,aA aB x.aP.aG,aA aB x.aP.aI,aA aB x.aP.aH,aA aB x.aP.aJ,pv,cv]] w (eO w (doR s x)):=by
 have HRR:=hid (Sa (s:=s) h1 h2 h3 h4);obtain⟨wb,hwb,HX,HZZ,hszb⟩:=kL w s x tv bv pv cv;have q1:=eqF h1;have q2:=eqF h2;have q3:=eqF h3;have q4:=eqF h4;obtain⟨qa,qc,rfl,_,_,_⟩:=hl.form;obtain⟨ba,bc,rfl,_,_,_⟩:=hb.form;obtain⟨pa,pc,rfl,_,_,_⟩:=hp.form;obtain⟨ra,rc,rfl,_,_,_⟩:=hc.form;clear hl hb hp hc h1 h2 h3 h4;generalize s.aN.length=sn at *;generalize s.aK.length=sz at *;generalize x.aP.aF.length=pn at *;generalize x.Cap.length=rn at *;have HZ:=hid (HZZ wb (Ext.rf _));have HXE:=hid (HX.sr (b:=w.heap.size+2) (by omega) #[aA aB 0,aA aB 0,aE aD 0 0,aE aD 0 0]);have HR:=hid (setRow_heap wb (w.heap.size+2) _ #[aA aB 0,aA aB 0,aE aD 0 0,aE aD 0 0] _ _ HZ.out);clear HX HZZ hszb;subst hwb;go_enter func13,ntmps13
 go_wp2_with (refine wpList_store_row rfl 25 _ _ rfl (w.heap.size+2) #[aA aB 0,aA aB 0,aE aD 0 0,aE aD 0 0] rfl rfl 25 _ HZ.out size25 rfl (by simp[aBz]) ?_)
 exact bodyPost_ret (bZ (u:=5) rfl _ _ (w.heap.size+2) 25 #[aA aB 0,aA aB 0,aE aD 0 0,aE aD 0 0] (0,0) _ rfl HR.out underlying25 rfl size25) rfl (lJ HRR.out HXE.out)
theorem Mr (w:World) (tv bv pv cv:Value) (s:aV) (x:dE) (hl:aX w tv s.aN) (hb:bD w bv s.aK) (hp:aU w pv x.aP.aF) (hc:bC w cv x.Cap) (hI:I64 x.aP.aG/\I64 x.aP.aI/\I64 x.aP.aH/\I64 x.aP.aJ) (hN:I64 x.N) :
  Calls prog 13 #[.agg #[aA aB s.aL,aA aB s.aM,tv,bv],.agg #[aA aB x.aJ,aA aB x.N,aA aB x.aP.aG,aA aB x.aP.aI,aA aB x.aP.aH,aA aB x.aP.aJ,pv,cv]] w (eO w (doR s x)):=by
 by_cases h1:x.aJ=1
 ·exact Do_1 w tv bv pv cv s x h1 hl hb hp hc hI hN
 by_cases h2:x.aJ=2
 ·exact Do_2 w tv bv pv cv s x h2 hl hb hp hc hI hN
 by_cases h3:x.aJ=3
 ·exact Do_3 w tv bv pv cv s x h3 hl hb hp hc hI hN
 by_cases h4:x.aJ=4
 ·exact Do_4 w tv bv pv cv s x h4 hl hb hp hc hI hN
 exact Do_no w tv bv pv cv s x h1 h2 h3 h4 hl hb hp hc
theorem aBe (w:World) (tv bv pv cv:Value) (s:aV) (x:dE) (hk:x.aJ=1) (hl:aX w tv s.aN) (hb:bD w bv s.aK) (hp:aU w pv x.aP.aF) (hc:bC w cv x.Cap) (hI:I64 x.aP.aG/\I64 x.aP.aI/\I64 x.aP.aH/\I64 x.aP.aJ) (hN:I64 x.N) :
  Calls prog 15 #[.agg #[aA aB s.aL,aA aB s.aM,tv,bv],.agg #[aA aB x.aJ,aA aB x.N,aA aB x.aP.aG,aA aB x.aP.aI,aA aB x.aP.aH,aA aB x.aP.aJ,pv,cv]] w (eO w (doR s x)):=by
 have HRR:=hid (Zk (s:=s) hk);have CA:=hid (fun(W:World) (h:Ext w W)=>Go.Proofs.YtdcndkojmflhnaaGreat.SubmitOf_any W tv bv pv s x.aP (hl.mono h) (hb.mono h) (hp.mono h) hI);obtain⟨wb,hwb,HX,HZZ,hszb⟩:=kL w s x tv bv pv cv;have HX0:=hid HX;have HZ0:=hid HZZ;have HWB:=hid hwb;have HSB:=hid hszb;clear HX HZZ hwb hszb;have q1:=eqT hk;have q2:=eqF (show x.aJ≠2 by omega);have q3:=eqF (show x.aJ≠3 by omega);have q4:=eqF (show x.aJ≠4 by omega);obtain⟨qa,qc,rfl,_,_,_⟩:=hl.form;obtain⟨ba,bc,rfl,_,_,_⟩:=hb.form;obtain⟨pa,pc,rfl,_,_,_⟩:=hp.form;obtain⟨ra,rc,rfl,_,_,_⟩:=hc.form;clear hl hb hp hc hk;generalize dC s x.aP=cr at *;obtain⟨S,n,er⟩:=cr;generalize s.aN.length=sn at *;generalize s.aK.length=sz at *;generalize x.aP.aF.length=pn at *;generalize x.Cap.length=rn at *;go_enter func15,ntmps15
 go_wp2_with fail
 rw[HWB.out];refine(CA.out _ HX0.out).mono ?_;rintro e w2 ⟨u,v,rfl,hS,hx2⟩;obtain⟨ua,uc,va,vc,rfl,rfl⟩:=hS.forms;have HS3:=hid (hS.later ((Ext.rf w2).al (.cells #[aA aB S.aL,aA aB S.aM,aE ua S.aN.length uc,aE va S.aK.length vc] 25)));have HX3:=hid (hx2.tr ((Ext.rf w2).al (.cells #[aA aB S.aL,aA aB S.aM,aE ua S.aN.length uc,aE va S.aK.length vc] 25)));clear hS hx2;have HZ:=hid (HZ0.out _ HX3.out);have HEND:=hid (HS3.out.put (r:=w.heap.size+2) (B2:=w.heap.size) (by rw[HSB.out];omega) HX0.out.size #[aA aB S.aL,aA aB S.aM,aE ua S.aN.length uc,aE va S.aK.length vc]);have HXE:=hid ((HX0.out.tr HX3.out).sr (b:=w.heap.size+2) (by omega) #[aA aB S.aL,aA aB S.aM,aE ua S.aN.length uc,aE va S.aK.length vc]);have HR:=hid (setRow_heap (w2.alloc (.cells #[aA aB S.aL,aA aB S.aM,aE ua S.aN.length uc,aE va S.aK.length vc] 25)) (w.heap.size+2) _ #[aA aB S.aL,aA aB S.aM,aE ua S.aN.length uc,aE va S.aK.length vc] _ _ HZ.out)
 go_wp2_with (refine wpList_store_row rfl 25 _ _ rfl (w.heap.size+2) #[aA aB S.aL,aA aB S.aM,aE ua S.aN.length uc,aE va S.aK.length vc] rfl rfl 25 _ HZ.out size25 rfl (by simp[aBz]) ?_)
 exact bodyPost_ret (bZ (u:=5) rfl _ _ (w.heap.size+2) 25 #[aA aB S.aL,aA aB S.aM,aE ua S.aN.length uc,aE va S.aK.length vc] (0,0) _ rfl HR.out underlying25 rfl size25) rfl (eS HRR.out HEND.out HXE.out)
theorem aBd (w:World) (tv bv pv cv:Value) (s:aV) (x:dE) (hk:x.aJ=2) (hl:aX w tv s.aN) (hb:bD w bv s.aK) (hp:aU w pv x.aP.aF) (hc:bC w cv x.Cap) (hI:I64 x.aP.aG/\I64 x.aP.aI/\I64 x.aP.aH/\I64 x.aP.aJ) (hN:I64 x.N) :
  Calls prog 15 #[.agg #[aA aB s.aL,aA aB s.aM,tv,bv],.agg #[aA aB x.aJ,aA aB x.N,aA aB x.aP.aG,aA aB x.aP.aI,aA aB x.aP.aH,aA aB x.aP.aJ,pv,cv]] w (eO w (doR s x)):=by
 have HRR:=hid (aAL (s:=s) hk);have CA:=hid (fun(W:World) (h:Ext w W)=>Mu W tv bv s x.N (hl.mono h) (hb.mono h));obtain⟨wb,hwb,HX,HZZ,hszb⟩:=kL w s x tv bv pv cv;have HX0:=hid HX;have HZ0:=hid HZZ;have HWB:=hid hwb;have HSB:=hid hszb;clear HX HZZ hwb hszb;have q1:=eqF (show x.aJ≠1 by omega);have q2:=eqT hk;have q3:=eqF (show x.aJ≠3 by omega);have q4:=eqF (show x.aJ≠4 by omega);obtain⟨qa,qc,rfl,_,_,_⟩:=hl.form;obtain⟨ba,bc,rfl,_,_,_⟩:=hb.form;obtain⟨pa,pc,rfl,_,_,_⟩:=hp.form;obtain⟨ra,rc,rfl,_,_,_⟩:=hc.form;clear hl hb hp hc hk;generalize mW s x.N=cr at *;obtain⟨S,er⟩:=cr;generalize s.aN.length=sn at *;generalize s.aK.length=sz at *;generalize x.aP.aF.length=pn at *;generalize x.Cap.length=rn at *;go_enter func15,ntmps15
 go_wp2_with fail
 rw[HWB.out];refine(CA.out _ HX0.out).mono ?_;rintro e w2 ⟨u,v,rfl,hS,hx2⟩;obtain⟨ua,uc,va,vc,rfl,rfl⟩:=hS.forms;have HS3:=hid hS;have HX3:=hid hx2;clear hS hx2;have HZ:=hid (HZ0.out _ HX3.out);have HEND:=hid (HS3.out.put (r:=w.heap.size+2) (B2:=w.heap.size) (by rw[HSB.out];omega) HX0.out.size #[aA aB S.aL,aA aB S.aM,aE ua S.aN.length uc,aE va S.aK.length vc]);have HXE:=hid ((HX0.out.tr HX3.out).sr (b:=w.heap.size+2) (by omega) #[aA aB S.aL,aA aB S.aM,aE ua S.aN.length uc,aE va S.aK.length vc]);have HR:=hid (setRow_heap w2 (w.heap.size+2) _ #[aA aB S.aL,aA aB S.aM,aE ua S.aN.length uc,aE va S.aK.length vc] _ _ HZ.out)
 go_wp2_with (refine wpList_store_row rfl 25 _ _ rfl (w.heap.size+2) #[aA aB S.aL,aA aB S.aM,aE ua S.aN.length uc,aE va S.aK.length vc] rfl rfl 25 _ HZ.out size25 rfl (by simp[aBz]) ?_)
 exact bodyPost_ret (bZ (u:=5) rfl _ _ (w.heap.size+2) 25 #[aA aB S.aL,aA aB S.aM,aE ua S.aN.length uc,aE va S.aK.length vc] (0,0) _ rfl HR.out underlying25 rfl size25) rfl (eS HRR.out HEND.out HXE.out)
theorem aBc (w:World) (tv bv pv cv:Value) (s:aV) (x:dE) (hk:x.aJ=3) (hl:aX w tv s.aN) (hb:bD w bv s.aK) (hp:aU w pv x.aP.aF) (hc:bC w cv x.Cap) (hI:I64 x.aP.aG/\I64 x.aP.aI/\I64 x.aP.aH/\I64 x.aP.aJ) (hN:I64 x.N) :
  Calls prog 15 #[.agg #[aA aB s.aL,aA aB s.aM,tv,bv],.agg #[aA aB x.aJ,aA aB x.N,aA aB x.aP.aG,aA aB x.aP.aI,aA aB x.aP.aH,aA aB x.aP.aJ,pv,cv]] w (eO w (doR s x)):=by
 have HRR:=hid (Zj (s:=s) hk);have CA:=hid (fun(W:World) (h:Ext w W)=>Ta W tv bv s x.N (hl.mono h) (hb.mono h));obtain⟨wb,hwb,HX,HZZ,hszb⟩:=kL w s x tv bv pv cv;have HX0:=hid HX;have HZ0:=hid HZZ;have HWB:=hid hwb;have HSB:=hid hszb;clear HX HZZ hwb hszb;have q1:=eqF (show x.aJ≠1 by omega);have q2:=eqF (show x.aJ≠2 by omega);have q3:=eqT hk;have q4:=eqF (show x.aJ≠4 by omega);obtain⟨qa,qc,rfl,_,_,_⟩:=hl.form;obtain⟨ba,bc,rfl,_,_,_⟩:=hb.form;obtain⟨pa,pc,rfl,_,_,_⟩:=hp.form;obtain⟨ra,rc,rfl,_,_,_⟩:=hc.form;clear hl hb hp hc hk;generalize iC s x.N=cr at *;obtain⟨S,n,er⟩:=cr;generalize s.aN.length=sn at *;generalize s.aK.length=sz at *;generalize x.aP.aF.length=pn at *;generalize x.Cap.length=rn at *;go_enter func15,ntmps15
 go_wp2_with fail
 rw[HWB.out];refine(CA.out _ HX0.out).mono ?_;rintro e w2 ⟨u,v,rfl,hS,hx2⟩;obtain⟨ua,uc,va,vc,rfl,rfl⟩:=hS.forms;have HS3:=hid (hS.later ((Ext.rf w2).al (.cells #[aA aB S.aL,aA aB S.aM,aE ua S.aN.length uc,aE va S.aK.length vc] 25)));have HX3:=hid (hx2.tr ((Ext.rf w2).al (.cells #[aA aB S.aL,aA aB S.aM,aE ua S.aN.length uc,aE va S.aK.length vc] 25)));clear hS hx2;have HZ:=hid (HZ0.out _ HX3.out);have HEND:=hid (HS3.out.put (r:=w.heap.size+2) (B2:=w.heap.size) (by rw[HSB.out];omega) HX0.out.size #[aA aB S.aL,aA aB S.aM,aE ua S.aN.length uc,aE va S.aK.length vc]);have HXE:=hid ((HX0.out.tr HX3.out).sr (b:=w.heap.size+2) (by omega) #[aA aB S.aL,aA aB S.aM,aE ua S.aN.length uc,aE va S.aK.length vc]);have HR:=hid (setRow_heap (w2.alloc (.cells #[aA aB S.aL,aA aB S.aM,aE ua S.aN.length uc,aE va S.aK.length vc] 25)) (w.heap.size+2) _ #[aA aB S.aL,aA aB S.aM,aE ua S.aN.length uc,aE va S.aK.length vc] _ _ HZ.out)
 go_wp2_with (refine wpList_store_row rfl 25 _ _ rfl (w.heap.size+2) #[aA aB S.aL,aA aB S.aM,aE ua S.aN.length uc,aE va S.aK.length vc] rfl rfl 25 _ HZ.out size25 rfl (by simp[aBz]) ?_)
 exact bodyPost_ret (bZ (u:=5) rfl _ _ (w.heap.size+2) 25 #[aA aB S.aL,aA aB S.aM,aE ua S.aN.length uc,aE va S.aK.length vc] (0,0) _ rfl HR.out underlying25 rfl size25) rfl (eS HRR.out HEND.out HXE.out)
theorem aBb (w:World) (tv bv pv cv:Value) (s:aV) (x:dE) (hk:x.aJ=4) (hl:aX w tv s.aN) (hb:bD w bv s.aK) (hp:aU w pv x.aP.aF) (hc:bC w cv x.Cap) (hI:I64 x.aP.aG/\I64 x.aP.aI/\I64 x.aP.aH/\I64 x.aP.aJ) (hN:I64 x.N) :
  Calls prog 15 #[.agg #[aA aB s.aL,aA aB s.aM,tv,bv],.agg #[aA aB x.aJ,aA aB x.N,aA aB x.aP.aG,aA aB x.aP.aI,aA aB x.aP.aH,aA aB x.aP.aJ,pv,cv]] w (eO w (doR s x)):=by
 have HRR:=hid (aAK (s:=s) hk);have CA:=hid (fun(W:World) (h:Ext w W)=>Mt W tv bv cv s x.N x.Cap (hl.mono h) (hb.mono h) (hc.mono h) hN);obtain⟨wb,hwb,HX,HZZ,hszb⟩:=kL w s x tv bv pv cv;have HX0:=hid HX;have HZ0:=hid HZZ;have HWB:=hid hwb;have HSB:=hid hszb;clear HX HZZ hwb hszb;have q1:=eqF (show x.aJ≠1 by omega);have q2:=eqF (show x.aJ≠2 by omega);have q3:=eqF (show x.aJ≠3 by omega);have q4:=eqT hk;obtain⟨qa,qc,rfl,_,_,_⟩:=hl.form;obtain⟨ba,bc,rfl,_,_,_⟩:=hb.form;obtain⟨pa,pc,rfl,_,_,_⟩:=hp.form;obtain⟨ra,rc,rfl,_,_,_⟩:=hc.form;clear hl hb hp hc hk;generalize dK s x.N x.Cap=cr at *;obtain⟨S,m,d,er⟩:=cr;generalize s.aN.length=sn at *;generalize s.aK.length=sz at *;generalize x.aP.aF.length=pn at *;generalize x.Cap.length=rn at *;go_enter func15,ntmps15
 go_wp2_with fail
 rw[HWB.out];refine(CA.out _ HX0.out).mono ?_;rintro e w2 ⟨u,v,mv,dv,rfl,hS,hm,hd,hx2⟩;obtain⟨ua,uc,va,vc,rfl,rfl⟩:=hS.forms;obtain⟨ma,mc,rfl,_,_,_⟩:=hm.form;obtain⟨da,dc,rfl,_,_,_⟩:=hd.form;clear hm hd;have HS3:=hid (hS.later ((Ext.rf w2).al (.cells #[aA aB S.aL,aA aB S.aM,aE ua S.aN.length uc,aE va S.aK.length vc] 25)));have HX3:=hid (hx2.tr ((Ext.rf w2).al (.cells #[aA aB S.aL,aA aB S.aM,aE ua S.aN.length uc,aE va S.aK.length vc] 25)));clear hS hx2;have HZ:=hid (HZ0.out _ HX3.out);have HEND:=hid (HS3.out.put (r:=w.heap.size+2) (B2:=w.heap.size) (by rw[HSB.out];omega) HX0.out.size #[aA aB S.aL,aA aB S.aM,aE ua S.aN.length uc,aE va S.aK.length vc]);have HXE:=hid ((HX0.out.tr HX3.out).sr (b:=w.heap.size+2) (by omega) #[aA aB S.aL,aA aB S.aM,aE ua S.aN.length uc,aE va S.aK.length vc]);have HR:=hid (setRow_heap (w2.alloc (.cells #[aA aB S.aL,aA aB S.aM,aE ua S.aN.length uc,aE va S.aK.length vc] 25)) (w.heap.size+2) _ #[aA aB S.aL,aA aB S.aM,aE ua S.aN.length uc,aE va S.aK.length vc] _ _ HZ.out)
 go_wp2_with (refine wpList_store_row rfl 25 _ _ rfl (w.heap.size+2) #[aA aB S.aL,aA aB S.aM,aE ua S.aN.length uc,aE va S.aK.length vc] rfl rfl 25 _ HZ.out size25 rfl (by simp[aBz]) ?_)
 exact bodyPost_ret (bZ (u:=5) rfl _ _ (w.heap.size+2) 25 #[aA aB S.aL,aA aB S.aM,aE ua S.aN.length uc,aE va S.aK.length vc] (0,0) _ rfl HR.out underlying25 rfl size25) rfl (eS HRR.out HEND.out HXE.out)
theorem aAC (w:World) (tv bv pv cv:Value) (s:aV) (x:dE) (h1:x.aJ≠1) (h2:x.aJ≠2) (h3:x.aJ≠3) (h4:x.aJ≠4) (hl:aX w tv s.aN) (hb:bD w bv s.aK) (hp:aU w pv x.aP.aF) (hc:bC w cv x.Cap) :
  Calls prog 15 #[.agg #[aA aB s.aL,aA aB s.aM,tv,bv],.agg #[aA aB x.aJ,aA aB x.N,aA aB x.aP.aG,aA aB x.aP.aI,aA aB x.aP.aH,aA aB x.aP.aJ,pv,cv]] w (eO w (doR s x)):=by
 have HRR:=hid (Sa (s:=s) h1 h2 h3 h4);obtain⟨wb,hwb,HX,HZZ,hszb⟩:=kL w s x tv bv pv cv;have q1:=eqF h1;have q2:=eqF h2;have q3:=eqF h3;have q4:=eqF h4;obtain⟨qa,qc,rfl,_,_,_⟩:=hl.form;obtain⟨ba,bc,rfl,_,_,_⟩:=hb.form;obtain⟨pa,pc,rfl,_,_,_⟩:=hp.form;obtain⟨ra,rc,rfl,_,_,_⟩:=hc.form;clear hl hb hp hc h1 h2 h3 h4;generalize s.aN.length=sn at *;generalize s.aK.length=sz at *;generalize x.aP.aF.length=pn at *;generalize x.Cap.length=rn at *;have HZ:=hid (HZZ wb (Ext.rf _));have HXE:=hid (HX.sr (b:=w.heap.size+2) (by omega) #[aA aB 0,aA aB 0,aE aD 0 0,aE aD 0 0]);have HR:=hid (setRow_heap wb (w.heap.size+2) _ #[aA aB 0,aA aB 0,aE aD 0 0,aE aD 0 0] _ _ HZ.out);clear HX HZZ hszb;subst hwb;go_enter func15,ntmps15
 go_wp2_with (refine wpList_store_row rfl 25 _ _ rfl (w.heap.size+2) #[aA aB 0,aA aB 0,aE aD 0 0,aE aD 0 0] rfl rfl 25 _ HZ.out size25 rfl (by simp[aBz]) ?_)
 exact bodyPost_ret (bZ (u:=5) rfl _ _ (w.heap.size+2) 25 #[aA aB 0,aA aB 0,aE aD 0 0,aE aD 0 0] (0,0) _ rfl HR.out underlying25 rfl size25) rfl (lJ HRR.out HXE.out)
theorem aA8 (w:World) (tv bv pv cv:Value) (s:aV) (x:dE) (hl:aX w tv s.aN) (hb:bD w bv s.aK) (hp:aU w pv x.aP.aF) (hc:bC w cv x.Cap) (hI:I64 x.aP.aG/\I64 x.aP.aI/\I64 x.aP.aH/\I64 x.aP.aJ) (hN:I64 x.N) :
  Calls prog 15 #[.agg #[aA aB s.aL,aA aB s.aM,tv,bv],.agg #[aA aB x.aJ,aA aB x.N,aA aB x.aP.aG,aA aB x.aP.aI,aA aB x.aP.aH,aA aB x.aP.aJ,pv,cv]] w (eO w (doR s x)):=by
 by_cases h1:x.aJ=1
 ·exact aBe w tv bv pv cv s x h1 hl hb hp hc hI hN
 by_cases h2:x.aJ=2
 ·exact aBd w tv bv pv cv s x h2 hl hb hp hc hI hN
 by_cases h3:x.aJ=3
 ·exact aBc w tv bv pv cv s x h3 hl hb hp hc hI hN
 by_cases h4:x.aJ=4
 ·exact aBb w tv bv pv cv s x h4 hl hb hp hc hI hN
 exact aAC w tv bv pv cv s x h1 h2 h3 h4 hl hb hp hc
def b8 (n:Int):Int:=n % 256
@[irreducible] def orB (a b:Bool):Bool:=a || b
theorem vZ (a b:Bool):orB a b=(a || b):=by unfold orB;rfl
def lO (n:Int):Bool:=decide (n < 0) || decide (255 < n)
def iT (av:List Nat) (base P:Nat) (W:World) (bs:List Int) (bad:Bool):Prop:=
 ∃ v,W.heap[P]?=aC (.cells #[v,.bool bad] 102 (0,0))/\W.ownsRow base 5 1 v bs.length (bs.map fun n=>aA .u8 n)/\∀ r,v.ownBlock=aC r->r∉av
theorem iT.more {av cv:List Nat} {base P:Nat} {W:World} {bs:List Int} {bad:Bool} (h:iT av base P W bs bad) (hc:∀ r∈cv,W.heap.size<=r):iT cv base P W bs bad:=by
 obtain⟨v,h1,h2,h3⟩:=h;exact⟨v,h1,h2,fun r hr hm=>by have:=(h2.lt r hr).2;have:=hc r hm;omega⟩
theorem iT.less {av:List Nat} {base P:Nat} {W:World} {bs:List Int} {bad:Bool} (h:iT av base P W bs bad):iT [] base P W bs bad:=by
 obtain⟨v,h1,h2,h3⟩:=h;exact⟨v,h1,h2,fun r hr hm=>(by cases hm)⟩
theorem iT.ext {av:List Nat} {base P:Nat} {W W':World} {bs:List Int} {bad:Bool} (h:iT av base P W bs bad) (hx:Ext W W'):iT av base P W' bs bad:=by
 obtain⟨v,h1,h2,h3⟩:=h;exact⟨v,aW h1 hx,bE h2 hx,h3⟩
theorem iT.cells {av:List Nat} {base P:Nat} {W:World} {bs:List Int} {bad:Bool} (h:iT av base P W bs bad):∃ v,W.cell? ⟨P,0,aD⟩=aC v/\W.cell? ⟨P,1,aD⟩=aC (.bool bad)/\W.frozen? ⟨P,0,aD⟩=false/\W.frozen? ⟨P,1,aD⟩=false/\
  W.ownsRow base 5 1 v bs.length (bs.map fun n=>aA .u8 n)/\(∀ r,v.ownBlock=aC r->r∉av)/\W.heap[P]?=aC (.cells #[v,.bool bad] 102 (0,0)):=by
 obtain⟨v,h1,h2,h3⟩:=h;exact⟨v,cell_of_row _ _ 0 _ _ _ h1,cell_of_row _ _ 1 _ _ _ h1,frozen_of_row _ _ 0 _ _ h1,frozen_of_row _ _ 1 _ _ h1,h2,h3,h1⟩
theorem iT.push {av:List Nat} {base P:Nat} {W W2 W5:World} {v v2:Value} {bs:List Int} {bad:Bool} {y:Int} (h1:W.heap[P]?=aC (.cells #[v,.bool bad] 102 (0,0))) (hx:Ext W W2) (hown:W.ownsRow base 5 1 v bs.length (bs.map fun n=>aA .u8 n)) (hP:P < base) (hav:∀ r,v.ownBlock=aC r->r∉av) (hlow:∀ r∈av,r < W2.heap.size)
  (hg:W2.grownBy W5 v.ownBlock) (ho:W5.ownsRow base 5 1 v2 (bs.length+1) ((bs.map fun n=>aA .u8 n)++[.int .u8 y])) (hlie:∀ r,v2.ownBlock=aC r->v.ownBlock=aC r\/W2.heap.size<=r):iT av base P (W5.setCell ⟨P,0,aD⟩ v2) (bs++[y]) bad:=by
 have hp5:W5.heap[P]?=aC (.cells #[v,.bool bad] 102 (0,0)):=(hg.block P (aBy.1 (aW h1 hx)).1 (fun e=>by have:=(hown.lt _ e.symm).1;omega)).trans (aW h1 hx);refine⟨v2,heap_setCell_same W5 P 0 _ _ _ hp5,?_,fun r hr hm=>?_⟩
 ·rw[aBk,aCE];exact cD ho (aY W5 P 0 _) hP
 ·rcases hlie r hr with h | h
  ·exact hav r h hm
  ·have:=hlow r hm;omega
theorem Qu (A w0:World) (base P:Nat) (bs:List Int) (bad:Bool) (xs:List Int) (hpen:iT [] base P w0 bs bad) (hA:Ext A w0) (hAP:A.heap.size<=P) (hP:P < base) (hb:base<=w0.heap.size) (hn:bs.length+xs.length<=140737488355000) (hi:∀ x∈xs,I64 x) :
  Calls prog 57 #[.pointer (aC ⟨P,0,aD⟩),aE (aC ⟨w0.heap.size,0,aD⟩) xs.length xs.length] (w0.alloc (.cells (xs.map fun n=>aA .i64 n).toArray 3)) fun e w'=>e=.returned (.tuple #[])/\iT [] base P w' (bs++xs.map b8) (orB bad (xs.any lO))/\Ext A w'/\w0.heap.size<=w'.heap.size:=by
 obtain⟨ib,ib1,ib2,ib3,ib4⟩:=info_parts (show (prog.info? 5).map (fun i=>(i.zero,i.size,i.bytes))=aC (aC (.int .u8 0),1,1) from by kernel_rfl);obtain⟨w,hw⟩:∃ w,w0.alloc (.cells (xs.map fun n=>aA .i64 n).toArray 3)=w:=⟨_,rfl⟩;rw[hw];have hx0:Ext w0 w:=hw▸(Ext.rf w0).al _;have hlb:w.heap[w0.heap.size]?=aC (.cells (xs.map fun n=>aA .i64 n).toArray 3 (0,0)):=hw▸heap_alloc_new w0 _;have hp:=(hpen.more (cv:=[w0.heap.size]) (fun r hr=>by rw[aCB.1 hr];exact aBq _)).ext hx0;have hPlt:P < w0.heap.size:=by omega
 have HPEN:=hid hp;have HLB:=hid hlb;have HA0:=hid (hA.tr hx0);have HI:=hid hi;have hsz:=hx0.size;clear hw hpen hA hlb hp;generalize hlen:xs.length=n at *;generalize hbl:bs.length=bn at *;have HLEN:=hid hlen;have HBL:=hid hbl;clear hlen hbl;obtain⟨LB,hLB⟩:∃ LB,w0.heap.size=LB:=⟨_,rfl⟩;rw[hLB] at HPEN HLB hb hPlt hsz ⊢;clear hLB hx0;go_enter func57,ntmps57
 go_wp2_with fail
 go_loopw [8] (fun c wr=>∃ k:Nat,c=aA aB k/\k<=n/\Hid (iT [LB] base P wr (bs++(xs.take k).map b8) (orB bad ((xs.take k).any lO)))/\Hid (Ext A wr)/\Hid (wr.heap[LB]?=aC (.cells (xs.map fun n=>aA .i64 n).toArray 3 (0,0)))/\LB<=wr.heap.size) (fun c _=>n - (intOf c).toNat)
 case atStart=>exact⟨0,rfl,aBO _,hid (by rw[show bs++(xs.take 0).map b8=bs from by simp];rw[show orB bad ((xs.take 0).any lO)=bad from by rw[vZ];simp];exact HPEN.out),HA0,HLB,hsz⟩
 case round=>
  obtain⟨k,rfl,hk,HPE,HXA,HL2,hs2⟩:=hrel;by_cases hlt:k < n
  ·have hlt':(k:Int) < (n:Int):=by omega
   obtain⟨x,hx⟩:=bT (f:=xs) (k:=k) (by rw[HLEN.out];exact hlt);have hcl:(bs++(xs.take k).map b8).length<=140737488354999:=by
    rw[aBk,aCC,aCH,HBL.out,HLEN.out];omega
   have HNEXT:=hid (show bs++(xs.take (k+1)).map b8=(bs++(xs.take k).map b8)++[b8 x]/\orB bad ((xs.take (k+1)).any lO)=(orB bad ((xs.take k).any lO) || decide (x < 0) || decide (255 < x)) from by
    rw[aD6,hx];refine⟨by simp,?_⟩;rw[aDJ,vZ,vZ];simp[lO,Bool.or_assoc])
   have HPF:=HPE.out;clear HPE;generalize bs++(xs.take k).map b8=cb at *;obtain⟨v,k0,k1,f0,f1,hown,hav,hblk⟩:=HPF.cells;have c0:wr.cell? ⟨LB,k,aD⟩=aC (aA aB x):=by
    rw[cell_of_row wr LB k _ _ _ HL2.out];simp[aCL,hx]
   by_cases hb0:orB bad ((xs.take k).any lO)=true
   ·have HNX:=hid (show orB bad ((xs.take (k+1)).any lO)=true from by rw[HNEXT.out.2];simp[hb0]);obtain⟨W1,hW1⟩:∃ W1,wr.setCell ⟨P,1,aD⟩ (.bool true)=W1:=⟨_,rfl⟩;have hs1:W1.heap.size=wr.heap.size:=by rw[<- hW1];simp[aCX]
    have hb1:W1.heap[P]?=aC (.cells #[v,.bool true] 102 (0,0)):=by rw[<- hW1];exact heap_setCell_same wr P 1 _ _ _ hblk
    have ho1:W1.ownsRow base 5 1 v cb.length (cb.map fun n=>aA .u8 n):=by rw[<- hW1];exact cD hown (aY wr P 1 _) hP
    have HB1:=hid hb1;have HO1:=hid ho1;have HOA:=hid (ho1.alloc (.cells #[.int .u8 (x % 256)] 5));have HN1:=hid (Ci W1 hs1.symm (.int .u8 (x % 256)) 5);have HXA1:=hid (show Ext A W1 from by rw[<- hW1];exact HXA.out.se (b:=P) (o:=1) hAP _);have HL1:=hid (show W1.heap[LB]?=aC (.cells (xs.map fun n=>aA .i64 n).toArray 3 (0,0)) from by rw[<- hW1,heap_setCell_other wr ⟨P,1,aD⟩ _ _ (by show LB≠P;omega)];exact HL2.out);have HS1:=hid hs1;have HW1:=hid hW1;have HAV:=hid hav;have HVL:=hid (fun r hr=>(hown.lt r hr).1);have HSZ:=hid (show base<=(W1.alloc (.cells #[.int .u8 (x % 256)] 5)).heap.size from by rw[aCl,hs1];omega);have hne:¬ LB=P:=by omega
    clear hown hav hblk hx HPF hb1 ho1 hW1 hs1
    go_wp2_with (at_builtin;rw[HW1.out];(refine wpList_append_lies _ rfl _ _ 100 rfl base 5 ib _ 1 1 underlying100 ib1 ib2 ib3 ib4 rfl (by decide) v cb.length (cb.map fun n=>aA .u8 n) rfl HOA.out ⟨wr.heap.size,0,aD⟩ 1 1 [.int .u8 (x % 256)] rfl rfl HN1.out (by simp[aBz]) (by omega) (by unfold maxLen;omega) (by omega) HSZ.out (wr.heap.size+1) (by rw[aCl,HS1.out]) ?_);intro g2 cp2 W5 hown hgrow hlie hlt3;have hp5:=(hgrow.block P (aBA (aBy.1 HB1.out).1 ((Ext.rf W1).al _).size) (fun e=>by have:=HVL.out _ e.symm;omega)).trans (aW HB1.out ((Ext.rf W1).al _));have k5:=cell_of_row W5 P 0 _ _ _ hp5;have f5:=frozen_of_row W5 P 0 _ _ hp5;have HG:=hid hgrow;have HO5:=hid hown;have HLI:=hid hlie;clear hown hgrow hlie hp5)
    have hsz5:=HG.out.size;rw[aCl,HS1.out] at hsz5;go_roundw
    case rel=>exact⟨k+1,by go_num,by omega,hid (by
     rw[HNEXT.out.1,HNX.out];exact iT.push HB1.out ((Ext.rf W1).al _) HO1.out hP HAV.out (fun r hr=>by rw[aCB.1 hr,aCl,HS1.out];omega) HG.out HO5.out (fun r hr=>by
      have e:g2=r:=Option.some.inj hr;rcases HLI.out with h | h
      ·exact .inl (by rw[h,e])
      ·right;rw[aCl,HS1.out];omega)),hid (((HXA1.out.al _).gr (v:=v) HG.out (fun r hr=>by have:=HVL.out r hr;omega)).se (b:=P) (o:=0) hAP _),hid (by
     rw[heap_setCell_other W5 ⟨P,0,aD⟩ _ _ (by show LB≠P;omega)];have h1:=aW HL1.out ((Ext.rf W1).al (.cells #[.int .u8 (x % 256)] 5));exact(HG.out.block LB (aBy.1 h1).1 (fun e=>HAV.out LB e.symm (aCB.2 rfl))).trans h1),by
     have e:∀ a u,(W5.setCell a u).heap.size=W5.heap.size:=fun a u=>by simp[aCX]
     rw[e];omega⟩
    case measure=>simp[intOf];omega
   ·have hb1:orB bad ((xs.take k).any lO)=false:=by simpa using hb0
    clear hb0;by_cases h1:x < 0
    ·have HNX:=hid (show orB bad ((xs.take (k+1)).any lO)=true from by rw[HNEXT.out.2];simp[hb1,h1]);obtain⟨W1,hW1⟩:∃ W1,wr.setCell ⟨P,1,aD⟩ (.bool true)=W1:=⟨_,rfl⟩;have hs1:W1.heap.size=wr.heap.size:=by rw[<- hW1];simp[aCX]
     have hb1:W1.heap[P]?=aC (.cells #[v,.bool true] 102 (0,0)):=by rw[<- hW1];exact heap_setCell_same wr P 1 _ _ _ hblk
     have ho1:W1.ownsRow base 5 1 v cb.length (cb.map fun n=>aA .u8 n):=by rw[<- hW1];exact cD hown (aY wr P 1 _) hP
     have HB1:=hid hb1;have HO1:=hid ho1;have HOA:=hid (ho1.alloc (.cells #[.int .u8 (x % 256)] 5));have HN1:=hid (Ci W1 hs1.symm (.int .u8 (x % 256)) 5);have HXA1:=hid (show Ext A W1 from by rw[<- hW1];exact HXA.out.se (b:=P) (o:=1) hAP _);have HL1:=hid (show W1.heap[LB]?=aC (.cells (xs.map fun n=>aA .i64 n).toArray 3 (0,0)) from by rw[<- hW1,heap_setCell_other wr ⟨P,1,aD⟩ _ _ (by show LB≠P;omega)];exact HL2.out);have HS1:=hid hs1;have HW1:=hid hW1;have HAV:=hid hav;have HVL:=hid (fun r hr=>(hown.lt r hr).1);have HSZ:=hid (show base<=(W1.alloc (.cells #[.int .u8 (x % 256)] 5)).heap.size from by rw[aCl,hs1];omega);have hne:¬ LB=P:=by omega
     clear hown hav hblk hx HPF hb1 ho1 hW1 hs1
     go_wp2_with (at_builtin;rw[HW1.out];(refine wpList_append_lies _ rfl _ _ 100 rfl base 5 ib _ 1 1 underlying100 ib1 ib2 ib3 ib4 rfl (by decide) v cb.length (cb.map fun n=>aA .u8 n) rfl HOA.out ⟨wr.heap.size,0,aD⟩ 1 1 [.int .u8 (x % 256)] rfl rfl HN1.out (by simp[aBz]) (by omega) (by unfold maxLen;omega) (by omega) HSZ.out (wr.heap.size+1) (by rw[aCl,HS1.out]) ?_);intro g2 cp2 W5 hown hgrow hlie hlt3;have hp5:=(hgrow.block P (aBA (aBy.1 HB1.out).1 ((Ext.rf W1).al _).size) (fun e=>by have:=HVL.out _ e.symm;omega)).trans (aW HB1.out ((Ext.rf W1).al _));have k5:=cell_of_row W5 P 0 _ _ _ hp5;have f5:=frozen_of_row W5 P 0 _ _ hp5;have HG:=hid hgrow;have HO5:=hid hown;have HLI:=hid hlie;clear hown hgrow hlie hp5)
     have hsz5:=HG.out.size;rw[aCl,HS1.out] at hsz5;go_roundw
     case rel=>exact⟨k+1,by go_num,by omega,hid (by
      rw[HNEXT.out.1,HNX.out];exact iT.push HB1.out ((Ext.rf W1).al _) HO1.out hP HAV.out (fun r hr=>by rw[aCB.1 hr,aCl,HS1.out];omega) HG.out HO5.out (fun r hr=>by
       have e:g2=r:=Option.some.inj hr;rcases HLI.out with h | h
       ·exact .inl (by rw[h,e])
       ·right;rw[aCl,HS1.out];omega)),hid (((HXA1.out.al _).gr (v:=v) HG.out (fun r hr=>by have:=HVL.out r hr;omega)).se (b:=P) (o:=0) hAP _),hid (by
      rw[heap_setCell_other W5 ⟨P,0,aD⟩ _ _ (by show LB≠P;omega)];have h1:=aW HL1.out ((Ext.rf W1).al (.cells #[.int .u8 (x % 256)] 5));exact(HG.out.block LB (aBy.1 h1).1 (fun e=>HAV.out LB e.symm (aCB.2 rfl))).trans h1),by
      have e:∀ a u,(W5.setCell a u).heap.size=W5.heap.size:=fun a u=>by simp[aCX]
      rw[e];omega⟩
     case measure=>simp[intOf];omega
    ·by_cases h2:255 < x
     ·have HNX:=hid (show orB bad ((xs.take (k+1)).any lO)=true from by rw[HNEXT.out.2];simp[hb1,h1,h2]);obtain⟨W1,hW1⟩:∃ W1,wr.setCell ⟨P,1,aD⟩ (.bool true)=W1:=⟨_,rfl⟩;have hs1:W1.heap.size=wr.heap.size:=by rw[<- hW1];simp[aCX]
      have hb1:W1.heap[P]?=aC (.cells #[v,.bool true] 102 (0,0)):=by rw[<- hW1];exact heap_setCell_same wr P 1 _ _ _ hblk
      have ho1:W1.ownsRow base 5 1 v cb.length (cb.map fun n=>aA .u8 n):=by rw[<- hW1];exact cD hown (aY wr P 1 _) hP
      have HB1:=hid hb1;have HO1:=hid ho1;have HOA:=hid (ho1.alloc (.cells #[.int .u8 (x % 256)] 5));have HN1:=hid (Ci W1 hs1.symm (.int .u8 (x % 256)) 5);have HXA1:=hid (show Ext A W1 from by rw[<- hW1];exact HXA.out.se (b:=P) (o:=1) hAP _);have HL1:=hid (show W1.heap[LB]?=aC (.cells (xs.map fun n=>aA .i64 n).toArray 3 (0,0)) from by rw[<- hW1,heap_setCell_other wr ⟨P,1,aD⟩ _ _ (by show LB≠P;omega)];exact HL2.out);have HS1:=hid hs1;have HW1:=hid hW1;have HAV:=hid hav;have HVL:=hid (fun r hr=>(hown.lt r hr).1);have HSZ:=hid (show base<=(W1.alloc (.cells #[.int .u8 (x % 256)] 5)).heap.size from by rw[aCl,hs1];omega);have hne:¬ LB=P:=by omega
      clear hown hav hblk hx HPF hb1 ho1 hW1 hs1
      go_wp2_with (at_builtin;rw[HW1.out];(refine wpList_append_lies _ rfl _ _ 100 rfl base 5 ib _ 1 1 underlying100 ib1 ib2 ib3 ib4 rfl (by decide) v cb.length (cb.map fun n=>aA .u8 n) rfl HOA.out ⟨wr.heap.size,0,aD⟩ 1 1 [.int .u8 (x % 256)] rfl rfl HN1.out (by simp[aBz]) (by omega) (by unfold maxLen;omega) (by omega) HSZ.out (wr.heap.size+1) (by rw[aCl,HS1.out]) ?_);intro g2 cp2 W5 hown hgrow hlie hlt3;have hp5:=(hgrow.block P (aBA (aBy.1 HB1.out).1 ((Ext.rf W1).al _).size) (fun e=>by have:=HVL.out _ e.symm;omega)).trans (aW HB1.out ((Ext.rf W1).al _));have k5:=cell_of_row W5 P 0 _ _ _ hp5;have f5:=frozen_of_row W5 P 0 _ _ hp5;have HG:=hid hgrow;have HO5:=hid hown;have HLI:=hid hlie;clear hown hgrow hlie hp5)
      have hsz5:=HG.out.size;rw[aCl,HS1.out] at hsz5;go_roundw
      case rel=>exact⟨k+1,by go_num,by omega,hid (by
       rw[HNEXT.out.1,HNX.out];exact iT.push HB1.out ((Ext.rf W1).al _) HO1.out hP HAV.out (fun r hr=>by rw[aCB.1 hr,aCl,HS1.out];omega) HG.out HO5.out (fun r hr=>by
        have e:g2=r:=Option.some.inj hr;rcases HLI.out with h | h
        ·exact .inl (by rw[h,e])
        ·right;rw[aCl,HS1.out];omega)),hid (((HXA1.out.al _).gr (v:=v) HG.out (fun r hr=>by have:=HVL.out r hr;omega)).se (b:=P) (o:=0) hAP _),hid (by
       rw[heap_setCell_other W5 ⟨P,0,aD⟩ _ _ (by show LB≠P;omega)];have h1:=aW HL1.out ((Ext.rf W1).al (.cells #[.int .u8 (x % 256)] 5));exact(HG.out.block LB (aBy.1 h1).1 (fun e=>HAV.out LB e.symm (aCB.2 rfl))).trans h1),by
       have e:∀ a u,(W5.setCell a u).heap.size=W5.heap.size:=fun a u=>by simp[aCX]
       rw[e];omega⟩
      case measure=>simp[intOf];omega
     ·have g1:=deF h1;have g2:=deF h2;have HNX:=hid (show orB bad ((xs.take (k+1)).any lO)=false from by rw[HNEXT.out.2];simp[hb1,h1,h2]);obtain⟨W1,hW1⟩:∃ W1,wr.setCell ⟨P,1,aD⟩ (.bool false)=W1:=⟨_,rfl⟩;have hs1:W1.heap.size=wr.heap.size:=by rw[<- hW1];simp[aCX]
      have hb1:W1.heap[P]?=aC (.cells #[v,.bool false] 102 (0,0)):=by rw[<- hW1];exact heap_setCell_same wr P 1 _ _ _ hblk
      have ho1:W1.ownsRow base 5 1 v cb.length (cb.map fun n=>aA .u8 n):=by rw[<- hW1];exact cD hown (aY wr P 1 _) hP
      have HB1:=hid hb1;have HO1:=hid ho1;have HOA:=hid (ho1.alloc (.cells #[.int .u8 x] 5));have HN1:=hid (Ci W1 hs1.symm (.int .u8 x) 5);have HXA1:=hid (show Ext A W1 from by rw[<- hW1];exact HXA.out.se (b:=P) (o:=1) hAP _);have HL1:=hid (show W1.heap[LB]?=aC (.cells (xs.map fun n=>aA .i64 n).toArray 3 (0,0)) from by rw[<- hW1,heap_setCell_other wr ⟨P,1,aD⟩ _ _ (by show LB≠P;omega)];exact HL2.out);have HS1:=hid hs1;have HW1:=hid hW1;have HAV:=hid hav;have HVL:=hid (fun r hr=>(hown.lt r hr).1);have HSZ:=hid (show base<=(W1.alloc (.cells #[.int .u8 x] 5)).heap.size from by rw[aCl,hs1];omega);have hne:¬ LB=P:=by omega
      clear hown hav hblk hx HPF hb1 ho1 hW1 hs1
      go_wp2_with (at_builtin;rw[HW1.out];(refine wpList_append_lies _ rfl _ _ 100 rfl base 5 ib _ 1 1 underlying100 ib1 ib2 ib3 ib4 rfl (by decide) v cb.length (cb.map fun n=>aA .u8 n) rfl HOA.out ⟨wr.heap.size,0,aD⟩ 1 1 [.int .u8 x] rfl rfl HN1.out (by simp[aBz]) (by omega) (by unfold maxLen;omega) (by omega) HSZ.out (wr.heap.size+1) (by rw[aCl,HS1.out]) ?_);intro g2 cp2 W5 hown hgrow hlie hlt3;have hp5:=(hgrow.block P (aBA (aBy.1 HB1.out).1 ((Ext.rf W1).al _).size) (fun e=>by have:=HVL.out _ e.symm;omega)).trans (aW HB1.out ((Ext.rf W1).al _));have k5:=cell_of_row W5 P 0 _ _ _ hp5;have f5:=frozen_of_row W5 P 0 _ _ hp5;have HG:=hid hgrow;have HO5:=hid hown;have HLI:=hid hlie;clear hown hgrow hlie hp5)
      have hsz5:=HG.out.size;rw[aCl,HS1.out] at hsz5;go_roundw
      case rel=>exact⟨k+1,by go_num,by omega,hid (by
       rw[HNEXT.out.1,HNX.out,show b8 x=x from by unfold b8;omega];exact iT.push HB1.out ((Ext.rf W1).al _) HO1.out hP HAV.out (fun r hr=>by rw[aCB.1 hr,aCl,HS1.out];omega) HG.out HO5.out (fun r hr=>by
        have e:g2=r:=Option.some.inj hr;rcases HLI.out with h | h
        ·exact .inl (by rw[h,e])
        ·right;rw[aCl,HS1.out];omega)),hid (((HXA1.out.al _).gr (v:=v) HG.out (fun r hr=>by have:=HVL.out r hr;omega)).se (b:=P) (o:=0) hAP _),hid (by
       rw[heap_setCell_other W5 ⟨P,0,aD⟩ _ _ (by show LB≠P;omega)];have h1:=aW HL1.out ((Ext.rf W1).al (.cells #[.int .u8 x] 5));exact(HG.out.block LB (aBy.1 h1).1 (fun e=>HAV.out LB e.symm (aCB.2 rfl))).trans h1),by
       have e:∀ a u,(W5.setCell a u).heap.size=W5.heap.size:=fun a u=>by simp[aCX]
       rw[e];omega⟩
      case measure=>simp[intOf];omega
  ·obtain rfl:k=n:=by omega
   have hno:¬ (k:Int) < (k:Int):=by omega
   have hfin:=HPE.out;rw[aCM (by rw[HLEN.out];exact aBq _)] at hfin;have HFIN:=hid hfin;clear hfin HPE
   go_wp2_with fail
   go_end0
   exact⟨rfl,HFIN.out.less,HXA.out,hs2⟩
theorem Vn {A w0:World} {base P lb n:Nat} {bs:List Int} {bad:Bool} {cs:Array Value} (xs:List Int) (hlb:lb=w0.heap.size) (hcs:cs=(xs.map fun n=>aA .i64 n).toArray) (hxs:n=xs.length) (hpen:iT [] base P w0 bs bad) (hA:Ext A w0) (hAP:A.heap.size<=P) (hP:P < base) (hb:base<=w0.heap.size) (hn:bs.length+xs.length<=140737488355000) (hi:∀ x∈xs,I64 x) :
  Calls prog 57 #[.pointer (aC ⟨P,0,aD⟩),aE (aC ⟨lb,0,aD⟩) n n] (w0.alloc (.cells cs 3)) fun e w'=>e=.returned (.tuple #[])/\iT [] base P w' (bs++xs.map b8) (orB bad (xs.any lO))/\Ext A w'/\w0.heap.size<=w'.heap.size:=by
 subst hlb hcs hxs;exact Qu A w0 base P bs bad xs hpen hA hAP hP hb hn hi
def pK (l:List Piece):List Int:=l.flatMap fun p=>[p.Len,p.N]
def tQ (l:List Run):List Int:=l.flatMap fun r=>[r.At,r.N]
def iL (x:dE):List Int:=[x.aJ,x.N,x.aP.aG,x.aP.aI,x.aP.aH,x.aP.aJ,(x.aP.aF.length:Int)]++pK x.aP.aF++[(x.Cap.length:Int)]++tQ x.Cap
theorem qS (l:List Piece):(pK l).length=2*l.length:=by
 induction l with
 | nil=>rfl
 | cons p l ih=>simp only[pK,aDK,aBk,aBB,aCa] at ih ⊢;omega
theorem uQ (l:List Run):(tQ l).length=2*l.length:=by
 induction l with
 | nil=>rfl
 | cons p l ih=>simp only[tQ,aDK,aBk,aBB,aCa] at ih ⊢;omega
theorem Rs {l:List Piece} {k:Nat} {p:Piece} (h:l[k]?=aC p):pK (l.take (k+1))=pK (l.take k)++[p.Len,p.N]:=by
 unfold pK;rw[aD6,h,aDL];simp
theorem Rt {l:List Run} {k:Nat} {p:Run} (h:l[k]?=aC p):tQ (l.take (k+1))=tQ (l.take k)++[p.At,p.N]:=by
 unfold tQ;rw[aD6,h,aDL];simp
@[irreducible] def mG (x:dE):ByteArray × Int:=
 if(iL x).any lO=true then(ByteArray.empty,3) else if 3 < x.aP.aF.length\/48 < x.Cap.length then(ByteArray.empty,2) else(strOfNums (iL x),0)
theorem Cz {x:dE} (h:(iL x).any lO=true):mG x=(ByteArray.empty,3):=by unfold mG;rw[if_pos h]
theorem Aj {x:dE} (h:(iL x).any lO=false) (h2:3 < x.aP.aF.length\/48 < x.Cap.length):mG x=(ByteArray.empty,2):=by unfold mG;rw[if_neg (by rw[h];exact Bool.false_ne_true),if_pos h2]
theorem Iq {x:dE} (h:(iL x).any lO=false) (h2:¬ (3 < x.aP.aF.length\/48 < x.Cap.length)):mG x=(strOfNums (iL x),0):=by unfold mG;rw[if_neg (by rw[h];exact Bool.false_ne_true),if_neg h2]
theorem b8_in {l:List Int} (h:l.any lO=false):l.map b8=l:=by
 induction l with
 | nil=>rfl
 | cons a l ih=>
  rw[List.any_cons,Bool.or_eq_false_iff] at h;rw[List.map_cons,ih h.2];have h1:=h.1;unfold lO at h1;simp only[Bool.or_eq_false_iff,decide_eq_false_iff_not] at h1;rw[show b8 a=a from by unfold b8;omega]
theorem Lr (a:Bool) (l m:List Int):orB (orB a (l.any lO)) (m.any lO)=orB a ((l++m).any lO):=by rw[vZ,vZ,vZ,aDJ,Bool.or_assoc]
theorem Xc (w:World) (pv cv:Value) (x:dE) (hp:aU w pv x.aP.aF) (hc:bC w cv x.Cap) (hI:I64 x.aP.aG/\I64 x.aP.aI/\I64 x.aP.aH/\I64 x.aP.aJ) (hK:I64 x.aJ) (hN:I64 x.N) :
  Calls prog 20 #[.agg #[aA aB x.aJ,aA aB x.N,aA aB x.aP.aG,aA aB x.aP.aI,aA aB x.aP.aH,aA aB x.aP.aJ,pv,cv]] w fun e w'=>e=.returned (.tuple #[.string (mG x).1,aA aB (mG x).2])/\Ext w w':=by
 obtain⟨A,hA⟩:∃ A,w.alloc (.cells #[aA aB x.aJ,aA aB x.N,aA aB x.aP.aG,aA aB x.aP.aI,aA aB x.aP.aH,aA aB x.aP.aJ,pv,cv] 31)=A:=⟨_,rfl⟩;have hAs:A.heap.size=w.heap.size+1:=by rw[<- hA,aCl]
 have hxA:Ext w A:=hA▸(Ext.rf w).al _;have hbA:A.heap[w.heap.size]?=aC (.cells #[aA aB x.aJ,aA aB x.N,aA aB x.aP.aG,aA aB x.aP.aI,aA aB x.aP.aH,aA aB x.aP.aJ,pv,cv] 31 (0,0)):=hA▸heap_alloc_new w _;obtain⟨W1,hW1⟩:∃ W1,A.alloc (.cells #[aE aD 0 0,.bool false] 102)=W1:=⟨_,rfl⟩;have hW1s:W1.heap.size=w.heap.size+2:=by rw[<- hW1,aCl,hAs]
 have hp0:iT [] (w.heap.size+2) (w.heap.size+1) W1 [] false:=⟨aE aD 0 0,by rw[<- hW1,<- hAs];exact heap_alloc_new A _,by rw[<- hW1];exact aBV _ _ _ _,fun r h=>by cases h⟩;have hxA1:Ext A W1:=hW1▸(Ext.rf A).al _;obtain⟨pa,pc,rfl,hp1,hp2,hp3,hpE⟩:=An hp;obtain⟨ca,cc,rfl,hc1,hc2,hc3,hcE⟩:=An hc;have PUT:=hid (fun(lb n:Nat) (cs:Array Value) (w0:World) (bs:List Int) (bad:Bool) (xs:List Int) (hlb:lb=w0.heap.size) (hcs:cs=(xs.map fun n=>aA .i64 n).toArray) (hxs:n=xs.length) (hpen:iT [] (w.heap.size+2) (w.heap.size+1) w0 bs bad) (hx:Ext A w0) (hb:w.heap.size+2<=w0.heap.size) (hn:bs.length+xs.length<=140737488355000) (hi:∀ x∈xs,I64 x)=>
  Vn (A:=A) xs hlb hcs hxs hpen hx (by omega) (by omega) hb hn hi)
 have HPE:=hid hpE;have HCE:=hid hcE;have HBA:=hid hbA;have HP0:=hid hp0;have HXA:=hid hxA;have HXA1:=hid hxA1;have HA:=hid hA;have HW1:=hid hW1;have HW1s:=hid hW1s;have HAS:=hid hAs;have HII:=hid (And.intro hK (And.intro hN hI));have HLP:=hid (qS x.aP.aF);have HLC:=hid (uQ x.Cap);clear hp hc hpE hcE hbA hp0 hxA hxA1 hA hW1 hW1s hAs hK hN hI;generalize hpn:x.aP.aF.length=pn at *;generalize hcn:x.Cap.length=cn at *;have HPN:=hid hpn;have HCN:=hid hcn;clear hpn hcn;go_enter func20,ntmps20
 go_wp2_with fail
 rw[HA.out,HW1.out];have P1:=hid (PUT.out (w.heap.size+1+1) 7 _ W1 [] false [x.aJ,x.N,x.aP.aG,x.aP.aI,x.aP.aH,x.aP.aJ,(pn:Int)] (by rw[HW1s.out]) rfl rfl HP0.out HXA1.out (by rw[HW1s.out];omega) (by simp) (fun y hy=>by
  obtain⟨h1,h2,h3,h4,h5,h6⟩:=HII.out;have h7:I64 (pn:Int):=by unfold I64;omega
  simp only[aC8,aCj,or_false] at hy;rcases hy with rfl | rfl | rfl | rfl | rfl | rfl | rfl <;> assumption))
 refine P1.out.mono ?_;rintro e w2 ⟨rfl,hpen,hx2,hs2⟩;have HPEN:=hid hpen;have HX2:=hid hx2;have c6:w2.cell? ⟨w.heap.size,6,aD⟩=aC (aE pa pn pc):=cell_of_row _ _ 6 _ _ _ (aW HBA.out hx2);have hw2:w.heap.size+2<=w2.heap.size:=by rw[HW1s.out] at hs2;exact hs2
 clear hpen hx2 hs2 P1
 go_wp2_with fail
 clear c6
 go_loopw [38] (fun c wr=>∃ k:Nat,c=aA aB k/\k<=pn/\Hid (iT [] (w.heap.size+2) (w.heap.size+1) wr (([x.aJ,x.N,x.aP.aG,x.aP.aI,x.aP.aH,x.aP.aJ,(pn:Int)]++pK (x.aP.aF.take k)).map b8) (orB false (([x.aJ,x.N,x.aP.aG,x.aP.aI,x.aP.aH,x.aP.aJ,(pn:Int)]++pK (x.aP.aF.take k)).any lO)))/\Hid (Ext A wr)/\w.heap.size+2<=wr.heap.size) (fun c _=>pn - (intOf c).toNat)
 case atStart=>exact⟨0,rfl,aBO _,HPEN,HX2,hw2⟩
 case round=>
  obtain⟨k,rfl,hk,HPN2,HXR,hsr⟩:=hrel;by_cases hlt:k < pn
  ·have hlt':(k:Int) < (pn:Int):=by omega
   obtain⟨y,hy⟩:=bT (f:=x.aP.aF) (k:=k) (by rw[HPN.out];exact hlt);obtain⟨b,off,rfl,hb,hE⟩:=HPE.out (by omega);obtain⟨d0,d1,hi⟩:=hE k y hy;replace d0:=(HXA.out.tr HXR.out).ce' d0;replace d1:=(HXA.out.tr HXR.out).ce' d1;have t1:=deF (show ¬ (k:Int) < 0 by omega);have HY:=hid hy;have HIY:=hid hi;clear hE hy hi
   go_wp2_with fail
   have hbl:((([x.aJ,x.N,x.aP.aG,x.aP.aI,x.aP.aH,x.aP.aJ,(pn:Int)])++pK (x.aP.aF.take k)).map b8).length+2<=140737488355000:=by
    rw[aCC,aBk,qS,aCH];simp only[aBk,aBB,aCa,qS,uQ,HPN.out,HCN.out];omega
   have P2:=hid (PUT.out (wr.heap.size+1) 2 _ (wr.alloc (.cells #[aA aB y.Len,aA aB y.N] 44)) _ _ [y.Len,y.N] (by rw[aCl]) rfl rfl (HPN2.out.ext ((Ext.rf wr).al _)) (HXR.out.al _) (by rw[aCl];omega) hbl (fun z hz=>by
    simp only[aC8,aCj,or_false] at hz;rcases hz with rfl | rfl
    ·exact HIY.out.1
    ·exact HIY.out.2))
   clear hbl HPN2;refine P2.out.mono ?_;rintro e w3 ⟨rfl,hpen,hx3,hs3⟩;have HPEN3:=hid hpen;have HX3:=hid hx3;rw[aCl] at hs3;clear hpen hx3 P2
   go_wp2_with fail
   go_roundw
   case rel=>exact⟨k+1,by go_num,by omega,hid (by
    rw[Rs HY.out,<- aDm,aCE,<- Lr];exact HPEN3.out),HX3.out,by omega⟩
   case measure=>simp[intOf];omega
  ·obtain rfl:k=pn:=by omega
   have hno:¬ (k:Int) < (k:Int):=by omega
   have hfin:=HPN2.out;rw[show x.aP.aF.take k=x.aP.aF from aCM (by rw[HPN.out];exact aBq _)] at hfin;have HPF:=hid hfin;have c7:wr.cell? ⟨w.heap.size,7,aD⟩=aC (aE ca cn cc):=cell_of_row _ _ 7 _ _ _ (aW HBA.out HXR.out);clear hfin HPN2 HPEN
   go_wp2_with fail
   have hbl:(([x.aJ,x.N,x.aP.aG,x.aP.aI,x.aP.aH,x.aP.aJ,(k:Int)]++pK x.aP.aF).map b8).length+1<=140737488355000:=by
    rw[aCC,aBk,qS,HPN.out];simp only[aBB,aCa];omega
   have P3:=hid (PUT.out wr.heap.size 1 _ wr _ _ [(cn:Int)] rfl rfl rfl HPF.out HXR.out hsr hbl (fun z hz=>by
    rw[aCB.1 hz];unfold I64;omega))
   clear hbl HPF c7;refine P3.out.mono ?_;rintro e w4 ⟨rfl,hpen,hx4,hs4⟩;rw[<- aCE,Lr] at hpen;have HPEN4:=hid hpen;have HX4:=hid hx4;have c7:w4.cell? ⟨w.heap.size,7,aD⟩=aC (aE ca cn cc):=cell_of_row _ _ 7 _ _ _ (aW HBA.out hx4);have hw4:w.heap.size+2<=w4.heap.size:=by omega
   clear hpen hx4 P3 hs4
   go_wp2_with fail
   clear c7
   go_loopw [59] (fun c wr=>∃ j:Nat,c=aA aB j/\j<=cn/\Hid (iT [] (w.heap.size+2) (w.heap.size+1) wr (([x.aJ,x.N,x.aP.aG,x.aP.aI,x.aP.aH,x.aP.aJ,(k:Int)]++pK x.aP.aF++[(cn:Int)]++tQ (x.Cap.take j)).map b8) (orB false (([x.aJ,x.N,x.aP.aG,x.aP.aI,x.aP.aH,x.aP.aJ,(k:Int)]++pK x.aP.aF++[(cn:Int)]++tQ (x.Cap.take j)).any lO)))/\Hid (Ext A wr)/\w.heap.size+2<=wr.heap.size) (fun c _=>cn - (intOf c).toNat)
   case atStart=>exact⟨0,rfl,aBO _,hid (by rw[List.take_zero,show tQ []=[] from rfl,aBi];exact HPEN4.out),HX4,hw4⟩
   case round=>
    obtain⟨j,rfl,hj,HPN2,HXR2,hsr2⟩:=hrel;by_cases hlt2:j < cn
    ·have hlt':(j:Int) < (cn:Int):=by omega
     obtain⟨y,hy⟩:=bT (f:=x.Cap) (k:=j) (by rw[HCN.out];exact hlt2);obtain⟨b,off,rfl,hb,hE⟩:=HCE.out (by omega);obtain⟨d0,d1,hi⟩:=hE j y hy;replace d0:=(HXA.out.tr HXR2.out).ce' d0;replace d1:=(HXA.out.tr HXR2.out).ce' d1;have t1:=deF (show ¬ (j:Int) < 0 by omega);have HY:=hid hy;have HIY:=hid hi;clear hE hy hi
     go_wp2_with fail
     have hbl:((([x.aJ,x.N,x.aP.aG,x.aP.aI,x.aP.aH,x.aP.aJ,(k:Int)]++pK x.aP.aF++[(cn:Int)])++tQ (x.Cap.take j)).map b8).length+2<=140737488355000:=by
      rw[aCC,aBk,uQ,aCH];simp only[aBk,aBB,aCa,qS,uQ,HPN.out,HCN.out];omega
     have P2:=hid (PUT.out (wr.heap.size+1) 2 _ (wr.alloc (.cells #[aA aB y.At,aA aB y.N] 48)) _ _ [y.At,y.N] (by rw[aCl]) rfl rfl (HPN2.out.ext ((Ext.rf wr).al _)) (HXR2.out.al _) (by rw[aCl];omega) hbl (fun z hz=>by
      simp only[aC8,aCj,or_false] at hz;rcases hz with rfl | rfl
      ·exact HIY.out.1
      ·exact HIY.out.2))
     clear hbl HPN2;refine P2.out.mono ?_;rintro e w3 ⟨rfl,hpen,hx3,hs3⟩;have HPEN3:=hid hpen;have HX3:=hid hx3;rw[aCl] at hs3;clear hpen hx3 P2
     go_wp2_with fail
     go_roundw
     case rel=>exact⟨j+1,by go_num,by omega,hid (by
      rw[Rt HY.out,<- aDm,aCE,<- Lr];exact HPEN3.out),HX3.out,by omega⟩
     case measure=>simp[intOf];omega
    ·obtain rfl:j=cn:=by omega
     have hno2:¬ (j:Int) < (j:Int):=by omega
     have hfin:=HPN2.out;rw[show x.Cap.take j=x.Cap from aCM (by rw[HCN.out];exact aBq _)] at hfin;have hnum:[x.aJ,x.N,x.aP.aG,x.aP.aI,x.aP.aH,x.aP.aJ,(k:Int)]++pK x.aP.aF++[(j:Int)]++tQ x.Cap=iL x:=by
      unfold iL;rw[HPN.out,HCN.out]
     rw[hnum] at hfin;obtain⟨v,k0,k1,_,_,hown,_,_⟩:=hfin.cells;have hbe:orB false ((iL x).any lO)=(iL x).any lO:=by rw[vZ];rfl
     rw[hbe] at k1;have c6:wr.cell? ⟨w.heap.size,6,aD⟩=aC (aE pa k pc):=cell_of_row _ _ 6 _ _ _ (aW HBA.out HXR2.out);have c7:wr.cell? ⟨w.heap.size,7,aD⟩=aC (aE ca j cc):=cell_of_row _ _ 7 _ _ _ (aW HBA.out HXR2.out);have HOWN:=hid hown;clear hfin HPN2 hnum hbe hown HPEN4;by_cases hbad:(iL x).any lO=true
     ·have HR:=hid (Cz hbad);rw[hbad] at k1;clear hbad
      go_wp2_with fail
      go_ret2
      exact⟨by rw[HR.out];rfl,HXA.out.tr HXR2.out⟩
     ·have hb2:(iL x).any lO=false:=by simpa using hbad
      rw[hb2] at k1;by_cases h3:3 < k
      ·have HR:=hid (Aj hb2 (.inl (by rw[HPN.out];exact h3)));have h3':(3:Int) < (k:Int):=by omega
       have h3d:=deT h3';clear hbad hb2
       go_wp2_with fail
       go_ret2
       exact⟨by rw[HR.out];rfl,HXA.out.tr HXR2.out⟩
      ·by_cases h48:48 < j
       ·have HR:=hid (Aj hb2 (.inr (by rw[HCN.out];exact h48)));have h3':¬ (3:Int) < (k:Int):=by omega
        have h48':(48:Int) < (j:Int):=by omega
        have h3d:=deF h3';have h48d:=deT h48';clear hbad hb2
        go_wp2_with fail
        go_ret2
        exact⟨by rw[HR.out];rfl,HXA.out.tr HXR2.out⟩
       ·have HR:=hid (Iq hb2 (by rw[HPN.out,HCN.out];omega));have h3':¬ (3:Int) < (k:Int):=by omega
        have h48':¬ (48:Int) < (j:Int):=by omega
        have h3d:=deF h3';have h48d:=deF h48';have hown:=HOWN.out;rw[b8_in hb2] at hown;have hlen:1<=(iL x).length:=by unfold iL;simp
        obtain⟨g,cap,rfl⟩:=iK hown hlen;have hcv:=run_convert_bytes_arg (P:=prog) wr 100 5 underlying100 (by kernel_rfl) g 0 (iL x).length cap (iL x) rfl (fun i hi=>by
         have h:=hown.cells (g:=g) rfl i (.int .u8 ((iL x).getD i 0)) (by
          rw[aCL,aBu hi];simp[List.getD,aBu hi])
         rw[yL] at h;exact h) 9 (by kernel_rfl)
        clear hbad hb2 hown hlen HOWN;generalize (iL x).length=nl at *
        go_wp2_with fail
        go_ret2
        exact⟨by rw[HR.out];rfl,HXA.out.tr HXR2.out⟩
def str (l:List UInt8):ByteArray:=⟨l.toArray⟩
theorem lG (l:List UInt8):(str l).size=l.length:=by unfold str;simp[ByteArray.size]
theorem Qk (l:List UInt8):(str l).toList=l:=by
 rw[Lib.toList_data];unfold str;simp
theorem aAh:str []=ByteArray.empty:=rfl
theorem Xw (b:UInt8) (l:List UInt8):(str (b::l)).extract 1 (str (b::l)).size=str l:=by
 apply ByteArray.ext;rw[ByteArray.data_extract,lG];unfold str;simp
theorem Xx (b:UInt8) (l:List UInt8) (h:0 < (str (b::l)).size):(str (b::l))[0]'h=b:=by
 unfold str;rfl
def pU:List PanicEntry:=[{ v:=.iface 196 (.agg #[]),recovered:=false }]
def byI (b:UInt8):Int:=(b.toNat:Int)
theorem Ee (w:World) (G:Nat) (h:w.cell? ⟨G,0,aD⟩=aC (.string (str []))) :
  Calls prog 158 #[.pointer (aC ⟨G,0,aD⟩)] w fun e w'=>e=.panicked pU/\w'=w:=by
 rw[aAh] at h;go_enter func158,ntmps158
 go_wp2_with fail
 exact⟨rfl,rfl,rfl⟩
theorem Ed (w:World) (G:Nat) (b:UInt8) (l:List UInt8) (h:w.cell? ⟨G,0,aD⟩=aC (.string (str (b::l)))) (hf:w.frozen? ⟨G,0,aD⟩=false) :
  Calls prog 158 #[.pointer (aC ⟨G,0,aD⟩)] w fun e w'=>e=.returned (aA aB (byI b))/\w'=w.setCell ⟨G,0,aD⟩ (.string (str l)):=by
 have hs:0 < (str (b::l)).size:=by rw[lG];simp
 have h0:=Xx b l hs;have h1:=Xw b l;have h2:(str (b::l)).toList.isEmpty=false:=by rw[Qk];rfl
 have HB:=hid (show (b.toNat:Int)=byI b from rfl);have hw:wrap64 (b.toNat:Int)=(b.toNat:Int):=by
  have:=b.toNat_lt;unfold wrap64;omega
 generalize hsv:str (b::l)=s at *;generalize str l=t at *;clear hsv;go_enter func158,ntmps158
 go_wp2_with fail
 go_ret;refine⟨?_,rfl⟩;show Ending.returned (aA aB (wrap64 (b.toNat:Int)))=_;rw[hw];rfl
def iE (G:Nat):List Addr->List UInt8->World->World
 | [],_,w=>w
 | _::_,[],w=>w
 | a::ps,b::t,w=>iE G ps t ((w.setCell ⟨G,0,aD⟩ (.string (str t))).setCell a (aA aB (byI b)))
theorem Jt (G:Nat) (ps:List Addr) (w:World):iE G ps [] w=w:=by cases ps <;> rfl
theorem Es (G:Nat):∀ (ps:List Addr) (t:List UInt8) (w:World) (i:Nat) (a:Addr) (b:UInt8),ps[i]?=aC a->t[i]?=aC b->
  iE G (ps.take (i+1)) t w=((iE G (ps.take i) t w).setCell ⟨G,0,aD⟩ (.string (str (t.drop (i+1))))).setCell a (aA aB (byI b))
 | [],_,_,_,_,_,h,_=>by simp at h
 | _::_,[],_,_,_,_,_,h=>by simp at h
 | a0::ps,b0::t,w,0,a,b,h1,h2=>by
  simp only[List.getElem?_cons_zero,Option.some.injEq] at h1 h2;subst h1 h2;simp[iE]
 | a0::ps,b0::t,w,i+1,a,b,h1,h2=>by
  simp only[aDz] at h1 h2;simp only[aCQ,iE,List.drop_succ_cons];exact Es G ps t _ i a b h1 h2
theorem Er (G:Nat):∀ (ps:List Addr) (t:List UInt8) (w:World) (i:Nat),t.length<=i->iE G (ps.take i) t w=iE G ps t w
 | ps,[],w,i,_=>by rw[Jt,Jt]
 | [],b::t,w,i,_=>by simp[iE]
 | a::ps,b::t,w,0,h=>by simp at h
 | a::ps,b::t,w,i+1,h=>by
  simp only[aCQ,iE];exact Er G ps t _ i (by simpa using h)
theorem Ep (w:World) (G lb:Nat) (ps:List Addr) (t:List UInt8) (h100:ps.length<=100) (hG:w.cell? ⟨G,0,aD⟩=aC (.string (str t))) (hGf:w.frozen? ⟨G,0,aD⟩=false) (hL:w.heap[lb]?=aC (.cells (ps.map fun a=>aDM (aC a)).toArray 150 (0,0))) (hne:lb≠G) (has:∀ a∈ps,a.block≠G/\a.block≠lb/\(∃ old,w.cell? a=aC old)/\w.frozen? a=false) :
  Calls prog 105 #[.pointer (aC ⟨G,0,aD⟩),aE (aC ⟨lb,0,aD⟩) ps.length ps.length] w fun e w'=>e=(if ps.length<=t.length then .returned (.tuple #[]) else .panicked pU)/\w'=iE G ps t w:=by
 have HAS:=hid (fun a (h:a∈ps)=>(has a h).1);have HAL:=hid (fun a (h:a∈ps)=>(has a h).2.1);have HAE:=hid (fun a (h:a∈ps)=>(has a h).2.2);have HG:=hid hG;have HGF:=hid hGf;have HL:=hid hL;clear has hG hGf hL;generalize hn:ps.length=n at *;have HN:=hid hn;clear hn;go_enter func105,ntmps105
 go_wp2_with fail
 go_loopw [8] (fun c wr=>∃ i:Nat,c=aA aB i/\i<=n/\i<=t.length/\Hid (wr=iE G (ps.take i) t w)/\Hid (wr.cell? ⟨G,0,aD⟩=aC (.string (str (t.drop i))))/\Hid (wr.frozen? ⟨G,0,aD⟩=false)/\Hid (wr.heap[lb]?=aC (.cells (ps.map fun a=>aDM (aC a)).toArray 150 (0,0)))/\Hid (∀ a∈ps,(∃ old,wr.cell? a=aC old)/\wr.frozen? a=false)) (fun c _=>n - (intOf c).toNat)
 case atStart=>exact⟨0,rfl,aBO _,aBO _,hid rfl,HG,HGF,HL,HAE⟩
 case round=>
  obtain⟨i,rfl,hi,hit,HW,HC,HF,HLL,HE⟩:=hrel;by_cases hlt:i < n
  ·have hlt':(i:Int) < (n:Int):=by omega
   obtain⟨a,ha⟩:=bT (f:=ps) (k:=i) (by rw[HN.out];exact hlt);have c0:wr.cell? ⟨lb,i,aD⟩=aC (.pointer (aC a)):=by
    rw[cell_of_row wr lb i _ _ _ HLL.out];simp[aCL,ha]
   have hmem:=aBJ ha;by_cases htl:i < t.length
   ·obtain⟨b,hb⟩:=bT (f:=t) (k:=i) htl;have hdr:t.drop i=b::t.drop (i+1):=by
     obtain⟨h1,h2⟩:=aBD.1 hb;rw[<- h2];exact aDG h1
    have hc:=HC.out;rw[hdr] at hc;have NUM:=hid (Ed wr G b (t.drop (i+1)) hc HF.out);have HSN:=hid (Es G ps t w i a b ha hb);obtain⟨old,hold⟩:=(HE.out a hmem).1;have hag:=HAS.out a hmem;have k0:(wr.setCell ⟨G,0,aD⟩ (.string (str (t.drop (i+1))))).cell? a=aC old:=by
     rw[aDN _ _ _ _ (fun e=>hag (by rw[<- e]))];exact hold
    have f0:(wr.setCell ⟨G,0,aD⟩ (.string (str (t.drop (i+1))))).frozen? a=false:=by
     rw[aDO];exact(HE.out a hmem).2
    have HCN:=hid (show (((wr.setCell ⟨G,0,aD⟩ (.string (str (t.drop (i+1))))).setCell a (aA aB (byI b))).cell? ⟨G,0,aD⟩=aC (.string (str (t.drop (i+1))))) from by
     rw[aDN _ _ _ _ (fun e=>hag (by rw[e]))];exact aDP _ _ _ hc)
    have HFN:=hid (show ((wr.setCell ⟨G,0,aD⟩ (.string (str (t.drop (i+1))))).setCell a (aA aB (byI b))).frozen? ⟨G,0,aD⟩=false from by
     rw[aDO,aDO];exact HF.out)
    have HLN:=hid (show ((wr.setCell ⟨G,0,aD⟩ (.string (str (t.drop (i+1))))).setCell a (aA aB (byI b))).heap[lb]?=aC (.cells (ps.map fun a=>aDM (aC a)).toArray 150 (0,0)) from by
     rw[heap_setCell_other _ a _ _ (fun e=>HAL.out a hmem e.symm),heap_setCell_other _ ⟨G,0,aD⟩ _ _ hne];exact HLL.out)
    have HEN:=hid (show ∀ c∈ps,(∃ old,((wr.setCell ⟨G,0,aD⟩ (.string (str (t.drop (i+1))))).setCell a (aA aB (byI b))).cell? c=aC old)/\((wr.setCell ⟨G,0,aD⟩ (.string (str (t.drop (i+1))))).setCell a (aA aB (byI b))).frozen? c=false from fun c hc'=>by
     refine⟨?_,by rw[aDO,aDO];exact(HE.out c hc').2⟩;by_cases hca:a=c
     ·rw[<- hca];exact⟨_,aDP _ _ _ k0⟩
     ·rw[aDN _ _ _ _ hca,aDN _ _ _ _ (fun e=>HAS.out c hc' (by rw[<- e]))];exact(HE.out c hc').1)
    have HW2:=hid (show (wr.setCell ⟨G,0,aD⟩ (.string (str (t.drop (i+1))))).setCell a (aA aB (byI b))=iE G (ps.take (i+1)) t w from by rw[HSN.out,<- HW.out]);have g1:=deF (show ¬ (i:Int) < 0 by omega);clear hb ha hmem hdr hc hold hag HC HE HLL HSN
    go_wp2_with fail
    refine NUM.out.mono ?_;rintro e w2 ⟨rfl,rfl⟩
    go_wp2_with fail
    go_roundw
    case rel=>exact⟨i+1,by go_num,by omega,by omega,HW2,HCN,HFN,HLN,HEN⟩
    case measure=>simp[intOf];omega
   ·have hdr:t.drop i=[]:=aDI (by omega);have hc:=HC.out;rw[hdr] at hc;have NUM:=hid (Ee wr G hc);have hlen:¬ n<=t.length:=by omega
    have HEND:=hid (show wr=iE G ps t w from by rw[HW.out];exact Er G ps t w i (by omega));clear ha hmem hdr hc
    go_wp2_with fail
    refine NUM.out.mono ?_;rintro e w2 ⟨rfl,hw2⟩;obtain rfl:=hw2.symm
    go_wp2_with fail
    first
     | exact⟨rfl,rfl,HEND.out⟩
     | (rw[if_neg hlen];exact⟨rfl,rfl,HEND.out⟩)
  ·obtain rfl:i=n:=by omega
   have hno:¬ (i:Int) < (i:Int):=by omega
   have HEND:=hid (show wr=iE G ps t w from by rw[HW.out,aCM (by rw[HN.out];exact aBq _)]);have hle:i<=t.length:=hit;clear hlt
   go_wp2_with fail
   go_end0
   exact⟨rfl,HEND.out⟩
end Go.Proofs.YtdcndkojmflhnaaGreat
