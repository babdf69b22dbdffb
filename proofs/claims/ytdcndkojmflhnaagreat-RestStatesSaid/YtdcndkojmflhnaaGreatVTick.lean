import Derived.Test.YtdcndkojmflhnaaGreatVOwnS
import Derived.Test.YtdcndkojmflhnaaGreatVPlanL
import Derived.Test.YtdcndkojmflhnaaGreatVFind
import Derived.Test.YtdcndkojmflhnaaGreatVCore
import Derived.Deep.RegionHeld3
import Derived.RangeFuncNested
import Derived.RangeFuncBound
import Derived.RangeFuncCalls
import Derived.RangeFuncLeaves
import Derived.RangeFuncBox
import Derived.Shelf.Abstract
import Derived.Shelf.RegionOpen
import Derived.WalkKit
import Derived.OwnWalkIn
import Derived.TacticsInMore
import Derived.LoopNIn
import Derived.LoopIn
import Derived.Maps.AppendAt
import Derived.Shelf.SlSortCmp.SmallK
import Derived.Shelf.SlicesG.Cmp
import Derived.Shelf.Small.Bits
import Derived.Ground.SlsfProg
import Derived.Ground.SlgcProg
import Derived.Ground.NamesProg
import Derived.Shelf.Spec.SlicesInsert
set_option linter.unusedVariables false
set_option maxRecDepth 100000
set_option maxHeartbeats 8000000
set_option linter.unusedSimpArgs false
namespace Go.Proofs.YtdcndkojmflhnaaGreat
open Tryz
open Go.RowKit
open List renaming getElem_toArray->zA,getElem_cons_zero->zB,getElem_cons_succ->zC,setIfInBounds_toArray->zD,set_cons_zero->zE,set_cons_succ->zF
open Go.Value renaming int->aA,slice->aE,oneCell'->aBz,ownBlock->aCZ
open Go.IntKind renaming i64->aB
open _root_.Option renaming none->aD,some->aC
open Go.World renaming size_alloc->aCl,cell?_of_block->aCk
open _root_.Nat renaming le_refl->aBq,le_trans->aC4,lt_of_lt_of_le->aBA,lt_or_ge->aBK,reduceAdd->aCb,reduceSub->aCc,zero_le->aBO,zero_add->aBE,not_lt_zero->aBn,min->aDA,min_def->aDB
open _root_.List renaming mem_cons_self->aCw,length_filter_le->aDj,mem_cons_of_mem->aBl,mem_append_right->aD2,take_add_one->aD6,length_take->aCH,mem_of_getElem?->aBJ,take_of_length_le->aCM,mem_cons->aC8,getElem?_eq_getElem->aBu,cons_append->aCi,mem_append->aBm,mem_singleton->aCB,getD_eq_getElem?_getD->aC0,getElem?_eq_none->aBZ,any_eq_false->aBY,mem_range->aC3,getElem?_eq_some_iff->aBD,length_eraseIdx_of_lt->aDk,Perm->aDl,append_assoc->aDm,eq_nil_of_length_eq_zero->aBC,Sublist->aDn,eraseIdx_sublist->aDo,append_nil->aBi,perm_middle->aDp,nil_append->aCh,pairwise_cons->aDq,mem_append_left->aD1,Pairwise->aDr,mem_iff_getElem?->aCU,map_cons->aCu,mem_map->aCn,length_cons->aBB,length_append->aBk,getElem?_append_left->aCI,getElem?_append_right->aCJ,size_toArray->aC9,length_nil->aCa,push_toArray->aCf,append_toArray->aCg,not_mem_nil->aCj,getElem?_map->aCL,ext_getElem?->aBU,length_map->aCC,getElem?_take_of_lt->aCY,pairwise_iff_getElem->aDx,length_drop->aDc,mem_of_mem_take->aDy,mem_of_mem_drop->aDb,getElem?_cons_succ->aDz,getElem?_drop->aBN,take_take->aD7,flatten_append->aD3,flatten_cons->aCT
open _root_.Array renaming getElem?_eq_some_iff->aBy,replicate_succ->aCd,replicate_zero->aCe,getElem?_toList->aDs,length_toList->aDa,getElem?_append_left->aDt,size_modify->aDu,getElem?_modify->aDv,extract_size->aDw
open _root_.Int renaming le_refl->aBp,toNat_of_nonneg->aCr
noncomputable def kF (t:Int) (b:List aT):List aT:=b.filter fun x=>!fG t x
noncomputable def zW (s:aV) (t:Int):aV:=⟨t,s.aM,s.aN,kF t s.aK⟩
@[irreducible] noncomputable def iC (s:aV) (t:Int):aV × Int × Int:=
 if aZ s≠0 then(fA,0,aZ s) else if¬ (0<=t/\t<=48) then(fA,0,3) else if t < s.aL then(fA,0,9) else(zW s t,(s.aK.length:Int) - ((kF t s.aK).length:Int),0)
theorem Ir {s:aV} {t:Int} (h:aZ s≠0):iC s t=(fA,0,aZ s):=by unfold iC;rw[if_pos h]
theorem Ak {s:aV} {t:Int} (h:aZ s=0) (h2:¬ (0<=t/\t<=48)):iC s t=(fA,0,3):=by unfold iC;rw[if_neg (by simp[h]),if_pos h2]
theorem Dh {s:aV} {t:Int} (h:aZ s=0) (h2:0<=t/\t<=48) (h3:t < s.aL):iC s t=(fA,0,9):=by unfold iC;rw[if_neg (by simp[h]),if_neg (by simp[h2]),if_pos h3]
theorem Dg {s:aV} {t:Int} (h:aZ s=0) (h2:0<=t/\t<=48) (h3:¬ t < s.aL):iC s t=(zW s t,(s.aK.length:Int) - ((kF t s.aK).length:Int),0):=by unfold iC;rw[if_neg (by simp[h]),if_neg (by simp[h2]),if_neg h3]
theorem Xf (w:World) (pv bv:Value) (x:aT) (t:Int) (B:Nat) (hp:aU w pv x.aP.aF) (hb:bJ w bv x.aO) (hc:w.cell? ⟨B,0,aD⟩=aC (aA aB t)) :
  Calls prog 80 #[.agg #[aA aB x.Id,aA aB x.aP.aG,aA aB x.aP.aI,aA aB x.aP.aH,aA aB x.aP.aJ,pv,bv],.pointer (aC ⟨B,0,aD⟩)] w fun e w'=>e=.returned (.bool (fG t x))/\Ext w w':=by
 have O:=hid (fun(W:World) (h:Ext w W)=>Ko W pv bv x t (hp.mono h) (hb.mono h));have hBl:=World.block_lt_of_cell? w _ hc;have hB:B < w.heap.size:=hBl;clear hBl;obtain⟨pa,pc,rfl,_,_,_⟩:=hp.form;obtain⟨ba,bc,rfl,_,_,_⟩:=hb.form;clear hp hb;generalize fG t x=lt at *;generalize x.aP.aF.length=pn at *;generalize x.aO.length=bn at *;go_enter func80,ntmps80
 go_wp2_with fail
 refine(O.out _ ((Ext.rf w).al _)).mono ?_;rintro e w1 ⟨rfl,hx⟩
 go_wp2_with fail
 go_ret;exact⟨rfl,((Ext.rf w).al _).tr hx⟩
theorem rB (w:World) (s:aV) (t:Int) (tv bv:Value):∃ w1:World,((w.alloc (.cells #[aA aB s.aL,aA aB s.aM,tv,bv] 25)).alloc (.cells #[aA aB t] 3)).alloc (.cells #[aA aB 0,aA aB 0,aE aD 0 0,aE aD 0 0] 25)=w1/\Ext w w1/\(∀ W,Ext w1 W->(W.cell? ⟨w.heap.size,0,aD⟩=aC (aA aB s.aL)/\W.cell? ⟨w.heap.size,1,aD⟩=aC (aA aB s.aM)/\W.cell? ⟨w.heap.size,2,aD⟩=aC tv/\W.cell? ⟨w.heap.size,3,aD⟩=aC bv))/\
  (∀ W,Ext w1 W->W.cell? ⟨w.heap.size+1,0,aD⟩=aC (aA aB t))/\
  (∀ W,Ext w1 W->W.heap[w.heap.size+1+1]?=aC (.cells #[aA aB 0,aA aB 0,aE aD 0 0,aE aD 0 0] 25 (0,0)))/\w1.heap.size=w.heap.size+3:=by
 refine⟨_,rfl,(((Ext.rf w).al _).al _).al _,fun W h=>eR ((((Ext.rf _).al _).al _).tr h),fun W h=>?_,fun W h=>?_,by simp⟩
 ·have e:=heap_alloc_new (w.alloc (.cells #[aA aB s.aL,aA aB s.aM,tv,bv] 25)) (.cells #[aA aB t] 3);simp only[aCl] at e;exact cell_of_row W _ 0 _ _ _ ((h.block _ (by simp)).trans ((((Ext.rf _).al _).block _ (by simp)).trans e))
 ·have e:=heap_alloc_new ((w.alloc (.cells #[aA aB s.aL,aA aB s.aM,tv,bv] 25)).alloc (.cells #[aA aB t] 3)) (.cells #[aA aB 0,aA aB 0,aE aD 0 0,aE aD 0 0] 25);simp only[aCl] at e;exact(h.block _ (by simp)).trans e
theorem Zr (w:World) (tv bv:Value) (s:aV) (t:Int) (hl:aX w tv s.aN) (hb:bD w bv s.aK) (h0:aZ s≠0) :
  Calls prog 40 #[.agg #[aA aB s.aL,aA aB s.aM,tv,bv],aA aB t] w (dN w (iC s t)):=by
 have F:=hid (fun(W:World) (h:Ext w W)=>eQ W tv bv s (hl.mono h) (hb.mono h));obtain⟨wb,hwb,HX,HSS,HTT,HZZ,hszb⟩:=rB w s t tv bv;have HX0:=hid HX;have HS0:=hid HSS;have HT0:=hid HTT;have HZ0:=hid HZZ;have HWB:=hid hwb;have HSB:=hid hszb;clear HX HSS HTT HZZ hwb hszb;have HR:=hid (Ir (t:=t) h0);have hne:=neT h0;obtain⟨qa,qc,rfl,_,_,_⟩:=hl.form;obtain⟨ba,bc,rfl,_,_,_⟩:=hb.form;clear hl hb;clear h0;generalize aZ s=se at *;generalize s.aN.length=n at *;generalize s.aK.length=z at *;go_enter func40,ntmps40
 go_wp2_with fail
 rw[HWB.out];refine(F.out _ HX0.out).mono ?_;rintro e w2 ⟨rfl,hx2⟩;have HB:=hid (HZ0.out w2 (hx2));have HX2:=hid ((HX0.out.tr (hx2)).sr (b:=w.heap.size+1+1) (by omega) #[aA aB 0,aA aB 0,aE aD 0 0,aE aD 0 0]);have HB2:=hid (setRow_heap w2 (w.heap.size+1+1) _ #[aA aB 0,aA aB 0,aE aD 0 0,aE aD 0 0] _ _ HB.out)
 go_wp2_with (refine wpList_store_row rfl 25 _ _ rfl (w.heap.size+1+1) #[aA aB 0,aA aB 0,aE aD 0 0,aE aD 0 0] rfl rfl 25 _ HB.out size25 rfl (by simp[aBz]) ?_)
 exact bodyPost_ret (bH (u1:=5) (u2:=6) rfl _ _ (w.heap.size+1+1) 25 #[aA aB 0,aA aB 0,aE aD 0 0,aE aD 0 0] (0,0) _ rfl HB2.out underlying25 rfl size25) rfl (cA HR.out HX2.out)
theorem Sy (w:World) (tv bv:Value) (s:aV) (t:Int) (hl:aX w tv s.aN) (hb:bD w bv s.aK) (h0:aZ s=0) (h1:¬ (0<=t/\t<=48)) :
  Calls prog 40 #[.agg #[aA aB s.aL,aA aB s.aM,tv,bv],aA aB t] w (dN w (iC s t)):=by
 have F:=hid (fun(W:World) (h:Ext w W)=>eQ W tv bv s (hl.mono h) (hb.mono h));obtain⟨wb,hwb,HX,HSS,HTT,HZZ,hszb⟩:=rB w s t tv bv;have HX0:=hid HX;have HS0:=hid HSS;have HT0:=hid HTT;have HZ0:=hid HZZ;have HWB:=hid hwb;have HSB:=hid hszb;clear HX HSS HTT HZZ hwb hszb;have HR:=hid (Ak h0 h1);rw[h0] at F;obtain⟨qa,qc,rfl,_,_,_⟩:=hl.form;obtain⟨ba,bc,rfl,_,_,_⟩:=hb.form;clear hl hb;clear h0;generalize s.aN.length=n at *;generalize s.aK.length=z at *;go_enter func40,ntmps40
 go_wp2_with fail
 rw[HWB.out];refine(F.out _ HX0.out).mono ?_;rintro e w2 ⟨rfl,hx2⟩;obtain⟨a0,a1,a2,a3⟩:=HS0.out w2 hx2;have ct:=HT0.out w2 hx2;by_cases hlo:t < 0
 ·have t1:=deT hlo;have HB:=hid (HZ0.out w2 (hx2));have HX2:=hid ((HX0.out.tr (hx2)).sr (b:=w.heap.size+1+1) (by omega) #[aA aB 0,aA aB 0,aE aD 0 0,aE aD 0 0]);have HB2:=hid (setRow_heap w2 (w.heap.size+1+1) _ #[aA aB 0,aA aB 0,aE aD 0 0,aE aD 0 0] _ _ HB.out)
  go_wp2_with (refine wpList_store_row rfl 25 _ _ rfl (w.heap.size+1+1) #[aA aB 0,aA aB 0,aE aD 0 0,aE aD 0 0] rfl rfl 25 _ HB.out size25 rfl (by simp[aBz]) ?_)
  exact bodyPost_ret (bH (u1:=5) (u2:=6) rfl _ _ (w.heap.size+1+1) 25 #[aA aB 0,aA aB 0,aE aD 0 0,aE aD 0 0] (0,0) _ rfl HB2.out underlying25 rfl size25) rfl (cA HR.out HX2.out)
 ·have hhi:48 < t:=by omega
  have t1:=deF hlo;have t2:=deT hhi;have HB:=hid (HZ0.out w2 (hx2));have HX2:=hid ((HX0.out.tr (hx2)).sr (b:=w.heap.size+1+1) (by omega) #[aA aB 0,aA aB 0,aE aD 0 0,aE aD 0 0]);have HB2:=hid (setRow_heap w2 (w.heap.size+1+1) _ #[aA aB 0,aA aB 0,aE aD 0 0,aE aD 0 0] _ _ HB.out)
  go_wp2_with (refine wpList_store_row rfl 25 _ _ rfl (w.heap.size+1+1) #[aA aB 0,aA aB 0,aE aD 0 0,aE aD 0 0] rfl rfl 25 _ HB.out size25 rfl (by simp[aBz]) ?_)
  exact bodyPost_ret (bH (u1:=5) (u2:=6) rfl _ _ (w.heap.size+1+1) 25 #[aA aB 0,aA aB 0,aE aD 0 0,aE aD 0 0] (0,0) _ rfl HB2.out underlying25 rfl size25) rfl (cA HR.out HX2.out)
theorem Xe (w:World) (tv bv:Value) (s:aV) (t:Int) (hl:aX w tv s.aN) (hb:bD w bv s.aK) (h0:aZ s=0) (h1:0<=t/\t<=48) (h2:t < s.aL) :
  Calls prog 40 #[.agg #[aA aB s.aL,aA aB s.aM,tv,bv],aA aB t] w (dN w (iC s t)):=by
 have F:=hid (fun(W:World) (h:Ext w W)=>eQ W tv bv s (hl.mono h) (hb.mono h));obtain⟨wb,hwb,HX,HSS,HTT,HZZ,hszb⟩:=rB w s t tv bv;have HX0:=hid HX;have HS0:=hid HSS;have HT0:=hid HTT;have HZ0:=hid HZZ;have HWB:=hid hwb;have HSB:=hid hszb;clear HX HSS HTT HZZ hwb hszb;have HR:=hid (Dh h0 h1 h2);rw[h0] at F;obtain⟨qa,qc,rfl,_,_,_⟩:=hl.form;obtain⟨ba,bc,rfl,_,_,_⟩:=hb.form;clear hl hb;clear h0;obtain⟨g1,g2⟩:=h1;generalize s.aN.length=n at *;generalize s.aK.length=z at *;go_enter func40,ntmps40
 go_wp2_with fail
 rw[HWB.out];refine(F.out _ HX0.out).mono ?_;rintro e w2 ⟨rfl,hx2⟩;obtain⟨a0,a1,a2,a3⟩:=HS0.out w2 hx2;have ct:=HT0.out w2 hx2;have t1:=deF (show ¬ t < 0 by omega);have t2:=deF (show ¬ 48 < t by omega);have t3:=deT h2;have HB:=hid (HZ0.out w2 (hx2));have HX2:=hid ((HX0.out.tr (hx2)).sr (b:=w.heap.size+1+1) (by omega) #[aA aB 0,aA aB 0,aE aD 0 0,aE aD 0 0]);have HB2:=hid (setRow_heap w2 (w.heap.size+1+1) _ #[aA aB 0,aA aB 0,aE aD 0 0,aE aD 0 0] _ _ HB.out)
 go_wp2_with (refine wpList_store_row rfl 25 _ _ rfl (w.heap.size+1+1) #[aA aB 0,aA aB 0,aE aD 0 0,aE aD 0 0] rfl rfl 25 _ HB.out size25 rfl (by simp[aBz]) ?_)
 exact bodyPost_ret (bH (u1:=5) (u2:=6) rfl _ _ (w.heap.size+1+1) 25 #[aA aB 0,aA aB 0,aE aD 0 0,aE aD 0 0] (0,0) _ rfl HB2.out underlying25 rfl size25) rfl (cA HR.out HX2.out)
theorem Xd (w:World) (tv bv:Value) (s:aV) (t:Int) (hl:aX w tv s.aN) (hb:bD w bv s.aK) (h0:aZ s=0) (h1:0<=t/\t<=48) (h2:¬ t < s.aL) :
  Calls prog 40 #[.agg #[aA aB s.aL,aA aB s.aM,tv,bv],aA aB t] w (dN w (iC s t)):=by
 have F:=hid (fun(W:World) (h:Ext w W)=>eQ W tv bv s (hl.mono h) (hb.mono h));obtain⟨wb,hwb,HX,HSS,HTT,HZZ,hszb⟩:=rB w s t tv bv;have HX0:=hid HX;have HS0:=hid HSS;have HT0:=hid HTT;have HZ0:=hid HZZ;have HWB:=hid hwb;have HSB:=hid hszb;clear HX HSS HTT HZZ hwb hszb;have HR:=hid (Dg h0 h1 h2);rw[h0] at F;obtain⟨ok,h12,hbok⟩:=iI h0;have OW:=hid (fun(W:World) (h:Ext w W)=>Up W tv bv s (hl.mono h) (hb.mono h) ok h12 hbok);obtain⟨qa,qc,rfl,_,_,_⟩:=hl.form;obtain⟨ba,bc,rfl,_,_,_⟩:=hb.form;clear hl hb;clear h0 ok hbok;obtain⟨g1,g2⟩:=h1;generalize hqn:s.aN.length=n at *;generalize hbz:s.aK.length=z at *;have HQN:=hid hqn;have HBZ:=hid hbz;clear hqn hbz;go_enter func40,ntmps40
 go_wp2_with fail
 rw[HWB.out];refine(F.out _ HX0.out).mono ?_;rintro e w2 ⟨rfl,hx2⟩;obtain⟨a0,a1,a2,a3⟩:=HS0.out w2 hx2;have ct:=HT0.out w2 hx2;have t1:=deF (show ¬ t < 0 by omega);have t2:=deF (show ¬ 48 < t by omega);have t3:=deF (show ¬ t < s.aL by omega);have HX2:=hid (HX0.out.tr hx2);have HXB2:=hid hx2;clear hx2
 go_wp2_with fail
 refine(OW.out _ HX2.out).mono ?_;rintro e w7 ⟨u7,v7,rfl,hO7,hx7⟩;clear a0 a1 a2 a3 ct;obtain⟨gq,qcp,rfl,hgB,hgs⟩:=hO7.uform;obtain⟨ra,rc,rfl,hrw⟩:=hO7.vform;rw[HBZ.out] at hO7 hrw ⊢;rw[HQN.out] at hO7 ⊢;have HX7:=hid (HX2.out.tr hx7);have HXB7:=hid (HXB2.out.tr hx7);have HSZ:=hid (And.intro HXB2.out.size hx7.size);have HROW:=hid hrw;obtain⟨W8,hW8⟩:∃ W8,(w7.alloc (.cells #[aA aB 0,aA aB 0,aE aD 0 0,aE aD 0 0] 25)).setRow w7.heap.size #[aA aB s.aL,aA aB s.aM,aE (aC ⟨gq,0,aD⟩) n qcp,aE ra z rc]=W8:=⟨_,rfl⟩;have hx8:Ext w7 W8:=hW8▸((Ext.rf w7).al _).sr (b:=w7.heap.size) (aBq _) _;have hb8:W8.heap[w7.heap.size]?=aC (.cells #[aA aB s.aL,aA aB s.aM,aE (aC ⟨gq,0,aD⟩) n qcp,aE ra z rc] 25 (0,0)):=hW8▸setRow_heap (w7.alloc _) w7.heap.size _ _ _ _ (heap_alloc_new w7 _);have hO8:=(((hO7.under (r:=w.heap.size+1+1) (by have:=HXB2.out.size;have:=HSB.out;omega)).low (B2:=w.heap.size) HX2.out.size (fun r hr=>hr)).box (aBq _)).ext hx8;obtain⟨W9,hW9⟩:∃ W9,W8.setCell ⟨w7.heap.size,0,aD⟩ (aA aB t)=W9:=⟨_,rfl⟩;have hO9:=hW9▸hO8.kept (aY W8 w7.heap.size 0 (aA aB t)) (aCw ..);have hb9:W9.heap[w7.heap.size]?=aC (.cells #[aA aB t,aA aB s.aM,aE (aC ⟨gq,0,aD⟩) n qcp,aE ra z rc] 25 (0,0)):=hW9▸heap_setCell_same W8 w7.heap.size 0 _ _ _ hb8;have HXB8:=hid (HXB7.out.tr hx8);have hxb9:Ext wb W9:=hW9▸HXB8.out.se (b:=w7.heap.size) (o:=0) HXB7.out.size _;have DE:=hid (Gs [w7.heap.size,w.heap.size+1+1] w.heap.size W9 _ _ _ s.aK 80 #[.pointer (aC ⟨w.heap.size+1,0,aD⟩)] (fG t) hO9 (enters_of func80 (by kernel_rfl) rfl) (fun k x hk W pv bv hg hp hb=>Xf W pv bv x t (w.heap.size+1) hp hb (fP hg (HT0.out W9 hxb9) (fun r hr=>by have:=HROW.out r hr;have:=HSZ.out;have:=HSB.out;omega))));have HW8:=hid hW8;have HW9:=hid hW9;have HX8:=hid (HX7.out.tr hx8);have HXB9:=hid hxb9;have HX9:=hid (HX0.out.tr hxb9);have HB8:=hid hb8;have HB9:=hid hb9;have HS9:=hid (show w7.heap.size < W9.heap.size from (aBy.1 hb9).1);have f8:=frozen_of_row W8 w7.heap.size 0 _ _ hb8;have e8:W8.cell? ⟨w7.heap.size,0,aD⟩=aC (aA aB s.aL):=cell_of_row _ _ 0 _ _ _ hb8;have e3:W8.cell? ⟨w7.heap.size,3,aD⟩=aC (aE ra z rc):=cell_of_row _ _ 3 _ _ _ hb8;have ct:=HT0.out W8 HXB8.out;clear hx7 hx8 hb8 hW8 hO7 hO8 hO9 hb9 hxb9 hW9 hgB hgs hrw
 go_wp2_with (refine wpList_store_row rfl 25 _ _ rfl w7.heap.size #[aA aB s.aL,aA aB s.aM,aE (aC ⟨gq,0,aD⟩) n qcp,aE ra z rc] rfl rfl 25 _ (heap_alloc_new w7 _) size25 rfl (by simp[aBz]) ?_;rw[HW8.out])
 rw[HW9.out];refine DE.out.mono ?_;rintro e W10 ⟨v',rfl,hO10,hg10,hvb⟩;obtain⟨ra2,rc2,rfl,hrw2⟩:=hO10.vform;obtain⟨m,hm⟩:∃ m,(s.aK.filter fun x=>!fG t x).length=m:=⟨_,rfl⟩;rw[hm] at hO10 hvb hrw2 ⊢;have hmz:m<=z:=by rw[<- hm,<- HBZ.out];exact aDj _ _
 have hsz:=HSZ.out;have hsb:=HSB.out;have hs9:=HS9.out;have hrow:=HROW.out;have hb10:W10.heap[w7.heap.size]?=aC (.cells #[aA aB t,aA aB s.aM,aE (aC ⟨gq,0,aD⟩) n qcp,aE ra z rc] 25 (0,0)):=(hg10.block _ HS9.out (fun e=>by have:=hrow _ e.symm;omega)).trans HB9.out;have f3:=frozen_of_row W10 w7.heap.size 3 _ _ hb10;have k3:W10.cell? ⟨w7.heap.size,3,aD⟩=aC (aE ra z rc):=cell_of_row _ _ 3 _ _ _ hb10;obtain⟨W11,hW11⟩:∃ W11,W10.setCell ⟨w7.heap.size,3,aD⟩ (aE ra2 m rc2)=W11:=⟨_,rfl⟩;have hb11:W11.heap[w7.heap.size]?=aC (.cells #[aA aB t,aA aB s.aM,aE (aC ⟨gq,0,aD⟩) n qcp,aE ra2 m rc2] 25 (0,0)):=hW11▸heap_setCell_same W10 w7.heap.size 3 _ _ _ hb10;have HO11:=hid (hW11▸hO10.kept (aY W10 w7.heap.size 3 (aE ra2 m rc2)) (aCw ..));have HX11:=hid (show Ext w W11 from hW11▸(HX9.out.gr hg10 (fun k hk=>by have:=hrow k hk;have:=HX2.out.size;omega)).se (b:=w7.heap.size) (o:=3) HX7.out.size _);have hold:∀ b,b<=w.heap.size+1+1->W11.heap[b]?=wb.heap[b]?:=fun b hb=>by
  rw[<- hW11,heap_setCell_other W10 ⟨w7.heap.size,3,aD⟩ b _ (by show b≠w7.heap.size;omega),hg10.block b (by have:=HXB9.out.size;omega) (fun e=>by have:=hrow b e.symm;omega),HXB9.out.block b (by omega)]
 have hzz:=(hold (w.heap.size+1+1) (aBq _)).trans (HZ0.out wb (Ext.rf wb));have a3:W11.cell? ⟨w.heap.size,3,aD⟩=aC (aE ba z bc):=by
  obtain⟨_,_,_,h1⟩:=HS0.out wb (Ext.rf wb);rw[<- h1];exact aCk (a:=⟨w.heap.size,3,aD⟩) (hold w.heap.size (by omega))
 have d0:W11.cell? ⟨w7.heap.size,0,aD⟩=aC (aA aB t):=cell_of_row _ _ 0 _ _ _ hb11;have d1:W11.cell? ⟨w7.heap.size,1,aD⟩=aC (aA aB s.aM):=cell_of_row _ _ 1 _ _ _ hb11;have d2:W11.cell? ⟨w7.heap.size,2,aD⟩=aC (aE (aC ⟨gq,0,aD⟩) n qcp):=cell_of_row _ _ 2 _ _ _ hb11;have d3:W11.cell? ⟨w7.heap.size,3,aD⟩=aC (aE ra2 m rc2):=cell_of_row _ _ 3 _ _ _ hb11;have z0:W11.cell? ⟨w.heap.size+1+1,0,aD⟩=aC (aA aB 0):=cell_of_row _ _ 0 _ _ _ hzz;have z1:W11.cell? ⟨w.heap.size+1+1,1,aD⟩=aC (aA aB 0):=cell_of_row _ _ 1 _ _ _ hzz;have z2:W11.cell? ⟨w.heap.size+1+1,2,aD⟩=aC (aE aD 0 0):=cell_of_row _ _ 2 _ _ _ hzz;have z3:W11.cell? ⟨w.heap.size+1+1,3,aD⟩=aC (aE aD 0 0):=cell_of_row _ _ 3 _ _ _ hzz;have y0:=frozen_of_row W11 (w.heap.size+1+1) 0 _ _ hzz;have y1:=frozen_of_row W11 (w.heap.size+1+1) 1 _ _ hzz;have y2:=frozen_of_row W11 (w.heap.size+1+1) 2 _ _ hzz;have y3:=frozen_of_row W11 (w.heap.size+1+1) 3 _ _ hzz;have n1:w.heap.size+1+1≠w7.heap.size:=by omega
 have n2:w.heap.size+1+1≠w.heap.size:=by omega
 have hwr:IntKind.i64.wrap ((z:Int) - (m:Int))=(z:Int) - (m:Int):=by rw[IntKind.wrap_i64];omega
 have HW11:=hid hW11;have HZ11:=hid hzz;have HM:=hid hm;clear hW11 hb11 hzz hold hb10 hO10 hg10 hvb hrw2 hm hrow hsb
 go_wp2_with fail
 rw[HW11.out];clear k3 f3
 go_region_held3 (fun w'=>(w'.cell? ⟨w7.heap.size,0,aD⟩=aC (aA aB t)/\w'.cell? ⟨w7.heap.size,1,aD⟩=aC (aA aB s.aM)/\w'.cell? ⟨w7.heap.size,2,aD⟩=aC (aE (aC ⟨gq,0,aD⟩) n qcp)/\w'.cell? ⟨w7.heap.size,3,aD⟩=aC (aE ra2 m rc2)/\w'.cell? ⟨w.heap.size,3,aD⟩=aC (aE ba z bc)))
  (go_keep) (fail)
 have hO13:=HO11.out.kept (rM W11 (w.heap.size+1+1) (aA aB t) (aA aB s.aM) (aE (aC ⟨gq,0,aD⟩) n qcp) (aE ra2 m rc2)) (aBl _ (aCw ..));have hX13:=(((HX11.out.se (b:=w.heap.size+1+1) (o:=0) (by omega) (aA aB t)).se (b:=w.heap.size+1+1) (o:=1) (by omega) (aA aB s.aM)).se (b:=w.heap.size+1+1) (o:=2) (by omega) (aE (aC ⟨gq,0,aD⟩) n qcp)).se (b:=w.heap.size+1+1) (o:=3) (by omega) (aE ra2 m rc2);have HO13:=hid (hO13.ext (Ext.rf _).dr);have HX13:=hid hX13.dr;have HB13:=hid (xH (a0:=aA aB t) (a1:=aA aB s.aM) (a2:=aE (aC ⟨gq,0,aD⟩) n qcp) (a3:=(aE ra2 m rc2)) HZ11.out);have HR2:=hid (show iC s t=(zW s t,(z:Int) - (m:Int),0) from by rw[HR.out];unfold kF;rw[HM.out]);clear hO13 hX13
 go_wp2_with fail
 exact bodyPost_ret (bH (u1:=5) (u2:=6) rfl _ _ (w.heap.size+1+1) 25 #[aA aB t,aA aB s.aM,aE (aC ⟨gq,0,aD⟩) n qcp,aE ra2 m rc2] (0,0) _ rfl HB13.out underlying25 rfl size25) rfl (lI (s:=zW s t) HR2.out (.inl (HO13.out.low (aBq _) (fun r hr=>by cases hr))) HX13.out)
theorem Zs (w:World) (tv bv:Value) (s:aV) (t:Int) (hl:aX w tv s.aN) (hb:bD w bv s.aK) :
  Calls prog 40 #[.agg #[aA aB s.aL,aA aB s.aM,tv,bv],aA aB t] w (dN w (iC s t)):=by
 by_cases h0:aZ s=0
 ·by_cases h1:0<=t/\t<=48
  ·by_cases h2:t < s.aL
   ·exact Xe w tv bv s t hl hb h0 h1 h2
   ·exact Xd w tv bv s t hl hb h0 h1 h2
  ·exact Sy w tv bv s t hl hb h0 h1
 ·exact Zr w tv bv s t hl hb h0
theorem cP.clear {ex:List Nat} {B:Nat} {W:World} {u v:Value} {l:List Queue} {b:List aT} (h:cP ex B W u v l b):cP ex B W u (aE aD 0 0) l []:=by
 obtain⟨g,cap,rfl,h1,h2,h5,h12,hg,hs,he,hl,hc,ho,hne,hq⟩:=h;exact⟨g,cap,rfl,h1,h2,h5,by simp,hg,hs,he,fun x h=>(by cases h),hc,⟨[],World.ownsRow_nil _ _ _ _,⟨rfl,fun k cs x h=>(by simp at h)⟩,fun cs h=>(by cases h),fun g h=>(by cases h)⟩,fun r h=>(by cases h),hq.less (fun r hr=>aD2 _ hr)⟩
theorem Va {t:Int} {b:List aT} {k:Nat} {x:aT} (h:b[k]?=aC x):kF t (b.take (k+1))=if fG t x=true then kF t (b.take k) else kF t (b.take k)++[x]:=by
 unfold kF;rw[aD6,h,List.filter_append];by_cases hp:fG t x=true
 ·rw[if_pos hp];simp[hp]
 ·rw[if_neg hp];simp[hp]
theorem Sz (w:World) (tv bv:Value) (s:aV) (t:Int) (hl:aX w tv s.aN) (hb:bD w bv s.aK) (h0:aZ s≠0) :
  Calls prog 47 #[.agg #[aA aB s.aL,aA aB s.aM,tv,bv],aA aB t] w (dN w (iC s t)):=by
 have F:=hid (fun(W:World) (h:Ext w W)=>cI W tv bv s (hl.mono h) (hb.mono h));obtain⟨wb,hwb,HX,HSS,HZZ,hszb⟩:=eD w s tv bv;have HX0:=hid HX;have HS0:=hid HSS;have HZ0:=hid HZZ;have HWB:=hid hwb;have HSB:=hid hszb;clear HX HSS HZZ hwb hszb;have HR:=hid (Ir (t:=t) h0);have hne:=neT h0;obtain⟨qa,qc,rfl,_,_,_⟩:=hl.form;obtain⟨ba,bc,rfl,_,_,_⟩:=hb.form;clear hl hb;clear h0;generalize aZ s=se at *;generalize s.aN.length=n at *;generalize s.aK.length=z at *;go_enter func47,ntmps47
 go_wp2_with fail
 rw[HWB.out];refine(F.out _ HX0.out).mono ?_;rintro e w2 ⟨rfl,hx2⟩;have HB:=hid (HZ0.out w2 (hx2));have HX2:=hid ((HX0.out.tr (hx2)).sr (b:=w.heap.size+1) (by omega) #[aA aB 0,aA aB 0,aE aD 0 0,aE aD 0 0]);have HB2:=hid (setRow_heap w2 (w.heap.size+1) _ #[aA aB 0,aA aB 0,aE aD 0 0,aE aD 0 0] _ _ HB.out)
 go_wp2_with (refine wpList_store_row rfl 25 _ _ rfl (w.heap.size+1) #[aA aB 0,aA aB 0,aE aD 0 0,aE aD 0 0] rfl rfl 25 _ HB.out size25 rfl (by simp[aBz]) ?_)
 exact bodyPost_ret (bH (u1:=5) (u2:=6) rfl _ _ (w.heap.size+1) 25 #[aA aB 0,aA aB 0,aE aD 0 0,aE aD 0 0] (0,0) _ rfl HB2.out underlying25 rfl size25) rfl (cA HR.out HX2.out)
theorem Mj (w:World) (tv bv:Value) (s:aV) (t:Int) (hl:aX w tv s.aN) (hb:bD w bv s.aK) (h0:aZ s=0) (h1:¬ (0<=t/\t<=48)) :
  Calls prog 47 #[.agg #[aA aB s.aL,aA aB s.aM,tv,bv],aA aB t] w (dN w (iC s t)):=by
 have F:=hid (fun(W:World) (h:Ext w W)=>cI W tv bv s (hl.mono h) (hb.mono h));obtain⟨wb,hwb,HX,HSS,HZZ,hszb⟩:=eD w s tv bv;have HX0:=hid HX;have HS0:=hid HSS;have HZ0:=hid HZZ;have HWB:=hid hwb;have HSB:=hid hszb;clear HX HSS HZZ hwb hszb;have HR:=hid (Ak h0 h1);have WI:=hid (fun(W:World)=>dU t 0 48 W (by omega));rw[h0] at F;obtain⟨qa,qc,rfl,_,_,_⟩:=hl.form;obtain⟨ba,bc,rfl,_,_,_⟩:=hb.form;clear hl hb;clear h0;generalize s.aN.length=n at *;generalize s.aK.length=z at *;go_enter func47,ntmps47
 go_wp2_with fail
 rw[HWB.out];refine(F.out _ HX0.out).mono ?_;rintro e w2 ⟨rfl,hx2⟩;obtain⟨a0,a1,a2,a3⟩:=HS0.out w2 hx2;have hx20:=hid hx2;clear hx2
 go_wp2_with fail
 refine(WI.out _).mono ?_;rintro e w3 ⟨rfl,hw⟩;obtain rfl:=hw.symm;have HB:=hid (HZ0.out w2 (hx20.out));have HX2:=hid ((HX0.out.tr (hx20.out)).sr (b:=w.heap.size+1) (by omega) #[aA aB 0,aA aB 0,aE aD 0 0,aE aD 0 0]);have HB2:=hid (setRow_heap w2 (w.heap.size+1) _ #[aA aB 0,aA aB 0,aE aD 0 0,aE aD 0 0] _ _ HB.out)
 go_wp2_with (refine wpList_store_row rfl 25 _ _ rfl (w.heap.size+1) #[aA aB 0,aA aB 0,aE aD 0 0,aE aD 0 0] rfl rfl 25 _ HB.out size25 rfl (by simp[aBz]) ?_)
 exact bodyPost_ret (bH (u1:=5) (u2:=6) rfl _ _ (w.heap.size+1) 25 #[aA aB 0,aA aB 0,aE aD 0 0,aE aD 0 0] (0,0) _ rfl HB2.out underlying25 rfl size25) rfl (cA HR.out HX2.out)
theorem Pm (w:World) (tv bv:Value) (s:aV) (t:Int) (hl:aX w tv s.aN) (hb:bD w bv s.aK) (h0:aZ s=0) (h1:0<=t/\t<=48) (h2:t < s.aL) :
  Calls prog 47 #[.agg #[aA aB s.aL,aA aB s.aM,tv,bv],aA aB t] w (dN w (iC s t)):=by
 have F:=hid (fun(W:World) (h:Ext w W)=>cI W tv bv s (hl.mono h) (hb.mono h));obtain⟨wb,hwb,HX,HSS,HZZ,hszb⟩:=eD w s tv bv;have HX0:=hid HX;have HS0:=hid HSS;have HZ0:=hid HZZ;have HWB:=hid hwb;have HSB:=hid hszb;clear HX HSS HZZ hwb hszb;have HR:=hid (Dh h0 h1 h2);have WI:=hid (fun(W:World)=>cE t 0 48 W h1.1 h1.2);rw[h0] at F;obtain⟨qa,qc,rfl,_,_,_⟩:=hl.form;obtain⟨ba,bc,rfl,_,_,_⟩:=hb.form;clear hl hb;clear h0;generalize s.aN.length=n at *;generalize s.aK.length=z at *;go_enter func47,ntmps47
 go_wp2_with fail
 rw[HWB.out];refine(F.out _ HX0.out).mono ?_;rintro e w2 ⟨rfl,hx2⟩;obtain⟨a0,a1,a2,a3⟩:=HS0.out w2 hx2;have t3:=deT h2;have hx20:=hid hx2;clear hx2
 go_wp2_with fail
 refine(WI.out _).mono ?_;rintro e w3 ⟨rfl,hw⟩;obtain rfl:=hw.symm;have HB:=hid (HZ0.out w2 (hx20.out));have HX2:=hid ((HX0.out.tr (hx20.out)).sr (b:=w.heap.size+1) (by omega) #[aA aB 0,aA aB 0,aE aD 0 0,aE aD 0 0]);have HB2:=hid (setRow_heap w2 (w.heap.size+1) _ #[aA aB 0,aA aB 0,aE aD 0 0,aE aD 0 0] _ _ HB.out)
 go_wp2_with (refine wpList_store_row rfl 25 _ _ rfl (w.heap.size+1) #[aA aB 0,aA aB 0,aE aD 0 0,aE aD 0 0] rfl rfl 25 _ HB.out size25 rfl (by simp[aBz]) ?_)
 exact bodyPost_ret (bH (u1:=5) (u2:=6) rfl _ _ (w.heap.size+1) 25 #[aA aB 0,aA aB 0,aE aD 0 0,aE aD 0 0] (0,0) _ rfl HB2.out underlying25 rfl size25) rfl (cA HR.out HX2.out)
theorem Pk (w:World) (tv bv:Value) (s:aV) (t:Int) (hl:aX w tv s.aN) (hb:bD w bv s.aK) (h0:aZ s=0) (h1:0<=t/\t<=48) (h2:¬ t < s.aL) :
  Calls prog 47 #[.agg #[aA aB s.aL,aA aB s.aM,tv,bv],aA aB t] w (dN w (iC s t)):=by
 have F:=hid (fun(W:World) (h:Ext w W)=>cI W tv bv s (hl.mono h) (hb.mono h));obtain⟨wb,hwb,HX,HSS,HZZ,hszb⟩:=eD w s tv bv;have HX0:=hid HX;have HS0:=hid HSS;have HZ0:=hid HZZ;have HWB:=hid hwb;have HSB:=hid hszb;clear HX HSS HZZ hwb hszb;have HR:=hid (Dg h0 h1 h2);have WI:=hid (fun(W:World)=>cE t 0 48 W h1.1 h1.2);rw[h0] at F;obtain⟨ok,h12,hbok⟩:=iI h0;have OW:=hid (fun(W:World) (h:Ext w W)=>lU W tv bv s (hl.mono h) (hb.mono h) ok h12 hbok);have HLV:=hid (nF hbok);have HBV:=hid hb;obtain⟨qa,qc,rfl,_,_,_⟩:=hl.form;obtain⟨ba,bc,rfl,_,_,_⟩:=hb.form;clear hl hb;clear h0 ok hbok;go_enter func47,ntmps47
 go_wp2_with fail
 rw[HWB.out];refine(F.out _ HX0.out).mono ?_;rintro e w2 ⟨rfl,hx2⟩;obtain⟨a0,a1,a2,a3⟩:=HS0.out w2 hx2;have t3:=deF (show ¬ t < s.aL by omega);have HX2:=hid (HX0.out.tr hx2);have HXB2:=hid hx2;clear hx2
 go_wp2_with fail
 refine(WI.out _).mono ?_;rintro e w3 ⟨rfl,hw⟩;obtain rfl:=hw.symm
 go_wp2_with fail
 refine(OW.out _ HX2.out).mono ?_;rintro e w7 ⟨u7,v7,rfl,hO7,hx7⟩;clear a0 a1 a2 a3;obtain⟨gq,qcp,rfl,hgB,hgs⟩:=hO7.uform;obtain⟨ra,rc,rfl,hrw⟩:=hO7.vform;obtain⟨W8,hW8⟩:∃ W8,(w7.alloc (.cells #[aA aB 0,aA aB 0,aE aD 0 0,aE aD 0 0] 25)).setRow w7.heap.size #[aA aB s.aL,aA aB s.aM,aE (aC ⟨gq,0,aD⟩) s.aN.length qcp,aE ra s.aK.length rc]=W8:=⟨_,rfl⟩;have hx8:Ext w7 W8:=hW8▸((Ext.rf w7).al _).sr (b:=w7.heap.size) (aBq _) _;have hb8:W8.heap[w7.heap.size]?=aC (.cells #[aA aB s.aL,aA aB s.aM,aE (aC ⟨gq,0,aD⟩) s.aN.length qcp,aE ra s.aK.length rc] 25 (0,0)):=hW8▸setRow_heap (w7.alloc _) w7.heap.size _ _ _ _ (heap_alloc_new w7 _);have hO8:=((((hO7.under (r:=w.heap.size) (by have:=HX2.out.size;have:=HXB2.out.size;have:=HSB.out;omega)).under (r:=w.heap.size+1) (by have:=HXB2.out.size;have:=HSB.out;omega)).low (B2:=w.heap.size) HX2.out.size (fun r hr=>hr)).box (aBq _)).ext hx8;obtain⟨W9,hW9⟩:∃ W9,(W8.setCell ⟨w7.heap.size,0,aD⟩ (aA aB t)).setCell ⟨w7.heap.size,3,aD⟩ (aE aD 0 0)=W9:=⟨_,rfl⟩;have hO9:=hW9▸((hO8.kept (aY W8 w7.heap.size 0 (aA aB t)) (aCw ..)).kept (aY _ w7.heap.size 3 (aE aD 0 0)) (aCw ..)).clear;have hb9:W9.heap[w7.heap.size]?=aC (.cells #[aA aB t,aA aB s.aM,aE (aC ⟨gq,0,aD⟩) s.aN.length qcp,aE aD 0 0] 25 (0,0)):=hW9▸heap_setCell_same _ w7.heap.size 3 _ _ _ (heap_setCell_same W8 w7.heap.size 0 _ _ _ hb8);have hXB7:=HXB2.out.tr hx7;have hxb9:Ext wb W9:=hW9▸((hXB7.tr hx8).se (b:=w7.heap.size) (o:=0) hXB7.size _).se (b:=w7.heap.size) (o:=3) hXB7.size _;obtain⟨sT,hT0,hT1,hT2⟩:∃ sT:aV,sT.aL=t/\sT.aM=s.aM/\sT.aN=s.aN:=⟨⟨t,s.aM,s.aN,[]⟩,rfl,rfl,rfl⟩;have HR0:Hid (yO w wb w7.heap.size (aE (aC ⟨gq,0,aD⟩) sT.aN.length qcp) sT (kF t (s.aK.take 0)) (aE aD 0 0) W9):=hid ⟨by rw[hT0,hT1,hT2];exact hb9,by rw[hT2];exact hO9,hxb9,hXB7.size⟩;have f8:=frozen_of_row W8 w7.heap.size 0 _ _ hb8;have f83:=frozen_of_row W8 w7.heap.size 3 _ _ hb8;have e8:W8.cell? ⟨w7.heap.size,0,aD⟩=aC (aA aB s.aL):=cell_of_row _ _ 0 _ _ _ hb8;have e3:W8.cell? ⟨w7.heap.size,3,aD⟩=aC (aE ra s.aK.length rc):=cell_of_row _ _ 3 _ _ _ hb8;have HW8:=hid hW8;have HW9:=hid hW9;have HT:=hid (And.intro hT0 (And.intro hT1 hT2));clear hx7 hx8 hb8 hW8 hO7 hO8 hO9 hb9 hxb9 hW9 hgB hgs hrw hXB7 hT0 hT1 hT2;obtain⟨ib,ib1,ib2,ib3,ib4⟩:=info_parts info40;obtain⟨ba',bc',hbe,_,_,_,hbE⟩:=jD HBV.out;cases hbe;have HBE:=hid hbE;clear hbE;generalize hbz:s.aK.length=z at *;have HZB:=hid hbz;clear hbz
 go_wp2_with (refine wpList_store_row rfl 25 _ _ rfl w7.heap.size #[aA aB s.aL,aA aB s.aM,aE (aC ⟨gq,0,aD⟩) s.aN.length qcp,aE ra z rc] rfl rfl 25 _ (heap_alloc_new w7 _) size25 rfl (by simp[aBz]) ?_;rw[HW8.out])
 rw[HW9.out];clear f8 f83 e8 e3;generalize hX:w7.heap.size=X at *;clear hX HW8 HW9
 go_loopw [9] (fun c wr=>∃ (k:Nat) (v:Value),c=aA aB k/\k<=z/\Hid (yO w wb X (aE (aC ⟨gq,0,aD⟩) sT.aN.length qcp) sT (kF t (s.aK.take k)) v wr)) (fun c _=>z - (intOf c).toNat)
 case atStart=>exact⟨0,_,rfl,by omega,HR0⟩
 case round=>
  obtain⟨k,v,rfl,hk,HA⟩:=hrel;obtain⟨_,_,_,k3⟩:=HS0.out wr HA.out.ext;have hXw:X < wr.heap.size:=(aBy.1 HA.out.box).1;have hXB:=HA.out.low;by_cases hlt:k < z
  ·have hlt':(k:Int) < (z:Int):=by omega
   obtain⟨m,hlen⟩:∃ m,(kF t (s.aK.take k)).length=m:=⟨_,rfl⟩;have hmk:m<=k:=by rw[<- hlen];exact aC4 (aDj _ _) (by rw[aCH];omega)
   obtain⟨va,vcc,rfl,hrow⟩:=HA.out.own.vform;rw[hlen] at hrow HA;have HROW:=hid hrow;obtain⟨css,o1,hmore⟩:=HA.out.own.more (by rw[hlen];omega);rw[hlen] at o1;have HO1:=hid o1;have HMORE:=hid hmore;obtain⟨_,_,he,hgB,hgs⟩:=HA.out.own.uform;cases he;obtain⟨x,hxk⟩:=bT (f:=s.aK) (k:=k) (by rw[HZB.out];exact hlt);have hlx:sF x:=HLV.out x (aBJ hxk);obtain⟨bb,bo,rfl,hbb,hEE⟩:=HBE.out (by omega);obtain⟨pv,bv,c0,c1,c2,c3,c4,c5,c6,hp,hbi⟩:=cZ (iR.mono w wr bb _ x (HX0.out.tr HA.out.ext) (hEE k x hxk));have hX0:=hid (show I64 x.Id/\I64 x.aP.aG/\I64 x.aP.aI/\I64 x.aP.aH/\I64 x.aP.aJ from by
    obtain⟨cs,⟨qs,bv,rfl,⟨pv,rfl,hp,i1,i2,i3,i4⟩,hb,i5⟩,_⟩:=hEE k x hxk;exact⟨i5,i1,i2,i3,i4⟩)
   have OV:=hid (fun(W:World) (h:Ext wr W)=>Gk W pv bv x.aP x.aO (hp.mono h) (hbi.mono h));have OB:=hid (fun(W:World) (h:Ext wr W)=>sV W pv bv x (hp.mono h) (hbi.mono h) hlx);have HST:=hid (Va (t:=t) hxk);obtain⟨pa,pc,rfl,_,_,_⟩:=hp.form;obtain⟨ia,ic,rfl,_,_,_⟩:=hbi.form;have HLX:=hid hlx;have e3:wr.cell? ⟨X,3,aD⟩=aC (aE va m vcc):=cell_of_row _ _ 3 _ _ _ HA.out.box;have t1:=deF (show ¬ (k:Int) < 0 by omega);have t2:=deF (show ¬ (z:Int)<=(k:Int) by omega);have t3:=deF (show ¬ z<=k by omega);have hbbw:bb < wr.heap.size:=aBA hbb (HX0.out.tr HA.out.ext).size;have hrw2:∀ r,(aE va m vcc).ownBlock=aC r->w.heap.size<=r/\r < wr.heap.size/\r≠X/\r≠w.heap.size/\r≠w.heap.size+1:=fun r hr=>⟨(hrow r hr).1,(hrow r hr).2,HA.out.own.vne r hr X (aCw ..),HA.out.own.vne r hr w.heap.size (by simp),HA.out.own.vne r hr (w.heap.size+1) (by simp)⟩;clear hp hbi hxk hlx hrow o1 hmore hEE;obtain⟨ovn,ove,hov⟩:∃ ovn ove,nD x.aP x.aO=(ovn,ove):=⟨_,_,rfl⟩;have HLT:=hid (show fG t x=decide (ovn<=t) from by unfold fG;rw[hov]);rw[hov] at OV;clear hov
   go_wp2_with fail
   go_region_held3 (fun W=>(W.cell? ⟨w.heap.size,3,aD⟩=aC (aE (aC ⟨bb,bo,aD⟩) z bc)/\W.cell? ⟨bb,bo+k*7+1,aD⟩=aC (aA aB x.aP.aG)/\W.cell? ⟨bb,bo+k*7+2,aD⟩=aC (aA aB x.aP.aI)/\W.cell? ⟨bb,bo+k*7+3,aD⟩=aC (aA aB x.aP.aH)/\W.cell? ⟨bb,bo+k*7+4,aD⟩=aC (aA aB x.aP.aJ)/\W.cell? ⟨bb,bo+k*7+5,aD⟩=aC (aE pa x.aP.aF.length pc)/\W.cell? ⟨bb,bo+k*7+6,aD⟩=aC (aE ia x.aO.length ic)))
    (first
     | go_keep
     | (
       go_split_ands
       exact⟨hxk.ce' (by assumption),hxk.ce' (by assumption),hxk.ce' (by assumption),hxk.ce' (by assumption),hxk.ce' (by assumption),hxk.ce' (by assumption),hxk.ce' (by assumption)⟩))
    (first
     | (go_at_call 71;refine(OV.out _ (Ext.rf wr).dr).mono ?_;rintro e wv ⟨rfl,hxk⟩;have HXV:=hid ((Ext.rf wr).dr.tr hxk)))
   clear hxk;have HV:=hid (HA.out.later HXV.out);by_cases hlate:ovn<=t
   ·have HST2:=hid (show kF t (s.aK.take (k+1))=kF t (s.aK.take k) from by rw[HST.out,if_pos (by rw[HLT.out,deT hlate])]);have q1:=deF (show ¬ t < ovn by omega);clear e3 c0 c1 c2 c3 c4 c5 c6 k3
    go_wp2_with fail
    go_roundw
    case rel=>exact⟨k+1,_,by go_num,by omega,by rw[HST2.out];exact HV⟩
    case measure=>simp[intOf];omega
   ·have HTK:=hid (show kF t (s.aK.take (k+1))=kF t (s.aK.take k)++[x] from by rw[HST.out,if_neg (by rw[HLT.out,deF hlate];simp)]);have q1:=deT (show t < ovn by omega);have e3':=HXV.out.ce' e3;have k3':=HXV.out.ce' k3;have c0':=HXV.out.ce' c0;have c1':=HXV.out.ce' c1;have c2':=HXV.out.ce' c2;have c3':=HXV.out.ce' c3;have c4':=HXV.out.ce' c4;have c5':=HXV.out.ce' c5;have c6':=HXV.out.ce' c6;have hXv:X < wv.heap.size:=aBA hXw HXV.out.size;have hgs':gq < wv.heap.size:=aBA hgs HXV.out.size;have hbbv:bb < wv.heap.size:=aBA hbbw HXV.out.size;have hrw3:∀ r,(aE va m vcc).ownBlock=aC r->w.heap.size<=r/\r < wv.heap.size/\r≠X/\r≠w.heap.size/\r≠w.heap.size+1:=fun r hr=>⟨(hrw2 r hr).1,aBA (hrw2 r hr).2.1 HXV.out.size,(hrw2 r hr).2.2⟩;clear e3 c0 c1 c2 c3 c4 c5 c6 k3 hbbw hXw hrw2
    go_wp2_with fail
    refine dF 11 (fun W=>W.cell? ⟨X,3,aD⟩=aC (aE va m vcc)/\W.cell? ⟨w.heap.size,3,aD⟩=aC (aE (aC ⟨bb,bo,aD⟩) z bc)/\W.cell? ⟨bb,bo+k*7,aD⟩=aC (aA aB x.Id)/\W.cell? ⟨bb,bo+k*7+1,aD⟩=aC (aA aB x.aP.aG)/\W.cell? ⟨bb,bo+k*7+2,aD⟩=aC (aA aB x.aP.aI)/\W.cell? ⟨bb,bo+k*7+3,aD⟩=aC (aA aB x.aP.aH)/\W.cell? ⟨bb,bo+k*7+4,aD⟩=aC (aA aB x.aP.aJ)/\W.cell? ⟨bb,bo+k*7+5,aD⟩=aC (aE pa x.aP.aF.length pc)/\W.cell? ⟨bb,bo+k*7+6,aD⟩=aC (aE ia x.aO.length ic)) (by kernel_rfl) ⟨e3',k3',c0',c1',c2',c3',c4',c5',c6'⟩ (fun hHeld=>?_);refine tkT 0 ?_;refine tkT 1 ?_;refine tkT 2 ?_;refine tkT 3 ?_;refine tkT 4 ?_;refine tkT 5 ?_;refine tkT 6 ?_;refine dG (i:=7) (by kernel_rfl) rfl (fun K hK=>?_);simp only[zA,zB,zC];go_simp;refine(OB.out _ (HXV.out.tr (Ext.rf wv).dr)).mono ?_;rintro e W2 ⟨g1,cp1,g2,cp2,rfl,hg1,hg2,hp2,hv2,hx2⟩
    go_wp2_with fail
    have hx02:Ext wv W2:=(Ext.rf wv).dr.tr hx2;refine hK.out _ _ ?_ (fun hHeld=>?_)
    ·(obtain⟨k0,k1,k2,k3,k4,k5,k6,k7,k8⟩:=hHeld;exact⟨hx2.ce' k0,hx2.ce' k1,hx2.ce' k2,hx2.ce' k3,hx2.ce' k4,hx2.ce' k5,hx2.ce' k6,hx2.ce' k7,hx2.ce' k8⟩)
    clear hK K;refine dG (i:=8) (by kernel_rfl) rfl (fun K hK=>?_);simp only[zA,zB,zC];go_simp;have hal:=(Ext.rf W2).al (.cells #[aA aB x.Id,aA aB x.aP.aG,aA aB x.aP.aI,aA aB x.aP.aH,aA aB x.aP.aJ,aE (aC ⟨g1,0,aD⟩) x.aP.aF.length cp1,aE (aC ⟨g2,0,aD⟩) x.aO.length cp2] 40);refine hK.out _ _ ?_ (fun hHeld=>?_)
    ·(obtain⟨k0,k1,k2,k3,k4,k5,k6,k7,k8⟩:=hHeld;exact⟨hal.ce' k0,hal.ce' k1,hal.ce' k2,hal.ce' k3,hal.ce' k4,hal.ce' k5,hal.ce' k6,hal.ce' k7,hal.ce' k8⟩)
    clear hK K;have HX2:=hid (hx02.tr hal);have HN7:=hid (xO W2 [aA aB x.Id,aA aB x.aP.aG,aA aB x.aP.aI,aA aB x.aP.aH,aA aB x.aP.aJ,aE (aC ⟨g1,0,aD⟩) x.aP.aF.length cp1,aE (aC ⟨g2,0,aD⟩) x.aO.length cp2] 40 rfl);have HG:=hid (zK (W:=wv) (W1:=W2.alloc (.cells #[aA aB x.Id,aA aB x.aP.aG,aA aB x.aP.aI,aA aB x.aP.aH,aA aB x.aP.aJ,aE (aC ⟨g1,0,aD⟩) x.aP.aF.length cp1,aE (aC ⟨g2,0,aD⟩) x.aO.length cp2] 40)) (B:=w.heap.size) (ex:=[X,w.heap.size+1,w.heap.size]) (u:=aE (aC ⟨gq,0,aD⟩) sT.aN.length qcp) (v:=aE va m vcc) (n1:=x.aP.aF.length) (n2:=x.aO.length) (c1:=cp1) (c2:=cp2) (x:=x) (HX0.out.tr HV.out.ext).size hg1 hg2 (by rw[aCl];have:=zJ hp2 HLX.out.1.1;omega) (by rw[aCl];have:=zJ hv2 HLX.out.1.2;omega) (fun r hr=>by
     have h2:r=X\/r=w.heap.size+1\/r=w.heap.size:=by simpa using hr
     have:=HSB.out;omega) (fun r hr=>by
     have h2:gq=r:=by simpa[aCZ] using hr
     omega) (fun r hr=>(hrw3 r hr).2.1))
    have HBC:=hid (show fE (W2.alloc (.cells #[aA aB x.Id,aA aB x.aP.aG,aA aB x.aP.aI,aA aB x.aP.aH,aA aB x.aP.aJ,aE (aC ⟨g1,0,aD⟩) x.aP.aF.length cp1,aE (aC ⟨g2,0,aD⟩) x.aO.length cp2] 40)) [aA aB x.Id,aA aB x.aP.aG,aA aB x.aP.aI,aA aB x.aP.aH,aA aB x.aP.aJ,aE (aC ⟨g1,0,aD⟩) x.aP.aF.length cp1,aE (aC ⟨g2,0,aD⟩) x.aO.length cp2] x from ⟨_,_,rfl,⟨_,rfl,hp2.mono ((Ext.rf W2).al _),hX0.out.2⟩,hv2.mono ((Ext.rf W2).al _),hX0.out.1⟩);clear hp2 hv2 hal hx02;refine dG (i:=9) (by kernel_rfl) rfl (fun K hK=>?_);simp only[zA,zB,zC];rw[if_pos (by rfl)];refine wp_append_lies _ _ _ _ (by rfl) w.heap.size 40 ib _ 7 88 underlying23 ib1 ib2 ib3 ib4 rfl (by decide) (aE va m vcc) m css.flatten (by rfl) (bE (bE HO1.out HXV.out) HX2.out) ⟨W2.heap.size,0,aD⟩ 1 1 [aA aB x.Id,aA aB x.aP.aG,aA aB x.aP.aI,aA aB x.aP.aH,aA aB x.aP.aJ,aE (aC ⟨g1,0,aD⟩) x.aP.aF.length cp1,aE (aC ⟨g2,0,aD⟩) x.aO.length cp2] (by rfl) (by rfl) HN7.out (by simp[aBz]) (by omega) (by unfold maxLen;omega) (by omega) ((HX0.out.tr HV.out.ext).tr HX2.out).size (W2.heap.size+1) (by simp) ?_;intro g3 cp3 W3 hown hgrow hlie hlt3;have hgn:∀ (b:Nat) (o:Nat) (u:Value),(W2.alloc (.cells #[aA aB x.Id,aA aB x.aP.aG,aA aB x.aP.aI,aA aB x.aP.aH,aA aB x.aP.aJ,aE (aC ⟨g1,0,aD⟩) x.aP.aF.length cp1,aE (aC ⟨g2,0,aD⟩) x.aO.length cp2] 40)).cell? ⟨b,o,aD⟩=aC u->(b < w.heap.size\/b=w.heap.size\/b=X)->W3.cell? ⟨b,o,aD⟩=aC u:=fun b o u h hb=>fP hgrow h (fun r hr e=>by
     subst e;have h2:=hrw3 r hr;omega)
    refine hK.out _ _ ?_ (fun hHeld=>?_)
    ·(obtain⟨k0,k1,k2,k3,k4,k5,k6,k7,k8⟩:=hHeld;exact⟨hgn _ _ _ k0 (.inr (.inr rfl)),hgn _ _ _ k1 (.inr (.inl rfl)),hgn _ _ _ k2 (.inl hbb),hgn _ _ _ k3 (.inl hbb),hgn _ _ _ k4 (.inl hbb),hgn _ _ _ k5 (.inl hbb),hgn _ _ _ k6 (.inl hbb),hgn _ _ _ k7 (.inl hbb),hgn _ _ _ k8 (.inl hbb)⟩)
    clear hK K;have hb3:W3.heap[X]?=aC (.cells #[aA aB sT.aL,aA aB sT.aM,aE (aC ⟨gq,0,aD⟩) sT.aN.length qcp,aE va m vcc] 25 (0,0)):=
     (hgrow.block X (aBA hXv HX2.out.size) (fun e=>(hrw3 X e.symm).2.2.1 rfl)).trans ((HX2.out.block X hXv).trans HV.out.box)
    have f3:=frozen_of_row W3 X 3 _ _ hb3;have hgs3:=aY W3 X 3 (aE (aC ⟨g3,0,aD⟩) (m+1) cp3);have HA3:=hid (show yO w wb X (aE (aC ⟨gq,0,aD⟩) sT.aN.length qcp) sT (kF t (s.aK.take (k+1))) (aE (aC ⟨g3,0,aD⟩) (m+1) cp3) (W3.setCell ⟨X,3,aD⟩ (aE (aC ⟨g3,0,aD⟩) (m+1) cp3)) from by
     refine⟨heap_setCell_same W3 X 3 _ _ _ hb3,?_,((HV.out.ext.tr HX2.out).gr hgrow (fun r hr=>by have:=hrw3 r hr;have:=HSB.out;omega)).se hXB _,hXB⟩;rw[HTK.out];refine(HMORE.out _ W3 g3 (m+1) cp3 _ x (HXV.out.tr HX2.out) HBC.out HLX.out HG.out hown (by rw[hlen]) hgrow (by rw[aCl];exact hlie) (fun r hr=>?_)).kept hgs3 (aCw ..);have h2:r=X\/r=w.heap.size+1\/r=w.heap.size:=by simpa using hr
     have:=HSB.out;have:=HX2.out.size;omega)
    clear hgn hown hgrow hlie hb3 hgs3;refine tkT 10 ?_;refine eM (t:=11) (by kernel_rfl) rfl (by kernel_rfl) (fun K hK=>?_);simp only[zA,zB,zC];obtain⟨k0,_⟩:=hHeld;go_simp;refine hK.out _ _ ?_;clear hK K
    go_wp2_with fail
    go_roundw
    case rel=>exact⟨k+1,_,by go_num,by omega,HA3⟩
    case measure=>simp[intOf];omega
  ·obtain rfl:k=z:=by omega
   have hlt':¬ (k:Int) < (k:Int):=by omega
   have htk:s.aK.take k=s.aK:=aCM (by rw[HZB.out];omega);rw[htk] at HA;obtain⟨m,hm⟩:∃ m,(kF t s.aK).length=m:=⟨_,rfl⟩;obtain⟨va,vcc,rfl,hrow⟩:=HA.out.own.vform;rw[hm] at hrow HA;have hmz:m<=k:=by rw[<- hm,<- HZB.out];exact aDj _ _
   obtain⟨hT0,hT1,hT2⟩:=HT.out;have hbx:=HA.out.box;rw[hT0,hT1,hT2] at hbx;have hown:=HA.out.own;rw[hT2] at hown;have hzz:=HZ0.out wr HA.out.ext;have hsb:=HSB.out;have hXB:=HA.out.low;have d0:wr.cell? ⟨X,0,aD⟩=aC (aA aB t):=cell_of_row _ _ 0 _ _ _ hbx;have d1:wr.cell? ⟨X,1,aD⟩=aC (aA aB s.aM):=cell_of_row _ _ 1 _ _ _ hbx;have d2:wr.cell? ⟨X,2,aD⟩=aC (aE (aC ⟨gq,0,aD⟩) s.aN.length qcp):=cell_of_row _ _ 2 _ _ _ hbx;have d3:wr.cell? ⟨X,3,aD⟩=aC (aE va m vcc):=cell_of_row _ _ 3 _ _ _ hbx;have z0:wr.cell? ⟨w.heap.size+1,0,aD⟩=aC (aA aB 0):=cell_of_row _ _ 0 _ _ _ hzz;have z1:wr.cell? ⟨w.heap.size+1,1,aD⟩=aC (aA aB 0):=cell_of_row _ _ 1 _ _ _ hzz;have z2:wr.cell? ⟨w.heap.size+1,2,aD⟩=aC (aE aD 0 0):=cell_of_row _ _ 2 _ _ _ hzz;have z3:wr.cell? ⟨w.heap.size+1,3,aD⟩=aC (aE aD 0 0):=cell_of_row _ _ 3 _ _ _ hzz;have y0:=frozen_of_row wr (w.heap.size+1) 0 _ _ hzz;have y1:=frozen_of_row wr (w.heap.size+1) 1 _ _ hzz;have y2:=frozen_of_row wr (w.heap.size+1) 2 _ _ hzz;have y3:=frozen_of_row wr (w.heap.size+1) 3 _ _ hzz;have n1:w.heap.size+1≠X:=by omega
   have n2:w.heap.size+1≠w.heap.size:=by omega
   have hwr:IntKind.i64.wrap ((k:Int) - (m:Int))=(k:Int) - (m:Int):=by rw[IntKind.wrap_i64];omega
   have HXW:=hid (HX0.out.tr HA.out.ext);have HOWN:=hid hown;have HZZ:=hid hzz;have HMM:=hid hm;clear hrow hbx hown hzz hsb hm htk
   go_wp2_with fail
   go_region_held3 (fun w'=>(w'.cell? ⟨X,0,aD⟩=aC (aA aB t)/\w'.cell? ⟨X,1,aD⟩=aC (aA aB s.aM)/\w'.cell? ⟨X,2,aD⟩=aC (aE (aC ⟨gq,0,aD⟩) s.aN.length qcp)/\w'.cell? ⟨X,3,aD⟩=aC (aE va m vcc)/\w'.cell? ⟨w.heap.size,3,aD⟩=aC (aE ba k bc)))
    (go_keep) (fail)
   have hO13:=HOWN.out.kept (rM wr (w.heap.size+1) (aA aB t) (aA aB s.aM) (aE (aC ⟨gq,0,aD⟩) s.aN.length qcp) (aE va m vcc)) (by simp);have hX13:=(((HXW.out.se (b:=w.heap.size+1) (o:=0) (by omega) (aA aB t)).se (b:=w.heap.size+1) (o:=1) (by omega) (aA aB s.aM)).se (b:=w.heap.size+1) (o:=2) (by omega) (aE (aC ⟨gq,0,aD⟩) s.aN.length qcp)).se (b:=w.heap.size+1) (o:=3) (by omega) (aE va m vcc);have HO13:=hid (hO13.ext (Ext.rf _).dr);have HX13:=hid hX13.dr;have HB13:=hid (xH (a0:=aA aB t) (a1:=aA aB s.aM) (a2:=aE (aC ⟨gq,0,aD⟩) s.aN.length qcp) (a3:=aE va m vcc) HZZ.out);have HR2:=hid (show iC s t=(zW s t,(k:Int) - (m:Int),0) from by rw[HR.out,HMM.out]);clear hO13 hX13
   go_wp2_with fail
   exact bodyPost_ret (bH (u1:=5) (u2:=6) rfl _ _ (w.heap.size+1) 25 #[aA aB t,aA aB s.aM,aE (aC ⟨gq,0,aD⟩) s.aN.length qcp,aE va m vcc] (0,0) _ rfl HB13.out underlying25 rfl size25) rfl (lI (s:=zW s t) HR2.out (.inl (HO13.out.low (aBq _) (fun r hr=>by cases hr))) HX13.out)
theorem Ta (w:World) (tv bv:Value) (s:aV) (t:Int) (hl:aX w tv s.aN) (hb:bD w bv s.aK) :
  Calls prog 47 #[.agg #[aA aB s.aL,aA aB s.aM,tv,bv],aA aB t] w (dN w (iC s t)):=by
 by_cases h0:aZ s=0
 ·by_cases h1:0<=t/\t<=48
  ·by_cases h2:t < s.aL
   ·exact Pm w tv bv s t hl hb h0 h1 h2
   ·exact Pk w tv bv s t hl hb h0 h1 h2
  ·exact Mj w tv bv s t hl hb h0 h1
 ·exact Sz w tv bv s t hl hb h0
theorem vV {P:Program} {f:FuncId} {args:Array Value} {W:World} {S:aV} {m:Int} (h:Calls P f args W (eO W (S,m))) :
  Calls P f args W fun e w'=>∃ u v,e=.returned (.tuple #[.agg #[aA aB S.aL,aA aB S.aM,u,v],aA aB m])/\aX w' u S.aN/\bD w' v S.aK/\Ext W w':=
 h.mono fun e w' ⟨u,v,h1,h2,h3⟩=>⟨u,v,h1,h2.tree,h2.books,h3⟩
theorem sZ {W V:World} {a b c d:Value} {t:TypeId} (h:Ext (W.alloc (.cells #[a,b,c,d] t)) V) :
  V.cell? ⟨W.heap.size,0,aD⟩=aC a/\V.cell? ⟨W.heap.size,1,aD⟩=aC b/\V.cell? ⟨W.heap.size,2,aD⟩=aC c/\V.cell? ⟨W.heap.size,3,aD⟩=aC d:=eR h
theorem Ui {f g:List Run} {a b n:Int} (h:tS f a b n=(g,0)):gM f/\(0<=a/\a < b/\b<=48)/\gM g/\∀ i,i < 48->sp g i=sp f i+cO a.toNat b.toNat n i:=by
 unfold tS at h;split at h
 ·rename_i hf
  split at h
  ·rename_i hr
   unfold Tr at h;split at h
   ·rename_i hn
    have e:bN (fun t=>sp f t+cO a.toNat b.toNat n t)=g:=(Prod.mk.inj h).1;subst e;exact⟨hf,hr.1,uS hn,fun i hi=>fL hi⟩
   ·exact absurd (Prod.mk.inj h).2 (by decide)
  ·exact absurd (Prod.mk.inj h).2 (by decide)
 ·exact absurd (Prod.mk.inj h).2 (by decide)
theorem Ol {g:List Run} {a b low:Int} (hg:gM g) (hr:0<=a/\a < b/\b<=48) (h:tF g a b=(low,0)):low=xS (sp g) a.toNat b.toNat:=by
 unfold tF at h;rw[if_pos hg,if_pos hr] at h;exact(Prod.mk.inj h).1.symm
theorem Jv {r:aS}:∀ (b:List bO) (f:List Run) (y:Nat->Int),(∀ i,i < 48->sp f i<=y i)->kV r f b=true->(∀ x∈b,1<=pN r x.Piece.toNat)->
  ∀ x∈b,∀ i,x.At.toNat<=i->i < (x.At+pL r x.Piece.toNat).toNat->pN r x.Piece.toNat<=y i
 | [],_,_,_,_,_,x,hx=>by cases hx
 | z::b,f,y,hy,h,hN,x,hx=>by
  have hz:=hN z (.head _);rw[kV] at h;split at h
  ·rename_i hc
   obtain⟨c1,c2,c3⟩:=hc;obtain⟨g,hg⟩:∃ g,tS f z.At (z.At+pL r z.Piece.toNat) (-(pN r z.Piece.toNat))=(g,0):=⟨_,Prod.ext rfl c1⟩;rw[hg] at c2 c3 h;obtain⟨low,hlow⟩:∃ low,tF g z.At (z.At+pL r z.Piece.toNat)=(low,0):=⟨_,Prod.ext rfl c2⟩;obtain⟨b1,b2,b3,b4⟩:=Ui hg;have hl:=Ol b3 b2 hlow;simp only[hlow] at c3;have hle:∀ i,i < 48->sp g i<=y i:=fun i hi=>by
    have h1:=hy i hi;have h2:cO z.At.toNat (z.At+pL r z.Piece.toNat).toNat (-(pN r z.Piece.toNat)) i=-(pN r z.Piece.toNat)\/cO z.At.toNat (z.At+pL r z.Piece.toNat).toNat (-(pN r z.Piece.toNat)) i=0:=by unfold cO;split <;> simp
    rw[b4 i hi];omega
   rcases aC8.1 hx with rfl | hx
   ·intro i k1 k2;rw[hl,Ct (by omega)] at c3;have h3:=c3 i k1 k2;rw[b4 i (by omega),xV k1 k2] at h3;have h4:=hy i (by omega);omega
   ·exact Jv b g y hle h (fun x hx=>hN x (.tail _ hx)) x hx
  ·cases h
theorem Wl {r:aS} {f:List Run} {b:List bO} (hm:dL r b=true) (hh:kV r f b=true):∀ k,k < b.length->kX (sp f) (bA b k).toNat r.aH.toNat (pL r (bP b k).toNat).toNat (pN r (bP b k).toNat)/\r.aI.toNat<=(bA b k).toNat/\(bA b k).toNat < r.aH.toNat/\0<=bA b k:=by
 have hm':=hm;rw[gH] at hm;obtain⟨h1,h2,h3⟩:=hm;obtain⟨⟨q1,q2,q3⟩,q4⟩:=cQ h1;have hlow:=xA h2;intro k hk;obtain⟨x,hx⟩:=bT (f:=b) (k:=k) hk;obtain⟨e1,e2⟩:=iG hx;have s:=h2 k hk;have s1:=s.is;have s2:=s.from_;have s3:=s.until_;have s4:=s.fits;have s5:=hlow k hk;obtain⟨⟨p1,p2⟩,p3,p4⟩:=q4 (bP b k).toNat (by omega);have hN:∀ z∈b,1<=pN r z.Piece.toNat:=fun z hz=>by
  obtain⟨j,hj,rfl⟩:=List.mem_iff_getElem.1 hz;have e3:=(iG (aBu hj)).1;have s6:=(h2 j hj).is;have s7:=hlow j hj;rw[<- e3];exact(q4 (bP b j).toNat (by omega)).2.1
 have h5:=Jv b f (sp f) (fun _ _=>aBp _) hh hN x (aBJ hx);rw[<- e1,<- e2] at h5;refine⟨⟨by omega,fun i k1 k2=>h5 i k1 (by omega)⟩,by omega,by omega,by omega⟩
def uZ (r:aS):List bO->Nat->Int
 | [],_=>0
 | x::b,t=>cO x.At.toNat (x.At+pL r x.Piece.toNat).toNat (pN r x.Piece.toNat) t+uZ r b t
theorem Ao (r:aS) (t:Nat):∀ b c,uZ r (b++c) t=uZ r b t+uZ r c t
 | [],c=>by simp[uZ]
 | x::b,c=>by
  have:=Ao r t b c;simp only[aCi,uZ];omega
theorem Wj (a b:Nat) (n:Int) (t:Nat):cO a b (-n) t=-cO a b n t:=by unfold cO;split <;> simp
theorem wF (x:Nat->Int):∀ n,x 0<=fY x n
 | 0=>aBp _
 | n+1=>by have:=wF x n;unfold fY;omega
theorem Fa {r:aS} {t:Nat} (ht:t < 48):∀ (b:List bO) (f:List Run),kV r f b=true->uZ r b t=0\/uZ r b t<=sp f t
 | [],f,_=>.inl rfl
 | z::b,f,h=>by
  rw[kV] at h;split at h
  ·rename_i hc
   obtain⟨c1,c2,c3⟩:=hc;obtain⟨g,hg⟩:∃ g,tS f z.At (z.At+pL r z.Piece.toNat) (-(pN r z.Piece.toNat))=(g,0):=⟨_,Prod.ext rfl c1⟩;rw[hg] at c2 c3 h;obtain⟨low,hlow⟩:∃ low,tF g z.At (z.At+pL r z.Piece.toNat)=(low,0):=⟨_,Prod.ext rfl c2⟩;obtain⟨b1,b2,b3,b4⟩:=Ui hg;have hl:=Ol b3 b2 hlow;simp only[hlow] at c3;have e:=b4 t ht;rw[Wj] at e;rcases Fa ht b g h with h0 | h0
   ·by_cases hin:z.At.toNat<=t/\t < (z.At+pL r z.Piece.toNat).toNat
    ·rw[hl,Ct (by omega)] at c3;have h3:=c3 t hin.1 hin.2
     right;simp only[uZ];omega
    ·left;simp only[uZ];rw[h0,oE hin];rfl
   ·right;simp only[uZ];omega
  ·cases h
theorem Al {x:aT} (hr:bX x.aP) (hin:∀ k,k < x.aO.length->fX x.aP x.aO k) (t:Nat):∀ k,k<=x.aO.length->fT x k t=uZ x.aP (x.aO.take k) t
 | 0,_=>by simp[fT,uZ]
 | k+1,hk=>by
  have ih:=Al hr hin t k (by omega);obtain⟨y,hy⟩:=bT (f:=x.aO) (k:=k) (by omega);obtain⟨e1,e2⟩:=iG hy;have hb:=hin k (by omega);obtain⟨⟨p1,_⟩,_⟩:=(cQ hr).2 (bP x.aO k).toNat (by have:=hb.low;have:=hb.is;omega);have h0:=hb.at0;show fT x k t+cO _ _ _ t=_;rw[ih,aD6,hy,Ao];rw[e1] at p1 ⊢;rw[e2] at h0 ⊢;show _=_+(cO _ _ _ t+0);rw[show (y.At+pL x.aP y.Piece.toNat).toNat=y.At.toNat+(pL x.aP y.Piece.toNat).toNat by omega];omega
theorem Is {l:List Queue} {x:aT} (h:cB l x) (t:Nat):dO x t=uZ x.aP x.aO t:=by
 have:=Al h.req (fun k hk=>(h.bites k hk).1) t x.aO.length (aBq _);rw[List.take_length] at this;exact this
theorem Oe {g:Nat->Int}:∀ (ks:List Nat),∀ k∈ks,nE g ks<=g k
 | [],k,h=>by cases h
 | j::ks,k,h=>by
  have key:∀ (ks:List Nat) (c:Int),ks.foldl (fun a k=>min a (g k)) c<=c/\∀ k∈ks,ks.foldl (fun a k=>min a (g k)) c<=g k:=by
   intro ks
   induction ks with
   | nil=>intro c;exact⟨aBp _,fun k h=>by cases h⟩
   | cons i ks ih=>
    intro c;obtain⟨h1,h2⟩:=ih (min c (g i));simp only[List.foldl_cons];refine⟨by omega,fun k h=>?_⟩;rcases aC8.1 h with rfl | h
    ·omega
    ·exact h2 k h
  obtain⟨h1,h2⟩:=key ks (g j);rcases aC8.1 h with rfl | h
  ·exact h1
  ·exact h2 k h
theorem Dr {l:List Queue} {b:List aT} {q:Int} {p t:Nat} (h:under l q p=true):gX l b q t<=bV l b p t:=
 Oe (g:=fun k=>bV l b k t) _ p (zG.2 h)
theorem Du {s:aV} (h:aZ s=0):mF s.aN s.aK s.aL.toNat:=by
 obtain⟨_,ht0⟩:=cL h;apply Classical.byContradiction;intro hn;rw[aAe hn] at ht0;cases ht0
theorem Dt {s:aV} (h1:eY s.aN s.aK=0) (h2:kR s) (h3:iF (-1) s.aM s.aK=true) (h4:s.aK.any (fG s.aL)=false) (h5:mF s.aN s.aK s.aL.toNat):aZ s=0:=
 uH (xY h1 h2 h3 h4) (Df h5)
theorem jZ {last next:Int} {x:aT} {b:List aT}:iF last next (x::b)=true↔last < x.Id/\x.Id < next/\iF x.Id next b=true:=by
 rw[iF,Bool.and_eq_true,Bool.and_eq_true,decide_eq_true_iff,decide_eq_true_iff,and_assoc]
theorem Zc {next:Int}:∀ {b:List aT} {a c:Int},a<=c->iF c next b=true->iF a next b=true
 | [],_,_,_,_=>rfl
 | x::b,a,c,h,h1=>by
  obtain⟨g1,g2,g3⟩:=jZ.1 h1;exact jZ.2 ⟨by omega,g2,g3⟩
theorem Zb {next:Int} {b c:List aT} (h:c.Sublist b):∀ {last:Int},iF last next b=true->iF last next c=true:=by
 induction h with
 | slnil=>exact fun h=>h
 | cons x _ ih=>
  intro last h1;obtain⟨g1,g2,g3⟩:=jZ.1 h1;exact ih (Zc (by omega) g3)
 | cons_cons x _ ih=>
  intro last h1;obtain⟨g1,g2,g3⟩:=jZ.1 h1;exact jZ.2 ⟨g1,g2,ih g3⟩
theorem Ju {m:Int} {x:aT} (hx:x.Id=m):∀ {b:List aT} {last:Int},last < m->iF last m b=true->iF last (m+1) (b++[x])=true
 | [],last,h,_=>jZ.2 ⟨by omega,by omega,rfl⟩
 | y::b,last,h,h1=>by
  obtain⟨g1,g2,g3⟩:=jZ.1 h1;exact jZ.2 ⟨g1,by omega,Ju hx g2 g3⟩
theorem Qj {l:List Queue} {b c:List aT} (q t:Nat) (h:c.Sublist b):(∀ x∈b,cB l x)->bL l c q t<=bL l b q t:=by
 induction h with
 | slnil=>exact fun _=>aBp _
 | cons x _ ih=>
  intro hb;have h1:=ih (fun y hy=>hb y (aBl _ hy));have h2:=qV (hb x (aCw ..)) t;simp only[bL];split <;> omega
 | cons_cons x _ ih=>
  intro hb;have h1:=ih (fun y hy=>hb y (aBl _ hy));simp only[bL];omega
theorem Qq {s:aV} (h:aZ s=0) {r:aS} {b:List bO} (hq:fQ s.aN r=0) (hm:dL r b=true) (hh:kV r (bN (gX s.aN s.aK r.aG)) b=true) (hfrom:¬ r.aI < s.aL)
  (h12:s.aK.length < 12) (hn:s.aM < 1048576):aZ (Jl s r b)=0:=by
 obtain⟨hf,_⟩:=cL h;obtain⟨h1,⟨k1,k2,k3,k4⟩,h3,h4⟩:=cS hf;obtain⟨_,h0,_,hbok⟩:=eF h1;obtain⟨_,hro,q0,q1⟩:=zQ hq;have hok:cB s.aN ⟨s.aM,r,b⟩:=⟨q0,q1,hm⟩;have h5:=Du h;have hb1:eY s.aN (s.aK++[⟨s.aM,r,b⟩])=0:=by
  rw[fV h0 (by omega)] at h1;rw[fV h0 (by simp;omega)];refine mQ.2 fun x hx=>?_;rcases aBm.1 hx with hx | hx
  ·exact mQ.1 h1 x hx
  ·rw[aCB.1 hx];exact⟨hq,hm⟩
 refine Dt hb1 ⟨k1,k2,by show 0<=s.aM+1;omega,by show s.aM+1<=1048576;omega⟩ (Ju (last:=-1) (m:=s.aM) rfl (by omega) h3) ?_ (fun t ht ht48 p hp=>?_)
 ·show (s.aK++[(⟨s.aM,r,b⟩:aT)]).any (fG s.aL)=false;rw[List.any_append,h4];show (fG s.aL ⟨s.aM,r,b⟩ || false)=false;rw[Ly hok,Bool.or_false];refine decide_eq_false ?_;have hmany:1<=b.length:=hok.many.1;have hT:=Wl hm hh 0 hmany;obtain⟨_,t2,_,t4⟩:=hT;have hb0:fX r b 0:=(hok.bites 0 hmany).1;obtain⟨⟨p1,_⟩,_⟩:=(cQ hro).2 (bP b 0).toNat (by have:=hb0.low;have:=hb0.is;omega);have hge:fS r b 0<=fY (fS r b) (b.length - 1):=wF _ _;have e:fS r b 0=bA b 0+pL r (bP b 0).toNat:=rfl;have hf0:=hro.range.1.1;show ¬ fY (fS r b) (b.length - 1)<=s.aL;omega
 ·show 0<=bV s.aN (s.aK++[⟨s.aM,r,b⟩]) p t;have g1:0<=bV s.aN s.aK p t:=h5 t ht ht48 p hp;have e:bV s.aN (s.aK++[⟨s.aM,r,b⟩]) p t=bV s.aN s.aK p t - (if under s.aN r.aG p=true then dO ⟨s.aM,r,b⟩ t else 0):=by
   unfold bV;rw[pT];simp only[bL];omega
  rw[e];by_cases hu:under s.aN r.aG p=true
  ·rw[if_pos hu,Is hok t];have g2:=Dr (b:=s.aK) (t:=t) hu;have g3:=Fa ht48 b _ hh;rw[fL ht48] at g3;show 0<=bV s.aN s.aK p t - uZ r b t;omega
  ·rw[if_neg hu];omega
theorem Kx {s X:aV} {r:aS} {n:Int} (h:dC s r=(X,n,0)):lY s r=0/\s.aK.length < 12/\s.aM < 1048576/\cK (kB s r) r≠[]/\X=Jl s r (cK (kB s r) r)/\n=s.aM:=by
 by_cases h0:lY s r=0
 ·by_cases h1:s.aK.length=12\/s.aM=1048576
  ·rw[rD h0 h1] at h;exact absurd (show (2:Int)=0 from congrArg (fun p=>p.2.2) h) (by decide)
  ·by_cases h2:cK (kB s r) r=[]
   ·rw[rE h0 h1 h2] at h;exact absurd (show (8:Int)=0 from congrArg (fun p=>p.2.2) h) (by decide)
   ·rw[rC h0 h1 h2] at h;obtain⟨g0,_⟩:=zV h0;obtain⟨hf,_⟩:=cL g0;obtain⟨hb,⟨_,_,_,k4⟩,_,_⟩:=cS hf;have h12:=(eF hb).2.2.1;have g1:¬ s.aK.length=12:=fun h=>h1 (.inl h);have g2:¬ s.aM=1048576:=fun h=>h1 (.inr h);exact⟨h0,by omega,by omega,h2,(congrArg (fun p=>p.1) h).symm,(congrArg (fun p=>p.2.1) h).symm⟩
 ·rw[mZ h0] at h;exact absurd (show lY s r=0 from congrArg (fun p=>p.2.2) h) h0
theorem Kw {s X:aV} {r:aS} {n:Int} (h:dC s r=(X,n,0)):aZ X=0/\aZ s=0/\dL r (cK (kB s r) r)=true:=by
 obtain⟨h0,h1,h2,h3,h4,h5⟩:=Kx h;obtain⟨g0,g1,g2⟩:=zV h0;obtain⟨m1,m2,m3,m4,m5,m6⟩:=Rh h0;have hm:=pI m2 h3;refine⟨?_,g0,hm⟩;rw[h4];exact Qq g0 g1 hm (Fd m5 m2 h3) g2 h1 h2
theorem Fc {α:Type} [Inhabited α] (l:List α) (q k:Nat) (x:α):(l.set q x).getD k default=if q=k/\q < l.length then x else l.getD k default:=by
 simp only[aC0,List.getElem?_set];by_cases h:q=k
 ·subst h;by_cases h2:q < l.length
  ·rw[if_pos rfl,if_pos h2,if_pos ⟨rfl,h2⟩];rfl
  ·rw[if_pos rfl,if_neg h2,if_neg (fun h=>h2 h.2),aBZ (by omega)]
 ·rw[if_neg h,if_neg (fun h'=>h h'.1)]
def eC (l:List Queue) (q:Nat) (f:List Run):List Queue:=l.set q ⟨nm l q,par l q,f⟩
theorem jN (l:List Queue) (q:Nat) (f:List Run):(eC l q f).length=l.length:=by simp[eC]
theorem Rb (l:List Queue) (q:Nat) (f:List Run) (k:Nat):nm (eC l q f) k=nm l k:=by
 show ((l.set q _).getD k default).aQ=_;rw[Fc];split
 ·rename_i h;rw[<- h.1]
 ·rfl
theorem aAl (l:List Queue) (q:Nat) (f:List Run) (k:Nat):par (eC l q f) k=par l k:=by
 show ((l.set q _).getD k default).aR=_;rw[Fc];split
 ·rename_i h;rw[<- h.1]
 ·rfl
theorem aAY (l:List Queue) (q:Nat) (f:List Run) (k:Nat):cp (eC l q f) k=if q=k/\q < l.length then f else cp l k:=by
 show ((l.set q _).getD k default).Cap=_;rw[Fc];split
 ·rfl
 ·rfl
theorem oV {l:List Queue} {q:Nat} {f:List Run} {x:aT}:cB (eC l q f) x↔cB l x:=
 ⟨fun h=>⟨h.q0,by have:=h.q1;rwa [jN] at this,h.meets⟩,fun h=>⟨h.q0,by rw[jN];exact h.q1,h.meets⟩⟩
theorem Pd (l:List Queue) (q:Nat) (f:List Run) (s:ByteArray):∀ k,sH (eC l q f) k s=sH l k s
 | 0=>rfl
 | k+1=>by
  have h:sH (eC l q f) k=sH l k:=funext fun s=>Pd l q f s k;simp only[sH,Rb,h]
theorem Fl {l:List Queue} {q:Nat} {f:List Run} (h:bM l=0) (hf:fK f):bM (eC l q f)=0:=by
 have ok:=qT h;unfold bM at h ⊢;have e2:p2 (eC l q f)=p2 l:=funext fun k=>by unfold p2;rw[Rb]
 have e3:p3 (eC l q f)=p3 l:=funext fun k=>by unfold p3;rw[Rb,Pd]
 have e4:p4 (eC l q f)=p4 l:=funext fun k=>by unfold p4;rw[aAl]
 have e5:(List.range l.length).any (p5 (eC l q f))=false:=by
  rw[aBY];intro k hk;have hk:=aC3.1 hk;unfold p5;rw[aAY];split
  ·simpa using hf
  ·simpa using ok.caps k hk
 rw[jN,e2,e3,e4,e5];split at h
 ·cases h
 ·rename_i h1
  rw[if_neg h1];split at h
  ·cases h
  ·rename_i h2
   rw[if_neg h2];split at h
   ·cases h
   ·rename_i h3
    rw[if_neg h3];split at h
    ·cases h
    ·rename_i h4
     rw[if_neg h4];rfl
theorem Dd {l:List Queue} {q:Nat} {f:List Run} (h:bM l=0) (hf:fK f):fB (eC l q f):=qT (Fl h hf)
def mB (p:Nat->Bool):Nat->Nat
 | 0=>0
 | k+1=>if p k=true then k else mB p k
theorem On (p:Nat->Bool):∀ n,0 < n->mB p n < n
 | k+1,_=>by
  simp only[mB];split
  ·omega
  ·rcases Nat.eq_zero_or_pos k with rfl | h
   ·exact Nat.zero_lt_one
   ·have:=On p k h;omega
theorem Oo {p:Nat->Bool}:∀ {n k:Nat},k < n->p k=true->p (mB p n)=true
 | n+1,k,hk,h=>by
  simp only[mB];split
  ·assumption
  ·rename_i hn
   have:k≠n:=fun e=>hn (e▸h);exact Oo (n:=n) (k:=k) (by omega) h
theorem qK {p:Nat->Bool}:∀ {n m:Nat},m<=n->(∀ j,m<=j->j < n->p j=false)->mB p n=mB p m
 | 0,m,h,_=>by
           have:m=0:=by omega
           rw[this]
 | n+1,m,h,hp=>by
  rcases aBK n m with h1 | h1
  ·have:m=n+1:=by omega
   rw[this]
  ·simp only[mB];rw[if_neg (by rw[hp n h1 (Nat.lt_succ_self n)];exact Bool.false_ne_true)];exact qK h1 fun j h2 h3=>hp j h2 (by omega)
noncomputable def Ot (l:List Queue) (t q:Nat) (x:aT):Bool:=under l x.aP.aG (q:Int) && decide (0 < dO x t)
noncomputable def Ey (l:List Queue) (b:List aT) (t q k:Nat):Bool:=Ot l t q (b.getD k default)
noncomputable def oJ (l:List Queue) (b:List aT) (t q:Nat):Nat:=mB (Ey l b t q) b.length
theorem uP {l:List Queue} {b:List aT} {t q k:Nat} {x:aT} (h:b[k]?=aC x):Ey l b t q k=Ot l t q x:=by
 unfold Ey;rw[aC0,h];rfl
theorem Iu {l:List Queue} {q t:Nat}:∀ {b:List aT},(∀ x∈b,cB l x)->0 < bL l b q t->∃ (k:Nat) (x:aT),b[k]?=aC x/\Ot l t q x=true
 | [],_,h=>by simp[bL] at h
 | x::b,hb,h=>by
  by_cases hx:Ot l t q x=true
  ·exact⟨0,x,rfl,hx⟩
  ·have h1:(if under l x.aP.aG q=true then dO x t else 0)<=0:=by
    split
    ·rename_i hu
     unfold Ot at hx;rw[hu,Bool.true_and,decide_eq_true_iff] at hx;omega
    ·exact aBp _
   simp only[bL] at h;obtain⟨k,y,hk,hy⟩:=Iu (fun y hy=>hb y (aBl _ hy)) (by omega:0 < bL l b q t);exact⟨k+1,y,by simpa using hk,hy⟩
theorem Ec {l:List Queue} {b:List aT} {f t q:Nat} (ok:fB l) (hb:∀ x∈b,cB l x) (h:nT l b f t q):∃ x,b[oJ l b t q]?=aC x/\Ot l t q x=true:=by
 obtain⟨_,_,hq,hl,_,_⟩:=h;have hc:=yG ok hq t;unfold bV at hl;obtain⟨k,x,hk,hx⟩:=Iu hb (by omega:0 < bL l b q t);have hkl:=(aBD.1 hk).1;have h1:Ey l b t q (oJ l b t q)=true:=Oo hkl (by rw[uP hk];exact hx);obtain⟨y,hy⟩:=bT (f:=b) (k:=oJ l b t q) (On _ _ (by omega));exact⟨y,hy,by rw[<- uP hy];exact h1⟩
noncomputable def zS (l:List Queue) (c:Nat):Nat->List aT->List aT->List aT × List aT
 | 0,b,a=>(b,a)
 | n+1,b,a=>if(jV l b c).2.2=true then zS l c n (b.eraseIdx (oJ l b (jV l b c).1.toNat (jV l b c).2.1.toNat)) (a++[b.getD (oJ l b (jV l b c).1.toNat (jV l b c).2.1.toNat) default]) else(b,a)
noncomputable def Nu (l:List Queue) (c:Nat) (b:List aT):List aT × List aT:=zS l c b.length b []
theorem Dx {l:List Queue} {c:Nat} {b a:List aT} (h:(jV l b c).2.2=false):∀ n,zS l c n b a=(b,a)
 | 0=>rfl
 | n+1=>by rw[zS,if_neg (by rw[h];exact Bool.false_ne_true)]
theorem Nt {l:List Queue} {c t q:Nat} {b a:List aT} {x:aT} (h:nT l b c t q) (hx:b[oJ l b t q]?=aC x):zS l c b.length b a=zS l c (b.eraseIdx (oJ l b t q)).length (b.eraseIdx (oJ l b t q)) (a++[x]):=by
 have hk:=(aBD.1 hx).1;obtain⟨n,hn⟩:∃ n,b.length=n+1:=⟨b.length - 1,by omega⟩;have hl:(b.eraseIdx (oJ l b t q)).length=n:=by rw[aDk hk];omega
 rw[hl,hn,zS,uF h,if_pos rfl];simp only[Int.toNat_natCast];rw[aC0,hx];rfl
def aAN (l:List Queue) (b:List aT) (c:Nat) (x:aT):Prop:=∃ t q,c<=t/\t < 48/\q < l.length/\bV l b q t < 0/\Ot l t q x=true
theorem Dz {α:Type}:∀ {b:List α} {k:Nat} {x:α},b[k]?=aC x->(x::b.eraseIdx k).Perm b
 | y::b,0,x,h=>by
  have:y=x:=by simpa using h
  rw[this];exact aDl.refl _
 | y::b,k+1,x,h=>by
  rw[List.eraseIdx_cons_succ];exact(aDl.swap ..).trans (aDl.cons _ (Dz (by simpa using h)))
theorem Jf {α:Type} {b a:List α} {k:Nat} {x:α} (h:b[k]?=aC x):(b.eraseIdx k++(a++[x])).Perm (b++a):=by
 have h1:(b.eraseIdx k++(a++[x])).Perm (x::(b.eraseIdx k++a)):=by
  rw[<- aDm];exact List.perm_append_comm
 exact h1.trans (by
  have:=aDl.append_right a (Dz h);simpa using this)
theorem Yx {l:List Queue} {b c:List aT} (q t:Nat) (h:c.Sublist b) (hb:∀ x∈b,cB l x):bV l b q t<=bV l c q t:=by
 have:=Qj (l:=l) q t h hb;unfold bV;omega
theorem aAk {l:List Queue} {c:Nat} (ok:fB l):∀ (n:Nat) (b a:List aT),b.length=n->(∀ x∈b,cB l x)->
  mF l (zS l c n b a).1 c/\(zS l c n b a).1.Sublist b/\((zS l c n b a).1++(zS l c n b a).2).Perm (b++a)/\∀ x∈(zS l c n b a).2,x∈a\/aAN l b c x:=by
 intro n
 induction n with
 | zero=>
  intro b a hn hb;have h0:b=[]:=aBC hn;subst h0;refine⟨fun t h1 h2 p hp=>?_,aDn.refl _,aDl.refl _,fun x hx=>.inl hx⟩;have:=yG ok hp t;show 0<=bV l [] p t;unfold bV;simp only[bL];omega
 | succ n ih=>
  intro b a hn hb;by_cases hf:mF l b c
  ·rw[Dx (Df hf)];exact⟨hf,aDn.refl _,aDl.refl _,fun x hx=>.inl hx⟩
  ·obtain⟨t,q,ho⟩:=uM hf;obtain⟨x,hx,hh⟩:=Ec ok hb ho;have hk:=(aBD.1 hx).1;have hl:(b.eraseIdx (oJ l b t q)).length=n:=by rw[aDk hk];omega
   have hs:=Nt (a:=a) ho hx;rw[hn,hl] at hs;rw[hs];have hsub:(b.eraseIdx (oJ l b t q)).Sublist b:=aDo ..;obtain⟨g1,g2,g3,g4⟩:=ih (b.eraseIdx (oJ l b t q)) (a++[x]) hl (fun y hy=>hb y (hsub.subset hy));refine⟨g1,g2.trans hsub,g3.trans (Jf hx),fun y hy=>?_⟩;obtain⟨o1,o2,o3,o4,_⟩:=ho;rcases g4 y hy with h | ⟨t',q',h1,h2,h3,h4,h5⟩
   ·rcases aBm.1 h with h | h
    ·exact .inl h
    ·rw[aCB.1 h];exact .inr ⟨t,q,o1,o2,o3,o4,hh⟩
   ·exact .inr ⟨t',q',h1,h2,h3,by have:=Yx q' t' hsub hb;omega,h5⟩
def qM (x:aT):List aT->List aT
 | []=>[x]
 | y::b=>if y.Id < x.Id then y::qM x b else x::y::b
def iD (a:List aT):List aT:=a.foldl (fun s x=>qM x s) []
theorem Dj (a:List aT) (x:aT):iD (a++[x])=qM x (iD a):=by unfold iD;rw[List.foldl_append];rfl
theorem lC (x:aT):∀ b,(qM x b).Perm (x::b)
 | []=>aDl.refl _
 | y::b=>by
  simp only[qM];split
  ·exact(aDl.cons _ (lC x b)).trans (aDl.swap ..)
  ·exact aDl.refl _
theorem Ka:∀ (a s:List aT),(a.foldl (fun s x=>qM x s) s).Perm (s++a)
 | [],s=>by rw[aBi];exact aDl.refl _
 | x::a,s=>by
  refine(Ka a (qM x s)).trans ?_;refine(aDl.append_right a (lC x s)).trans ?_;show ((x::s)++a).Perm _;exact aDp.symm
theorem iU (a:List aT):(iD a).Perm a:=by
 have:=Ka a []
 rwa [aCh] at this
abbrev nS (b:List aT):Prop:=b.Pairwise (fun x y=>x.Id < y.Id)
theorem tI {x:aT}:∀ {b:List aT},nS b->(∀ y∈b,y.Id≠x.Id)->nS (qM x b)
 | [],_,_=>List.pairwise_singleton _ _
 | y::b,h,hn=>by
  simp only[qM];obtain⟨h1,h2⟩:=aDq.1 h;split
  ·rename_i hl
   refine aDq.2 ⟨fun z hz=>?_,tI h2 fun z hz=>hn z (aBl _ hz)⟩;rcases aC8.1 ((lC x b).subset hz) with rfl | hz
   ·exact hl
   ·exact h1 z hz
  ·rename_i hl
   have h3:=hn y (aCw ..);refine aDq.2 ⟨fun z hz=>?_,h⟩;rcases aC8.1 hz with rfl | hz
   ·omega
   ·have:=h1 z hz;omega
theorem Iz:∀ {a b:List aT},nS a->nS b->a.Perm b->a=b
 | [],b,_,_,h=>(aDl.nil_eq h)
 | x::a,[],_,_,h=>by have:=h.length_eq;simp at this
 | x::a,y::b,h1,h2,h=>by
  obtain⟨g1,g2⟩:=aDq.1 h1;obtain⟨k1,k2⟩:=aDq.1 h2;have e:x=y:=by
   rcases aC8.1 (h.subset (aCw ..)) with e | hx
   ·exact e
   ·rcases aC8.1 (h.symm.subset (aCw ..)) with e | hy
    ·exact e.symm
    ·have:=k1 x hx;have:=g1 y hy;omega
  subst e;rw[Iz g2 k2 ((List.perm_cons _).1 h)]
theorem Bb:∀ (a s:List aT),nS s->(s++a).Pairwise (fun x y=>x.Id≠y.Id)->nS (a.foldl (fun s x=>qM x s) s)
 | [],s,h,_=>h
 | x::a,s,h,hd=>by
  have h1:((x::s)++a).Pairwise (fun x y:aT=>x.Id≠y.Id):=(aDl.pairwise_iff (fun h e=>h e.symm) aDp).1 hd;have h2:(qM x s++a).Pairwise (fun x y:aT=>x.Id≠y.Id):=(aDl.pairwise_iff (fun h e=>h e.symm) (aDl.append_right a (lC x s))).2 h1;refine Bb a _ (tI h fun y hy=>?_) h2;have h3:=(aDq.1 (show (x::(s++a)).Pairwise (fun x y:aT=>x.Id≠y.Id) from h1)).1 y (aD1 _ hy);exact fun e=>h3 e.symm
theorem Ky {a:List aT} (h:a.Pairwise (fun x y=>x.Id≠y.Id)):nS (iD a):=Bb a [] aDr.nil (by simpa using h)
theorem tK {next:Int}:∀ {b:List aT} {last:Int},iF last next b=true↔(∀ x∈b,last < x.Id/\x.Id < next)/\nS b
 | [],last=>⟨fun _=>⟨fun x hx=>(by cases hx),aDr.nil⟩,fun _=>rfl⟩
 | x::b,last=>by
  rw[jZ,tK,show nS (x::b)↔(∀ y∈b,x.Id < y.Id)/\nS b from aDq];constructor
  ·rintro⟨h1,h2,h3,h4⟩;refine⟨fun y hy=>?_,fun y hy=>(h3 y hy).1,h4⟩;rcases aC8.1 hy with rfl | hy
   ·exact⟨h1,h2⟩
   ·have:=h3 y hy;omega
  ·rintro⟨h1,h2,h3⟩;exact⟨(h1 x (aCw ..)).1,(h1 x (aCw ..)).2,fun y hy=>⟨h2 y hy,(h1 y (aBl _ hy)).2⟩,h3⟩
theorem Tz {x:aT}:∀ {b:List aT} {i:Nat},InB b x.Id i->qM x b=b.take i++x::b.drop i
 | [],i,h=>by simp[qM]
 | y::b,i,⟨h0,h1,h2⟩=>by
  simp only[qM];cases i with
  | zero=>
   have:=h2 0 (aBq _) (by simp);rw[jH (x:=y) (by simp)] at this;rw[if_neg (by omega)];rfl
  | succ i=>
   have:=h1 0 (by omega);rw[jH (x:=y) (by simp)] at this;rw[if_pos this,Tz (i:=i) ⟨by simpa using h0,fun j hj=>?_,fun j hj hl=>?_⟩]
   ·rfl
   ·have:=h1 (j+1) (by omega);simpa[nZ] using this
   ·have:=h2 (j+1) (by omega) (by simpa using hl);simpa[nZ] using this
def pX (x:aS) (c:Int):aS:=⟨x.aG,max x.aI c,x.aH,x.aJ,x.aF⟩
noncomputable def cN (l:List Queue) (c:Int) (b:List aT) (x:aT):List bO:=cK (sp (bN (gX l b x.aP.aG))) (pX x.aP c)
def rR (c:Int) (x:aT):Bool:=x.aO.any fun y=>decide (y.At < c)
noncomputable def iM (l:List Queue) (c:Int) (b:List aT) (x:aT):Bool:=rR c x || decide (x.aP.aH<=max x.aP.aI c) || decide (cN l c b x=[])
noncomputable def gJ (l:List Queue) (c:Int) (b:List aT) (x:aT):List aT:=qM ⟨x.Id,x.aP,cN l c b x⟩ b
noncomputable def iO (l:List Queue) (c:Int):List aT->List aT->List Int->List Int->List aT × List Int × List Int
 | [],b,m,d=>(b,m,d)
 | x::a,b,m,d=>if iM l c b x=true then iO l c a b m (d++[x.Id]) else iO l c a (gJ l c b x) (m++[x.Id]) d
theorem Fw {l:List Queue} {c:Int} {x:aT} {a b:List aT} {m d:List Int} (h:iM l c b x=true):iO l c (x::a) b m d=iO l c a b m (d++[x.Id]):=by rw[iO,if_pos h]
theorem Fx {l:List Queue} {c:Int} {x:aT} {a b:List aT} {m d:List Int} (h:iM l c b x=false):iO l c (x::a) b m d=iO l c a (gJ l c b x) (m++[x.Id]) d:=by rw[iO,if_neg (by rw[h];exact Bool.false_ne_true)]
theorem aAp {l:List Queue} {c:Int} {b:List aT} {x:aT}:iM l c b x=false↔rR c x=false/\max x.aP.aI c < x.aP.aH/\cN l c b x≠[]:=by
 unfold iM;rw[Bool.or_eq_false_iff,Bool.or_eq_false_iff,decide_eq_false_iff_not,decide_eq_false_iff_not,Int.not_le,and_assoc]
theorem zX {x:aS} {c:Int} (h:bX x) (h2:max x.aI c < x.aH):bX (pX x c):=by
 obtain⟨k,m,⟨⟨s1,s2,s3⟩,p⟩⟩:=h;exact⟨k,m,⟨⟨by show 0<=max x.aI c;omega,h2,s3⟩,p⟩⟩
theorem Lx {x:aS} {c:Int} {b:List bO} (hr:bX x) (h:dL (pX x c) b=true):dL x b=true:=by
 rw[gH] at h ⊢;obtain⟨_,h2,h3⟩:=h;refine⟨hr,fun k hk=>?_,h3⟩;have g:=h2 k hk;exact⟨g.up,g.is,by have:=g.from_;have e:(pX x c).aI=max x.aI c:=rfl;rw[e] at this;omega,g.until_,g.fits,g.order,g.tight⟩
theorem Jr {x:aS} {c:Int} {b:List bO} (h:dL (pX x c) b=true):∀ y∈b,c<=y.At:=fun y hy=>by
 obtain⟨k,hk⟩:=aCU.1 hy;have g:=(((gH.1 h).2.1) k (aBD.1 hk).1).from_;have e:(pX x c).aI=max x.aI c:=rfl;rw[e,(iG hk).2] at g;omega
theorem Nh {l:List Queue} (q t:Nat) {b c:List aT} (h:b.Perm c):bL l b q t=bL l c q t:=by
 induction h with
 | nil=>rfl
 | cons x _ ih=>simp only[bL,ih]
 | swap x y b=>simp only[bL];omega
 | trans _ _ h1 h2=>exact h1.trans h2
theorem vI {x:aS} {c:Int}:∀ {b:List bO} {f:List Run},kV (pX x c) f b=true->kV x f b=true
 | [],_,_=>rfl
 | y::b,f,h=>by
  rw[kV] at h ⊢;split at h
  ·rename_i hc
   exact(if_pos (c:=_) (t:=kV x _ b) (e:=false) hc).trans (vI h)
  ·cases h
theorem rS {c next:Int} {l:List Queue} {b:List aT} {x:aT} (h:aZ ⟨c,next,l,b⟩=0) (hx:cB l x) (hi:0<=x.Id/\x.Id < next) (hd:∀ y∈b,y.Id≠x.Id) (h12:b.length < 12) (hg:iM l c b x=false) :
  aZ ⟨c,next,l,gJ l c b x⟩=0/\cB l ⟨x.Id,x.aP,cN l c b x⟩/\∀ y∈cN l c b x,c<=y.At:=by
 obtain⟨_,hu,hp⟩:=aAp.1 hg;obtain⟨hf,_⟩:=cL h;obtain⟨h1,⟨k1,k2,k3,k4⟩,h3,h4⟩:=cS hf;obtain⟨ok,h0,_,hbok⟩:=eF h1;have h5:=Du h;have hq:=zX hx.req hu;obtain⟨q,hqn⟩:∃ q:Nat,x.aP.aG=q:=⟨x.aP.aG.toNat,by have:=hx.q0;omega⟩;have hql:q < l.length:=by have:=hx.q1;omega
 have hfine:gM (bN (gX l b x.aP.aG)):=by
  rw[hqn];exact uS fun t _=>Ns ok hbok (by show b.length<=12;omega) hql t
 have hm:dL (pX x.aP c) (cN l c b x)=true:=pI hq hp;have hh:kV x.aP (bN (gX l b x.aP.aG)) (cN l c b x)=true:=vI (Fd hfine hq hp);have hbk:cB l ⟨x.Id,x.aP,cN l c b x⟩:=⟨hx.q0,hx.q1,Lx hx.req hm⟩;refine⟨?_,hbk,Jr hm⟩;have hperm:(gJ l c b x).Perm (⟨x.Id,x.aP,cN l c b x⟩::b):=lC _ _;have hlen:(gJ l c b x).length=b.length+1:=hperm.length_eq;have hmem:∀ y∈gJ l c b x,y=⟨x.Id,x.aP,cN l c b x⟩\/y∈b:=fun y hy=>aC8.1 (hperm.subset hy);have hb1:eY l (gJ l c b x)=0:=by
  rw[fV h0 (by omega)];have h1':eY l b=0:=h1;rw[fV h0 (by omega)] at h1';refine mQ.2 fun y hy=>?_;rcases hmem y hy with rfl | hy
  ·exact⟨Lh h0 hx.req ⟨hx.q0,hx.q1⟩,hbk.meets⟩
  ·exact mQ.1 h1' y hy
 have hids:iF (-1) next (gJ l c b x)=true:=by
  obtain⟨g1,g2⟩:=tK.1 (show iF (-1) next b=true from h3);refine tK.2 ⟨fun y hy=>?_,tI g2 hd⟩;rcases hmem y hy with rfl | hy
  ·exact⟨by show -1 < x.Id;omega,hi.2⟩
  ·exact g1 y hy
 refine Dt hb1 ⟨k1,k2,k3,k4⟩ hids ?_ (fun t ht ht48 p hpl=>?_)
 ·show (gJ l c b x).any (fG c)=false;rw[aBY];intro y hy;rcases hmem y hy with rfl | hy
  ·rw[Ly hbk];have hmany:1<=(cN l c b x).length:=hbk.many.1;have hb0:fX x.aP (cN l c b x) 0:=(hbk.bites 0 hmany).1;obtain⟨⟨p1,_⟩,_⟩:=(cQ hx.req).2 (bP (cN l c b x) 0).toNat (by have:=hb0.low;have:=hb0.is;omega);have hge:fS x.aP (cN l c b x) 0<=fY (fS x.aP (cN l c b x)) ((cN l c b x).length - 1):=wF _ _;have e:fS x.aP (cN l c b x) 0=bA (cN l c b x) 0+pL x.aP (bP (cN l c b x) 0).toNat:=rfl;have hat:c<=bA (cN l c b x) 0:=by
    obtain⟨y,hy⟩:=bT hmany;rw[(iG hy).2];exact Jr hm y (aBJ hy)
   show ¬ (decide (fY (fS x.aP (cN l c b x)) ((cN l c b x).length - 1)<=c)=true);rw[decide_eq_true_iff];omega
  ·have:=aBY.1 (show b.any (fG c)=false from h4) y hy;exact this
 ·show 0<=bV l (gJ l c b x) p t;have g1:0<=bV l b p t:=h5 t ht ht48 p hpl;have e:bV l (gJ l c b x) p t=bV l b p t - (if under l x.aP.aG p=true then dO ⟨x.Id,x.aP,cN l c b x⟩ t else 0):=by
   unfold bV;rw[Nh p t hperm];simp only[bL];omega
  rw[e];by_cases hu:under l x.aP.aG p=true
  ·rw[if_pos hu,Is hbk t];have g2:=Dr (b:=b) (t:=t) hu;have g3:=Fa ht48 (cN l c b x) _ hh;rw[fL ht48] at g3;show 0<=bV l b p t - uZ x.aP (cN l c b x) t;omega
  ·rw[if_neg hu];omega
theorem Wz {c next:Int} {l:List Queue}:∀ (a b:List aT) (m d:List Int),aZ ⟨c,next,l,b⟩=0->(∀ x∈a,cB l x/\0<=x.Id/\x.Id < next)->(b++a).Pairwise (fun x y=>x.Id≠y.Id)->b.length+a.length<=12->
  aZ ⟨c,next,l,(iO l c a b m d).1⟩=0/\(∀ y∈b,y∈(iO l c a b m d).1)/\∃ m' d':List Int,(iO l c a b m d).2.1=m++m'/\(iO l c a b m d).2.2=d++d'/\(m'++d').Perm (a.map aT.Id)/\
   (iO l c a b m d).1.length=b.length+m'.length/\(∀ x∈a,x.Id∈m'->∃ y∈(iO l c a b m d).1,y.Id=x.Id/\y.aP=x.aP/\∀ z∈y.aO,c<=z.At)/\∀ y∈(iO l c a b m d).1,y∈b\/y.Id∈m':=by
 intro a
 induction a with
 | nil=>
  intro b m d h _ _ _;exact⟨h,fun y hy=>hy,[],[],by simp[iO],by simp[iO],by simp,by simp[iO],fun x hx=>(by cases hx),fun y hy=>.inl hy⟩
 | cons x a ih=>
  intro b m d h ha hd h12;have h12':b.length+(a.length+1)<=12:=by simpa using h12
  obtain⟨hx,hi⟩:=ha x (aCw ..);have ha':=fun y hy=>ha y (aBl x hy);have hd1:(x::(b++a)).Pairwise (fun x y:aT=>x.Id≠y.Id):=(aDl.pairwise_iff (fun h e=>h e.symm) aDp).1 hd;obtain⟨hd2,hd3⟩:=aDq.1 hd1;cases hg:iM l c b x with
  | true=>
   rw[Fw hg];obtain⟨g1,g2,m',d',g3,g4,g5,g6,g7,g8⟩:=ih b m (d++[x.Id]) h ha' hd3 (by omega);refine⟨g1,g2,m',x.Id::d',g3,by rw[g4];simp,?_,g6,fun y hy hm=>?_,g8⟩
   ·rw[aCu];exact aDp.trans (aDl.cons _ g5)
   ·rcases aC8.1 hy with rfl | hy
    ·obtain⟨z,hz,e⟩:=aCn.1 (g5.subset (aD1 _ hm));exact absurd e.symm (hd2 z (aD2 _ hz))
    ·exact g7 y hy hm
  | false=>
   rw[Fx hg];obtain⟨k1,k2,k3⟩:=rS h hx hi (fun y hy e=>hd2 y (aD1 _ hy) e.symm) (by omega) hg;have hperm:(gJ l c b x).Perm (⟨x.Id,x.aP,cN l c b x⟩::b):=lC _ _;have hd4:(gJ l c b x++a).Pairwise (fun x y:aT=>x.Id≠y.Id):=(aDl.pairwise_iff (fun h e=>h e.symm) (aDl.append_right a hperm)).2 (aDq.2 ⟨hd2,hd3⟩);have hl:=hperm.length_eq;rw[aBB] at hl;obtain⟨g1,g2,m',d',g3,g4,g5,g6,g7,g8⟩:=ih (gJ l c b x) (m++[x.Id]) d k1 ha' hd4 (by omega);refine⟨g1,fun y hy=>g2 y (hperm.symm.subset (aBl _ hy)),x.Id::m',d',by rw[g3];simp,g4,?_,by rw[g6,hl,aBB];omega,fun y hy hm=>?_,fun y hy=>?_⟩
   ·rw[aCu,aCi];exact aDl.cons _ g5
   ·rcases aC8.1 hy with rfl | hy
    ·exact⟨_,g2 _ (hperm.symm.subset (aCw ..)),rfl,rfl,k3⟩
    ·rcases aC8.1 hm with e | hm
     ·exact absurd e.symm (hd2 y (aD2 _ hy))
     ·exact g7 y hy hm
   ·rcases g8 y hy with h1 | h1
    ·rcases aC8.1 (hperm.subset h1) with rfl | h1
     ·exact .inr (aCw ..)
     ·exact .inl h1
    ·exact .inr (aBl _ h1)
noncomputable def jI (s:aV) (q:Nat) (f:List Run):List aT × List aT:=Nu (eC s.aN q f) s.aL.toNat s.aK
noncomputable def lZ (s:aV) (q:Nat) (f:List Run):List aT × List Int × List Int:=iO (eC s.aN q f) s.aL (iD (jI s q f).2) (jI s q f).1 [] []
noncomputable def pY (s:aV) (q:Nat) (f:List Run):aV:=⟨s.aL,s.aM,eC s.aN q f,(lZ s q f).1⟩
@[irreducible] noncomputable def dK (s:aV) (q:Int) (f:List Run):aV × List Int × List Int × Int:=
 if aZ s≠0 then(fA,[],[],aZ s) else if¬ (0<=q/\q < s.aN.length) then(fA,[],[],6) else if¬ fK f then(fA,[],[],1) else(pY s q.toNat f,(lZ s q.toNat f).2.1,(lZ s q.toNat f).2.2,0)
theorem Bj {s:aV} {q:Int} {f:List Run} (h:aZ s≠0):dK s q f=(fA,[],[],aZ s):=by unfold dK;rw[if_pos h]
theorem yE {s:aV} {q:Int} {f:List Run} (h:aZ s=0) (h2:¬ (0<=q/\q < s.aN.length)):dK s q f=(fA,[],[],6):=by unfold dK;rw[if_neg (by simp[h]),if_pos h2]
theorem yF {s:aV} {q:Int} {f:List Run} (h:aZ s=0) (h2:0<=q/\q < s.aN.length) (h3:¬ fK f):dK s q f=(fA,[],[],1):=by unfold dK;rw[if_neg (by simp[h]),if_neg (fun h=>h h2),if_pos h3]
theorem Fm {s:aV} {q:Nat} {f:List Run} (h:aZ s=0) (h2:q < s.aN.length) (h3:fK f):dK s (q:Int) f=(pY s q f,(lZ s q f).2.1,(lZ s q f).2.2,0):=by
 unfold dK;rw[if_neg (by simp[h]),if_neg (fun h=>h ⟨by omega,by omega⟩),if_neg (fun h=>h h3)];rfl
theorem Ex {b:List aT} (h:nS b):b.Pairwise (fun x y=>x.Id≠y.Id):=h.imp (fun h e=>by omega)
structure RelIs (s:aV) (q:Nat) (f:List Run):Prop where
 tree:bM (eC s.aN q f)=0
 fits:mF (eC s.aN q f) (jI s q f).1 s.aL.toNat
 sub:(jI s q f).1.Sublist s.aK
 perm:((jI s q f).1++(jI s q f).2).Perm s.aK
 fair:∀ x∈(jI s q f).2,aAN (eC s.aN q f) s.aK s.aL.toNat x
theorem Qr {s:aV} {q:Nat} {f:List Run} (h:aZ s=0) (hf:fK f):RelIs s q f:=by
 obtain⟨hfm,_⟩:=cL h;obtain⟨h1,_,_,_⟩:=cS hfm;obtain⟨_,h0,_,hbok⟩:=eF h1;have hc:=Fl (q:=q) h0 hf;obtain⟨g1,g2,g3,g4⟩:=aAk (c:=s.aL.toNat) (qT hc) s.aK.length s.aK [] rfl (fun x hx=>oV.2 (hbok x hx));refine⟨hc,g1,g2,by rw[aBi] at g3;exact g3,fun x hx=>?_⟩;rcases g4 x hx with h | h
 ·cases h
 ·exact h
theorem zR {s:aV} {q:Nat} {f:List Run} (h:aZ s=0) (hf:fK f):aZ ⟨s.aL,s.aM,eC s.aN q f,(jI s q f).1⟩=0:=by
 have R:=Qr (q:=q) h hf;obtain⟨hfm,_⟩:=cL h;obtain⟨h1,h2,h3,h4⟩:=cS hfm;obtain⟨_,h0,h12,hbok⟩:=eF h1;have hlen:=R.sub.length_le;refine Dt ?_ h2 (Zb R.sub h3) ?_ R.fits
 ·show eY (eC s.aN q f) (jI s q f).1=0;rw[fV R.tree (by omega)];refine mQ.2 fun x hx=>?_;have hb:=oV (q:=q) (f:=f).2 (hbok x (R.sub.subset hx));exact⟨Lh R.tree hb.req ⟨hb.q0,hb.q1⟩,hb.meets⟩
 ·show (jI s q f).1.any (fG s.aL)=false;rw[aBY];exact fun x hx=>aBY.1 h4 x (R.sub.subset hx)
structure EndIs (s:aV) (q:Nat) (f:List Run):Prop where
 right:aZ (pY s q f)=0
 stay:∀ y∈(jI s q f).1,y∈(lZ s q f).1
 perm:((lZ s q f).2.1++(lZ s q f).2.2).Perm ((jI s q f).2.map aT.Id)
 len:(lZ s q f).1.length=(jI s q f).1.length+(lZ s q f).2.1.length
 back:∀ x∈(jI s q f).2,x.Id∈(lZ s q f).2.1->∃ y∈(lZ s q f).1,y.Id=x.Id/\y.aP=x.aP/\∀ z∈y.aO,s.aL<=z.At
 only:∀ y∈(lZ s q f).1,y∈(jI s q f).1\/y.Id∈(lZ s q f).2.1
theorem Mi {s:aV} {q:Nat} {f:List Run} (h:aZ s=0) (hf:fK f):(∀ x∈iD (jI s q f).2,cB (eC s.aN q f) x/\0<=x.Id/\x.Id < s.aM)/\((jI s q f).1++iD (jI s q f).2).Pairwise (fun x y=>x.Id≠y.Id)/\(jI s q f).1.length+(iD (jI s q f).2).length=s.aK.length:=by
 have R:=Qr (q:=q) h hf;obtain⟨hfm,_⟩:=cL h;obtain⟨h1,h2,h3,h4⟩:=cS hfm;obtain⟨_,h0,h12,hbok⟩:=eF h1;obtain⟨i1,i2⟩:=tK.1 h3;have hp:((jI s q f).1++iD (jI s q f).2).Perm s.aK:=(aDl.append_left _ (iU _)).trans R.perm;refine⟨fun x hx=>?_,(aDl.pairwise_iff (fun h e=>h e.symm) hp).2 (Ex i2),by have:=hp.length_eq;rwa [aBk] at this⟩;have hm:=hp.subset (aD2 _ hx);have:=i1 x hm;exact⟨oV.2 (hbok x hm),by omega,this.2⟩
theorem Zh {s:aV} {q:Nat} {f:List Run} (h:aZ s=0) (hf:fK f):EndIs s q f:=by
 have R:=Qr (q:=q) h hf;obtain⟨hfm,_⟩:=cL h;obtain⟨h1,_,_,_⟩:=cS hfm;obtain⟨_,h0,h12,hbok⟩:=eF h1;obtain⟨a1,a2,a3⟩:=Mi (q:=q) h hf;obtain⟨g1,g2,m',d',g3,g4,g5,g6,g7,g8⟩:=Wz (c:=s.aL) (next:=s.aM) (iD (jI s q f).2) (jI s q f).1 [] [] (zR h hf) a1 a2 (by omega);have e3:(lZ s q f).2.1=m':=by rw[<- aCh m'];exact g3
 have e4:(lZ s q f).2.2=d':=by rw[<- aCh d'];exact g4
 refine⟨g1,g2,?_,?_,fun x hx hm=>?_,fun y hy=>?_⟩
 ·rw[e3,e4];exact g5.trans ((iU _).map _)
 ·rw[e3];exact g6
 ·rw[e3] at hm;exact g7 x ((iU _).symm.subset hx) hm
 ·rw[e3];exact g8 y hy
attribute [local go_sem] Oper.semAt_some
abbrev yI (x:aT) (pv bv:Value):Value:=.agg #[aA aB x.Id,aA aB x.aP.aG,aA aB x.aP.aI,aA aB x.aP.aH,aA aB x.aP.aJ,pv,bv]
def kY (W:World) (g o:Nat) (x:aT) (pv bv:Value):Prop:=
 W.cell? ⟨g,o,aD⟩=aC (aA aB x.Id)/\W.cell? ⟨g,o+1,aD⟩=aC (aA aB x.aP.aG)/\W.cell? ⟨g,o+2,aD⟩=aC (aA aB x.aP.aI)/\W.cell? ⟨g,o+3,aD⟩=aC (aA aB x.aP.aH)/\
  W.cell? ⟨g,o+4,aD⟩=aC (aA aB x.aP.aJ)/\W.cell? ⟨g,o+5,aD⟩=aC pv/\W.cell? ⟨g,o+6,aD⟩=aC bv
theorem kY.keep {W W':World} {g o:Nat} {x:aT} {pv bv:Value} (h:kY W g o x pv bv) (he:W'.heap[g]?=W.heap[g]?):kY W' g o x pv bv:=by
 have e:∀ o,W'.cell? ⟨g,o,aD⟩=W.cell? ⟨g,o,aD⟩:=fun o=>aCk (a:=⟨g,o,aD⟩) he;unfold kY at h ⊢;rw[e,e,e,e,e,e,e];exact h
def pQ {n:Nat} (pre:List (Fin n)):Prop:=∀ (i:Nat) (x:Fin n),pre[i]?=aC x->x.1+i+1=n
theorem pQ.snoc {n:Nat} {pre:List (Fin n)} {x:Fin n} (h:pQ pre) (hx:x.1+pre.length+1=n):pQ (pre++[x]):=by
 intro i y hi;rcases aBK i pre.length with hl | hl
 ·rw[aCI hl] at hi;exact h i y hi
 ·have hl2:=(aBD.1 hi).1;rw[aBk,List.length_singleton] at hl2;have:i=pre.length:=by omega
  subst this;rw[aCJ (aBq _),Nat.sub_self] at hi;cases hi;exact hx
theorem pQ.mem {n:Nat} {pre:List (Fin n)} {x:Fin n} (h:pQ (pre++[x])) {j:Nat} (h1:x.1 < j) (h2:j < n):∃ y∈pre,y.1=j:=by
 have hx:=h pre.length x (by simp);obtain⟨y,hy⟩:∃ y,pre[n - 1 - j]?=aC y:=⟨_,aBu (by omega)⟩;have:=h (n - 1 - j) y (by rw[aCI (by omega)];exact hy);exact⟨y,aBJ hy,by omega⟩
theorem pQ.all {n:Nat} {xs:List (Fin n)} (h:pQ xs) (hl:xs.length=n) {j:Nat} (h2:j < n):∃ y∈xs,y.1=j:=by
 obtain⟨y,hy⟩:∃ y,xs[n - 1 - j]?=aC y:=⟨_,aBu (by omega)⟩;have:=h (n - 1 - j) y hy;exact⟨y,aBJ hy,by omega⟩
theorem Zp (n:Nat) (hn:1<=n) (y Bs g off cap z:Nat) (b:List aT) (pv bv:Nat->Value) (hz:b.length=z) (h12:z<=12) (hzc:z<=cap)
  (J Jx:List (Fin z)->World->Prop)
  (hY:∀ pre x W,J pre W->pre.length < z->YieldAt Fence.wide (n - 1) prog y #[aA aB (x.1:Int),yI (b.getD x.1 default) (pv x.1) (bv x.1)] W fun e W'=>
   (e=.returned (.bool true)/\J (pre++[x]) W'/\eH [Bs,g] W W')\/(e=.returned (.bool false)/\Jx (pre++[x]) W'))
  (W:World) (hBs:Boxed W Bs 23 (aE (aC ⟨g,off,aD⟩) z cap)) (hg:g < W.heap.size) (hE:∀ k x,b[k]?=aC x->kY W g (off+k*7) x (pv k) (bv k)) (h0:J [] W) :
  CallsIn Fence.wide n prog 194 #[.func (.yield y) #[] #[],.pointer (aC ⟨Bs,0,aD⟩)] W fun e W'=>(∃ v,e=.returned v)/\
   ((∃ xs,(xs.length=z/\pQ xs)/\J xs W')\/(∃ pre,pQ pre/\Jx pre W')):=by
 refine callsIn_of_wp func194 rfl trivial ?_ rfl;simp only[ntmps194,aC9,aBB,aCa,aCb,aCc,aCd,aCe,aCf,aCg,aCh,aCi];have HE:=hid hE;have HZ:=hid hz;have hc0:=hBs.cell;clear hE hz
 gi_wp2
 gi_loopw [3] (fun i wr=>∃ (pre:List (Fin z)) (k:Nat),i=aA aB ((k:Int) - 1)/\k+pre.length=z/\Hid (pQ pre)/\J pre wr/\eH [Bs,g] W wr) (fun i wr=>(intOf i+1).toNat)
 case atStart=>exact⟨[],z,by go_num,by simp,hid (fun i x h=>(by simp at h)),h0,eH.rf _ _⟩
 case round=>
  obtain⟨pre,k,rfl,hk,HD,hJ,hK⟩:=hrel;have hBs':Boxed wr Bs 23 (aE (aC ⟨g,off,aD⟩) z cap):=(hK.same Bs (by simp) hBs.lt).trans hBs;have hcl:=hBs'.cell;clear hc0;cases k with
  | succ m=>
   rw[show (((m+1:Nat):Int) - 1)=(m:Int) by omega];have hmz:m < z:=by omega
   obtain⟨x,hx⟩:=bT (f:=b) (k:=m) (by rw[HZ.out];exact hmz);have hBC:=(HE.out m x hx).keep (hK.same g (by simp) hg);obtain⟨c0,c1,c2,c3,c4,c5,c6⟩:=hBC;have hlen:pre.length < z:=by omega
   have hxe:b.getD m default=x:=by rw[aC0,hx];rfl
   have HS:=hid (HD.out.snoc (x:=⟨m,hmz⟩) (by show m+pre.length+1=z;omega));obtain⟨fn,tmps,assign,body,hy,hR⟩:=hY pre ⟨m,hmz⟩ wr hJ hlen;dsimp only at hy;rw[hxe] at hy;have HX:=hid hx;clear hx hxe HD
   gi_wp2
   refine hR.mono ?_;rintro e W3 (⟨rfl,hJ3,hk3⟩ | ⟨rfl,hJx3⟩)
   ·have HK3:=hid (hK.tr hk3);clear hy hcl
    gi_wp2
    go_roundw
    case rel=>exact⟨pre++[⟨m,hmz⟩],m,by go_num,by simp;omega,HS,hJ3,HK3.out⟩
    case measure=>simp[intOf]
   ·clear hy hcl
    gi_wp2
    refine bodyPost_ret (results_none rfl _ _ _) rfl ?_;exact⟨⟨_,rfl⟩,.inr ⟨_,HS.out,hJx3⟩⟩
  | zero=>
   have HD':=HD;have hz0:pre.length=z:=by omega
   have hneg:((0:Nat):Int) - 1 < 0:=by omega
   gi_wp2
   go_end0
   exact⟨⟨_,rfl⟩,.inl ⟨_,⟨hz0,HD.out⟩,hJ⟩⟩
theorem Zn (n:Nat) (hn:1<=n) (Bs g off cap z:Nat) (b:List aT) (pv bv:Nat->Value) (hz:b.length=z) (h12:z<=12) (hzc:z<=cap) (w:World) (hBs:Boxed w Bs 23 (aE (aC ⟨g,off,aD⟩) z cap)) (hg:g < w.heap.size) (hE:∀ k x,b[k]?=aC x->kY w g (off+k*7) x (pv k) (bv k)) :
  SeqStopsK Fence.wide n prog 194 #[.pointer (aC ⟨Bs,0,aD⟩)] (fun x:Fin z=>#[Value.int .i64 (x.1:Int),yI (b.getD x.1 default) (pv x.1) (bv x.1)]) (eH [Bs,g]) (fun xs=>xs.length=z/\pQ xs) pQ z w:=
 fun y J Jx W hW _ _ hY h0=>Zp n hn y Bs g off cap z b pv bv hz h12 hzc J Jx hY W ((hW.block Bs hBs.lt).trans hBs) (aBA hg hW.size) (fun k x hk=>(hE k x hk).keep (hW.block g hg)) h0
theorem Mv (w:World) (a:Option Addr) (len cap:Nat) :
  Calls prog 175 #[aE a len cap] w fun e w'=>e=.returned (.func (.func 194) #[] #[.pointer (aC ⟨w.heap.size,0,aD⟩)])/\w'=w.alloc (.cells #[aE a len cap] 23):=by
 go_enter func175,ntmps175
 go_wp2_with fail
 go_ret;exact⟨rfl,rfl⟩
attribute [local go_sem] Oper.semAt_some
theorem Pe {w:World} {g off cap z:Nat} {b:List aT} (hb:bD w (aE (aC ⟨g,off,aD⟩) z cap) b) (hz:b.length=z) (h0:0 < z) :
  z<=cap/\g < w.heap.size/\∃ pv bv:Nat->Value,∀ k x,b[k]?=aC x->kY w g (off+k*7) x (pv k) (bv k)/\aU w (pv k) x.aP.aF/\bJ w (bv k) x.aO:=by
 rcases hb with ⟨rfl,_⟩ | ⟨b',off',cap',e,h1,h2,h3,⟨h4,_⟩,h5⟩
 ·simp at hz;omega
 ·cases e;refine⟨h1,h4,?_⟩;have H:∀ k,∃ p:Value × Value,∀ x,b[k]?=aC x->kY w g (off+k*7) x p.1 p.2/\aU w p.1 x.aP.aF/\bJ w p.2 x.aO:=fun k=>by
   cases hk:b[k]? with
   | none=>exact⟨(undef,undef),fun x hx=>by cases hx⟩
   | some x=>
    obtain⟨pv,biv,c0,c1,c2,c3,c4,c5,c6,hp,hbi⟩:=cZ (h5 k x hk);exact⟨(pv,biv),fun y hy=>by cases hy;exact⟨⟨c0,c1,c2,c3,c4,c5,c6⟩,hp,hbi⟩⟩
  obtain⟨f,hf⟩:=Classical.axiomOfChoice H;exact⟨fun k=>(f k).1,fun k=>(f k).2,hf⟩
theorem Vf (B Bx:Nat) (o:Obj) (ho:o.isCells=true):OwnFrom B (fun(_:Unit) W=>W.heap[Bx]?=aC o):=fun _ X Y row h hg hr=>
 (hg.block Bx (aBy.1 h).1 (fun e=>by obtain⟨_,o',ho',hc⟩:=hr Bx e.symm;rw[show X.heap[Bx]?=_ from h] at ho';cases ho';rw[ho] at hc;cases hc)).trans h
theorem aW {W W':World} {B:Nat} {o:Obj} (h:W.heap[B]?=aC o) (hx:Ext W W'):W'.heap[B]?=aC o:=(hx.block B (aBy.1 h).1).trans h
def Em {n:Nat} (pre:List (Fin n)):Int:=match pre.getLast? with | some x=>(x.1:Int) | none=>0
theorem El {n:Nat} (pre:List (Fin n)) (x:Fin n):Em (pre++[x])=(x.1:Int):=by simp[Em]
def Pw {n:Nat} (p:Nat->Bool) (pre:List (Fin n)):Prop:=∃ ys x,pre=ys++[x]/\(∀ y∈ys,p y.1=false)/\p x.1=true
theorem Oy {n:Nat} {p:Nat->Bool} {pre:List (Fin n)} (h:Pw p pre) (hd:pQ pre):Em pre=(mB p n:Int):=by
 obtain⟨ys,x,rfl,h1,h2⟩:=h;rw[El];have hx:=x.2;have e:=qK (p:=p) (n:=n) (m:=x.1+1) (by omega) (fun j hj hn=>by
  obtain⟨y,hy,rfl⟩:=hd.mem (j:=j) (by omega) hn;exact h1 y hy)
 rw[e];simp only[mB];rw[if_pos h2]
theorem Yn {n:Nat} {p:Nat->Bool} {xs:List (Fin n)} (h:∀ y∈xs,p y.1=false) (hd:pQ xs) (hl:xs.length=n):mB p n=0:=by
 have e:=qK (p:=p) (n:=n) (m:=0) (aBO _) (fun j _ hn=>by
  obtain⟨y,hy,rfl⟩:=hd.all hl hn;exact h y hy)
 rw[e];rfl
def Uk (n0 n4 X g off cap z t q:Nat) (xb:aT) (pv bv:Value) (k:Nat) (a':Act) (W:World):Prop:=
 ∃ Bx,W.heap[Bx]?=aC (.cells #[aA aB xb.Id,aA aB xb.aP.aG,aA aB xb.aP.aI,aA aB xb.aP.aH,aA aB xb.aP.aJ,pv,bv] 40 (0,0))/\
  a'={ tmps:=#[.pointer (aC ⟨X,0,aD⟩),aA aB (t:Int),aA aB (q:Int),.pointer (aC ⟨n0,0,aD⟩),.pointer (aC ⟨n0+1,0,aD⟩),.pointer (aC ⟨n0+1+1,0,aD⟩),.pointer (aC ⟨n0+1+1+1,0,aD⟩),aA aB (k:Int),.pointer (aC ⟨Bx,0,aD⟩),.pointer (aC ⟨X,0,aD⟩),.pointer (aC ⟨X,0,aD⟩),.pointer (aC ⟨X,3,aD⟩),aE (aC ⟨g,off,aD⟩) z cap,.func (.func 194) #[] #[.pointer (aC ⟨n4,0,aD⟩)],aA aB (k:Int),yI xb pv bv,undef,undef,undef,undef,undef,undef,undef,undef,undef,undef,undef,undef,undef,undef,undef,undef,undef],defers:=[]}
theorem Uk.own {n0 n4 X g off cap z t q:Nat} {xb:aT} {pv bv:Value} {k:Nat} {a':Act} {B:Nat}:OwnFrom B (fun(_:Unit) W=>Uk n0 n4 X g off cap z t q xb pv bv k a' W):=by
 rintro s A A' row ⟨Bx,h1,h2⟩ hg hr;exact⟨Bx,Vf B Bx _ rfl s A A' row h1 hg hr,h2⟩
theorem Qh (w:World) (X g off cap z:Nat) (u:Value) (l:List Queue) (b:List aT) (c nx:Int) (t q:Nat) (hX:w.heap[X]?=aC (.cells #[aA aB c,aA aB nx,u,aE (aC ⟨g,off,aD⟩) z cap] 25 (0,0)))
  (hl:aX w u l) (hb:bD w (aE (aC ⟨g,off,aD⟩) z cap) b) (hz:b.length=z) (h0:0 < z) (ok:fB l) (hok:∀ x∈b,cB l x) (h12:z<=12) (ht:t < 48) :
  Calls prog 143 #[.pointer (aC ⟨X,0,aD⟩),aA aB (t:Int),aA aB (q:Int)] w fun e w'=>e=.returned (aA aB (oJ l b t q:Int))/\Ext w w':=by
 obtain⟨hzc,hgw,pv,bv,hP⟩:=Pe hb hz h0;obtain⟨ua,uc,rfl,_⟩:=hl.form;refine(callsIn_wide (n:=3)).1 ?_;refine callsIn_of_wp_marks func143 rfl trivial ?_ rfl;simp only[ntmps143,aC9,aBB,aCa,aCb,aCc,aCd,aCe,aCf,aCg,aCh,aCi];obtain⟨w4,hw4⟩:∃ w4,(((w.alloc (.cells #[.pointer (aC ⟨X,0,aD⟩)] 128)).alloc (.cells #[aA aB (t:Int)] 3)).alloc (.cells #[aA aB (q:Int)] 3)).alloc (.cells #[aA aB 0] 3)=w4:=⟨_,rfl⟩;have hx4:Ext w w4:=by rw[<- hw4];exact((((Ext.rf w).al _).al _).al _).al _
 have hs4:w4.heap.size=w.heap.size+1+1+1+1:=by rw[<- hw4];simp
 have b0:Boxed w4 w.heap.size 128 (.pointer (aC ⟨X,0,aD⟩)):=by rw[<- hw4];exact(((Boxed.new w _ _).alloc _).alloc _).alloc _
 have b1:Boxed w4 (w.heap.size+1) 3 (aA aB (t:Int)):=by
  rw[<- hw4];have:=((Boxed.new (w.alloc (.cells #[.pointer (aC ⟨X,0,aD⟩)] 128)) 3 (aA aB (t:Int))).alloc (.cells #[aA aB (q:Int)] 3)).alloc (.cells #[aA aB 0] 3);rwa [aCl] at this
 have b2:Boxed w4 (w.heap.size+1+1) 3 (aA aB (q:Int)):=by
  rw[<- hw4];have:=(Boxed.new ((w.alloc (.cells #[.pointer (aC ⟨X,0,aD⟩)] 128)).alloc (.cells #[aA aB (t:Int)] 3)) 3 (aA aB (q:Int))).alloc (.cells #[aA aB 0] 3);rwa [aCl,aCl] at this
 have b3:Boxed w4 (w.heap.size+1+1+1) 3 (aA aB 0):=by
  rw[<- hw4];have:=Boxed.new (((w.alloc (.cells #[.pointer (aC ⟨X,0,aD⟩)] 128)).alloc (.cells #[aA aB (t:Int)] 3)).alloc (.cells #[aA aB (q:Int)] 3)) 3 (aA aB 0);rwa [aCl,aCl,aCl] at this
 have hXl:=(aBy.1 hX).1;have HXw:=hid hX;have a3:w4.cell? ⟨X,3,aD⟩=aC (aE (aC ⟨g,off,aD⟩) z cap):=hx4.ce' (cell_of_row w X 3 _ _ _ hX);have h5b:Boxed (w4.alloc (.cells #[aE (aC ⟨g,off,aD⟩) z cap] 23)) w4.heap.size 23 (aE (aC ⟨g,off,aD⟩) z cap):=Boxed.new w4 _ _;have hx5:=hx4.al (.cells #[aE (aC ⟨g,off,aD⟩) z cap] 23);have B0:=hid (b0.alloc (.cells #[aE (aC ⟨g,off,aD⟩) z cap] 23));have B1:=hid (b1.alloc (.cells #[aE (aC ⟨g,off,aD⟩) z cap] 23));have B2:=hid (b2.alloc (.cells #[aE (aC ⟨g,off,aD⟩) z cap] 23));have B3:=hid (b3.alloc (.cells #[aE (aC ⟨g,off,aD⟩) z cap] 23));have HBW:=hid (fun(W:World)=>Mv W (aC ⟨g,off,aD⟩) z cap);have HSEQ:=hid (Zn 2 (by omega) w4.heap.size g off cap z b pv bv hz h12 hzc (w4.alloc (.cells #[aE (aC ⟨g,off,aD⟩) z cap] 23)) h5b (aBA hgw hx5.size) (fun k x hk=>((hP k x hk).1).keep (hx5.block g hgw)));rw[<- hw4] at a3;have HW4:=hid hw4;have HS4:=hid hs4;have HX5:=hid hx5;have HL:=hid hl;have HP:=hid hP;have HZ:=hid hz;have HOK:=hid hok;have HG:=hid hgw;clear b1 b2 b3 hw4 hs4 hx5 hx4 h5b hX hl hb hP hz hok hgw b0
 gi_wp2
 refine⟨trivial,(callsIn_wide.2 (HBW.out _)).mono ?_⟩;rintro e w' ⟨rfl,rfl⟩;rw[HW4.out]
 gi_wp2
 refine wpIn_rangeFunc_ownH rfl (by omega) (gf:=194) (lb:=#[.pointer (aC ⟨w4.heap.size,0,aD⟩)]) rfl trivial (enters_of func194 (by kernel_rfl) rfl)
  HSEQ.out (fun h k=>h.tr k) (eH.put (by have:=HX5.out.size;have:=HG.out;intro j hj;simp only[aC8,aCj,or_false] at hj;simp only[aCl];have:=HS4.out;omega)) (Below.refl _ _) (fun _=>rfl)
  (fun pre W=>(∀ y∈pre,Ey l b t q y.1=false)/\(Boxed W w.heap.size 128 (.pointer (aC ⟨X,0,aD⟩))/\Boxed W (w.heap.size+1) 3 (aA aB (t:Int))/\Boxed W (w.heap.size+1+1) 3 (aA aB (q:Int))/\Boxed W (w.heap.size+1+1+1) 3 (aA aB 0))/\Below w.heap.size w W)
  (fun c pre W=>(c=.ret/\Pw (Ey l b t q) pre)/\Boxed W (w.heap.size+1+1+1) 3 (aA aB (Em pre))/\Below w.heap.size w W)
  (OwnFrom.and (ownFrom_pure _ _) (OwnFrom.and (OwnFrom.and (Own.from (boxed_own _ _ _) _) (OwnFrom.and (Own.from (boxed_own _ _ _) _) (OwnFrom.and (Own.from (boxed_own _ _ _) _) (Own.from (boxed_own _ _ _) _)))) (ownFrom_below (aBq _) (by have:=HS4.out;simp only[aCl];omega))))
  (fun c=>OwnFrom.and (ownFrom_pure _ _) (OwnFrom.and (Own.from (boxed_own _ _ (fun pre=>aA aB (Em pre))) _) (ownFrom_below (aBq _) (by have:=HS4.out;simp only[aCl];omega))))
  ⟨(fun y hy=>by cases hy),⟨B0.out,B1.out,B2.out,B3.out⟩,HX5.out⟩
  (fun(x:Fin z) a' W=>Uk w.heap.size w4.heap.size X g off cap z t q (b.getD x.1 default) (pv x.1) (bv x.1) x.1 a' W) (fun x a'=>Uk.own)
  ?assign ?body ?done ?stop
 case assign=>
  rintro y pre x W K ⟨hi1,⟨h0,h1,h2,h3⟩,hB⟩ hK;have HK:=hid hK;clear hK;obtain⟨xb,hxb⟩:=bT (f:=b) (k:=x.1) (by rw[HZ.out];exact x.2);obtain⟨_,hpx,hbx⟩:=HP.out x.1 xb hxb;obtain⟨pa,pc,hpf,_⟩:=hpx.form;obtain⟨ba,bc,hbf,_⟩:=hbx.form;clear hxb hpx hbx;generalize b.getD x.1 default=xd at *;generalize pv x.1=pvx at *;generalize bv x.1=bvx at *;subst hpf hbf;generalize xb.aP.aF.length=pn at *;generalize xb.aO.length=bn at *
  gi_wp2
  exact HK.out _ _ (KeepsFrom.ext ((Ext.rf W).al _)) (eH.ext ((Ext.rf W).al _)) ⟨hi1,⟨h0.alloc _,h1.alloc _,h2.alloc _,h3.alloc _⟩,hB.alloc hB.size _⟩ ⟨W.heap.size,World.alloc_heap_new W _,rfl⟩
 case body=>
  rintro y pre x a' W0 hly ⟨rr,hrr⟩ ⟨hi1,⟨h0,h1,h2,h3⟩,hB⟩ ⟨Bx,hbx,rfl⟩ hlen;obtain⟨xb,hxb⟩:=bT (f:=b) (k:=x.1) (by rw[HZ.out];exact x.2);have hxe:b.getD x.1 default=xb:=by rw[aC0,hxb];rfl
  rw[hxe] at hbx ⊢;obtain⟨_,hpx,hbtx⟩:=HP.out x.1 xb hxb;have hXB:=(hB.block X hXl).trans HXw.out;have hbk:=HOK.out xb (aBJ hxb);have hhit:Ey l b t q x.1=(under l xb.aP.aG (q:Int) && decide (0 < dO xb t)):=uP hxb;have HHIT:=hid hhit;refine wpIn_block ?_;refine wpIn_seq_k (fun K0 hK0=>?_);refine qC (S:=fun V=>Ext W0.drew V) K0 (by kernel_rfl) (by kernel_rfl) (fun a' w' h=>h) ?_;have HK0:=hid hK0;clear hK0;have HxW:=hid (Ext.dr (Ext.rf W0));have k0:=HxW.out.ce' h0.cell;have k1:=HxW.out.ce' h1.cell;have k2:=HxW.out.ce' h2.cell;have k3:W0.drew.cell? ⟨X,2,aD⟩=aC (aE ua l.length uc):=HxW.out.ce' (cell_of_row W0 X 2 _ _ _ hXB);obtain⟨q0,q1,q2,q3,q4,q5,q6,_⟩:=dX hbx;replace q0:=HxW.out.ce' q0;replace q1:=HxW.out.ce' q1;replace q2:=HxW.out.ce' q2;replace q3:=HxW.out.ce' q3;replace q4:=HxW.out.ce' q4;replace q5:=HxW.out.ce' q5;replace q6:=HxW.out.ce' q6;have hxw:Ext w W0.drew:=(show Ext w W0 from hB).tr HxW.out;have BN:=hid (fun(V:World) (h:Ext W0.drew V)=>Qb V (aE ua l.length uc) l xb.aP.aG (q:Int) (HL.out.mono (hxw.tr h)) ok.pars ok.n5 hbk.q0 hbk.q1);have ON:=hid (fun(V:World) (h:Ext W0.drew V)=>Uq V (pv x.1) (bv x.1) xb (hpx.mono (hxw.tr h)) (hbtx.mono (hxw.tr h)) hbk.req (fun k hk=>(hbk.bites k hk).1) hbk.many.2 (fun k hk=>(hbk.bites k hk).2));have AT:=hid (fun(V:World) (v:Value) (hv:bC V v (bN (dO xb)))=>aAr V v (dO xb) t ht hv);obtain⟨pa,pc,hpf,_⟩:=hpx.form;obtain⟨ba,bc,hbf,_⟩:=hbtx.form;have HB0:=hid hB;have H3:=hid h3;have HB4:=hid (And.intro h0 (And.intro h1 h2));have HNE:=hid hi1;have HS:=hid (Ext.rf W0.drew);have HNN:Hid (dO xb t=dO xb t):=hid rfl;have hge:=(qV hbk t).1;rw[hpf,hbf] at *;clear hxe hxb hpx hbtx hXB hbk hhit hrr hbx hB h0 h1 h2 h3 hi1 hlen hpf hbf hxw;generalize xb.aP.aF.length=pn at *;generalize xb.aO.length=bn at *;generalize W0.drew=W at *;refine tkU 0 (v:=?_) (hQ:=fun _ _ _ h=>by cases h.1) HS.out ?_ ?_;rotate_left
  ·intro V hSw;have l0:=hSw.ce' k0;have l1:=hSw.ce' k1;have l2:=hSw.ce' k2;have l3:=hSw.ce' k3;have l4:=hSw.ce' q0;have l5:=hSw.ce' q1;have l6:=hSw.ce' q2;have l7:=hSw.ce' q3;have l8:=hSw.ce' q4;have l9:=hSw.ce' q5;have l10:=hSw.ce' q6;go_simp;with_reducible rfl
  try simp only[Act.put,zD,zE,zF,zA,zC,zB]
  refine tkU 1 (v:=?_) (hQ:=fun _ _ _ h=>by cases h.1) HS.out ?_ ?_;rotate_left
  ·intro V hSw;have l0:=hSw.ce' k0;have l1:=hSw.ce' k1;have l2:=hSw.ce' k2;have l3:=hSw.ce' k3;have l4:=hSw.ce' q0;have l5:=hSw.ce' q1;have l6:=hSw.ce' q2;have l7:=hSw.ce' q3;have l8:=hSw.ce' q4;have l9:=hSw.ce' q5;have l10:=hSw.ce' q6;go_simp;with_reducible rfl
  try simp only[Act.put,zD,zE,zF,zA,zC,zB]
  refine tkU 2 (v:=?_) (hQ:=fun _ _ _ h=>by cases h.1) HS.out ?_ ?_;rotate_left
  ·intro V hSw;have l0:=hSw.ce' k0;have l1:=hSw.ce' k1;have l2:=hSw.ce' k2;have l3:=hSw.ce' k3;have l4:=hSw.ce' q0;have l5:=hSw.ce' q1;have l6:=hSw.ce' q2;have l7:=hSw.ce' q3;have l8:=hSw.ce' q4;have l9:=hSw.ce' q5;have l10:=hSw.ce' q6;go_simp;with_reducible rfl
  try simp only[Act.put,zD,zE,zF,zA,zC,zB]
  refine tkU 3 (v:=?_) (hQ:=fun _ _ _ h=>by cases h.1) HS.out ?_ ?_;rotate_left
  ·intro V hSw;have l0:=hSw.ce' k0;have l1:=hSw.ce' k1;have l2:=hSw.ce' k2;have l3:=hSw.ce' k3;have l4:=hSw.ce' q0;have l5:=hSw.ce' q1;have l6:=hSw.ce' q2;have l7:=hSw.ce' q3;have l8:=hSw.ce' q4;have l9:=hSw.ce' q5;have l10:=hSw.ce' q6;go_simp;with_reducible rfl
  try simp only[Act.put,zD,zE,zF,zA,zC,zB]
  refine tkU 4 (v:=?_) (hQ:=fun _ _ _ h=>by cases h.1) HS.out ?_ ?_;rotate_left
  ·intro V hSw;have l0:=hSw.ce' k0;have l1:=hSw.ce' k1;have l2:=hSw.ce' k2;have l3:=hSw.ce' k3;have l4:=hSw.ce' q0;have l5:=hSw.ce' q1;have l6:=hSw.ce' q2;have l7:=hSw.ce' q3;have l8:=hSw.ce' q4;have l9:=hSw.ce' q5;have l10:=hSw.ce' q6;go_simp;with_reducible rfl
  try simp only[Act.put,zD,zE,zF,zA,zC,zB]
  refine tkU 5 (v:=?_) (hQ:=fun _ _ _ h=>by cases h.1) HS.out ?_ ?_;rotate_left
  ·intro V hSw;have l0:=hSw.ce' k0;have l1:=hSw.ce' k1;have l2:=hSw.ce' k2;have l3:=hSw.ce' k3;have l4:=hSw.ce' q0;have l5:=hSw.ce' q1;have l6:=hSw.ce' q2;have l7:=hSw.ce' q3;have l8:=hSw.ce' q4;have l9:=hSw.ce' q5;have l10:=hSw.ce' q6;go_simp;with_reducible rfl
  try simp only[Act.put,zD,zE,zF,zA,zC,zB]
  refine tkU 6 (v:=?_) (hQ:=fun _ _ _ h=>by cases h.1) HS.out ?_ ?_;rotate_left
  ·intro V hSw;have l0:=hSw.ce' k0;have l1:=hSw.ce' k1;have l2:=hSw.ce' k2;have l3:=hSw.ce' k3;have l4:=hSw.ce' q0;have l5:=hSw.ce' q1;have l6:=hSw.ce' q2;have l7:=hSw.ce' q3;have l8:=hSw.ce' q4;have l9:=hSw.ce' q5;have l10:=hSw.ce' q6;go_simp;with_reducible rfl
  try simp only[Act.put,zD,zE,zF,zA,zC,zB]
  refine tkU 7 (v:=?_) (hQ:=fun _ _ _ h=>by cases h.1) HS.out ?_ ?_;rotate_left
  ·intro V hSw;have l0:=hSw.ce' k0;have l1:=hSw.ce' k1;have l2:=hSw.ce' k2;have l3:=hSw.ce' k3;have l4:=hSw.ce' q0;have l5:=hSw.ce' q1;have l6:=hSw.ce' q2;have l7:=hSw.ce' q3;have l8:=hSw.ce' q4;have l9:=hSw.ce' q5;have l10:=hSw.ce' q6;go_simp;with_reducible rfl
  try simp only[Act.put,zD,zE,zF,zA,zC,zB]
  refine wpAnyH_ready (rs:=[8]) (by kernel_rfl) (by simp) ?_;refine AllReadyH.cons rfl (fun K hK=>?_) AllReadyH.nil;go_simp;refine(BN.out _ HS.out).mono ?_;rintro e V ⟨rfl,hv⟩;refine hK.out _ _ hv (fun _=>?_);clear hK K
  try simp only[Act.put,zD,zE,zF,zA,zC,zB]
  clear HS;have HS:=hid hv;cases hu:under l xb.aP.aG (q:Int) with
  | false=>
   rw[hu] at HHIT;refine tkU 9 (v:=?_) (hQ:=fun _ _ _ h=>by cases h.1) HS.out ?_ ?_;rotate_left
   ·intro V hSw;have l0:=hSw.ce' k0;go_simp;with_reducible rfl
   try simp only[Act.put,zD,zE,zF,zA,zC,zB]
   refine wpAnyH_take (i:=10) (oi:=_) (v:=undef) rfl (by kernel_rfl) (by kernel_rfl) (by kernel_rfl) (fun _ _ _ h=>(by cases h.1)) (Or.inr ⟨by kernel_rfl,rfl⟩) HS.out ?_
   try simp only[Act.put,zD,zE,zF,zA,zC,zB]
   refine wpAnyH_take (i:=11) (oi:=_) (v:=undef) rfl (by kernel_rfl) (by kernel_rfl) (by kernel_rfl) (fun _ _ _ h=>(by cases h.1)) (Or.inr ⟨by kernel_rfl,rfl⟩) HS.out ?_
   try simp only[Act.put,zD,zE,zF,zA,zC,zB]
   refine wpAnyH_take (i:=12) (oi:=_) (v:=undef) rfl (by kernel_rfl) (by kernel_rfl) (by kernel_rfl) (fun _ _ _ h=>(by cases h.1)) (Or.inr ⟨by kernel_rfl,rfl⟩) HS.out ?_
   try simp only[Act.put,zD,zE,zF,zA,zC,zB]
   refine wpAnyH_take (i:=13) (oi:=_) (v:=undef) rfl (by kernel_rfl) (by kernel_rfl) (by kernel_rfl) (fun _ _ _ h=>(by cases h.1)) (Or.inr ⟨by kernel_rfl,rfl⟩) HS.out ?_
   try simp only[Act.put,zD,zE,zF,zA,zC,zB]
   refine wpAnyH_take (i:=14) (oi:=_) (v:=undef) rfl (by kernel_rfl) (by kernel_rfl) (by kernel_rfl) (fun _ _ _ h=>(by cases h.1)) (Or.inr ⟨by kernel_rfl,rfl⟩) HS.out ?_
   try simp only[Act.put,zD,zE,zF,zA,zC,zB]
   refine tkU 15 (v:=?_) (hQ:=fun _ _ _ h=>by cases h.1) HS.out ?_ ?_;rotate_left
   ·intro V hSw;have l0:=hSw.ce' k0;go_simp;with_reducible rfl
   try simp only[Act.put,zD,zE,zF,zA,zC,zB]
   refine wpAnyH_done (by kernel_rfl) ⟨rfl,HK0.out _ _ ?_⟩ _;clear HK0 K0;have HV:=hid (HxW.out.tr hv);clear k0 k1 k2 k3 q0 q1 q2 q3 q4 q5 q6 hv
   gi_wp2
   refine⟨KeepsFrom.ext HV.out,eH.ext HV.out,fun y hy=>?_,⟨aW HB4.out.1 HV.out,aW HB4.out.2.1 HV.out,aW HB4.out.2.2 HV.out,aW H3.out HV.out⟩,(show Ext w W0 from HB0.out).tr HV.out⟩;rcases aBm.1 hy with h | h
   ·exact HNE.out y h
   ·rw[aCB.1 h,HHIT.out];rfl
  | true=>
   rw[hu,Bool.true_and] at HHIT;refine tkU 9 (v:=?_) (hQ:=fun _ _ _ h=>by cases h.1) HS.out ?_ ?_;rotate_left
   ·intro V hSw;have l0:=hSw.ce' k0;go_simp;with_reducible rfl
   try simp only[Act.put,zD,zE,zF,zA,zC,zB]
   refine tkU 10 (v:=?_) (hQ:=fun _ _ _ h=>by cases h.1) HS.out ?_ ?_;rotate_left
   ·intro V hSw;have l0:=hSw.ce' k0;have l1:=hSw.ce' k1;have l2:=hSw.ce' k2;have l3:=hSw.ce' k3;have l4:=hSw.ce' q0;have l5:=hSw.ce' q1;have l6:=hSw.ce' q2;have l7:=hSw.ce' q3;have l8:=hSw.ce' q4;have l9:=hSw.ce' q5;have l10:=hSw.ce' q6;go_simp;with_reducible rfl
   try simp only[Act.put,zD,zE,zF,zA,zC,zB]
   refine tkU 12 (v:=?_) (hQ:=fun _ _ _ h=>by cases h.1) HS.out ?_ ?_;rotate_left
   ·intro V hSw;have l0:=hSw.ce' k0;have l1:=hSw.ce' k1;have l2:=hSw.ce' k2;have l3:=hSw.ce' k3;have l4:=hSw.ce' q0;have l5:=hSw.ce' q1;have l6:=hSw.ce' q2;have l7:=hSw.ce' q3;have l8:=hSw.ce' q4;have l9:=hSw.ce' q5;have l10:=hSw.ce' q6;go_simp;with_reducible rfl
   try simp only[Act.put,zD,zE,zF,zA,zC,zB]
   refine wpAnyH_ready (rs:=[11]) (by kernel_rfl) (by simp) ?_;refine AllReadyH.cons rfl (fun K hK=>?_) AllReadyH.nil;go_simp;refine(ON.out _ HS.out).mono ?_;rintro e V2 ⟨vf,rfl,hvf,hv2⟩;refine hK.out _ _ (hv.tr hv2) (fun _=>?_);clear hK K
   try simp only[Act.put,zD,zE,zF,zA,zC,zB]
   clear HS;have HS:=hid (hv.tr hv2);obtain⟨fa,fc,rfl,_⟩:=hvf.form;have AT1:=hid (AT.out _ _ hvf);clear hv hv2 hvf;generalize (bN (dO xb)).length=fn at *;refine wpAnyH_ready (rs:=[13]) (by kernel_rfl) (by simp) ?_;refine AllReadyH.cons rfl (fun K hK=>?_) AllReadyH.nil;go_simp;refine AT1.out.mono ?_;rintro e V3 ⟨rfl,hv3⟩;refine hK.out _ _ (HS.out.tr hv3) (fun _=>?_);clear hK K
   try simp only[Act.put,zD,zE,zF,zA,zC,zB]
   have HS3:=hid (HS.out.tr hv3);clear HS hv3;have HS:=HS3;have HV:=hid (HxW.out.tr HS3.out);clear HS3;by_cases hpos:0 < dO xb t
   ·rw[deT hpos] at HHIT;refine tkU 14 (v:=?_) (hQ:=fun _ _ _ h=>by cases h.1) HS.out ?_ ?_;rotate_left
    ·intro V hSw;have l0:=hSw.ce' k0;go_simp;with_reducible rfl
    try simp only[Act.put,zD,zE,zF,zA,zC,zB]
    refine tkU 15 (v:=?_) (hQ:=fun _ _ _ h=>by cases h.1) HS.out ?_ ?_;rotate_left
    ·intro V hSw;have l0:=hSw.ce' k0;go_simp;with_reducible rfl
    try simp only[Act.put,zD,zE,zF,zA,zC,zB]
    refine wpAnyH_done (by kernel_rfl) ⟨rfl,HK0.out _ _ ?_⟩ _;clear HK0 K0;have H3V:Boxed _ (w.heap.size+1+1+1) 3 (aA aB 0):=aW H3.out HV.out;have k6:=H3V.cell;have f6:=H3V.frozen;have HE:=hid (And.intro ((KeepsFrom.ext (B:=w4.heap.size+1) HV.out).trans (KeepsFrom.se _ (w.heap.size+1+1+1) (aA aB (x.1:Int)))) (And.intro (H3V.set (aA aB (x.1:Int))) (((show Ext w W0 from HB0.out).tr HV.out).se (b:=w.heap.size+1+1+1) (o:=0) (by omega) (aA aB (x.1:Int)))));clear k0 k1 k2 k3 q0 q1 q2 q3 q4 q5 q6 H3V
    gi_wp2
    refine⟨HE.out.1,⟨rfl,pre,x,rfl,HNE.out,HHIT.out⟩,?_,HE.out.2.2⟩;rw[El];exact HE.out.2.1
   ·have hpos':dO xb t=0:=by omega
    rw[deF hpos] at HHIT;refine tkU 14 (v:=?_) (hQ:=fun _ _ _ h=>by cases h.1) HS.out ?_ ?_;rotate_left
    ·intro V hSw;have l0:=hSw.ce' k0;go_simp;with_reducible rfl
    try simp only[Act.put,zD,zE,zF,zA,zC,zB]
    refine tkU 15 (v:=?_) (hQ:=fun _ _ _ h=>by cases h.1) HS.out ?_ ?_;rotate_left
    ·intro V hSw;have l0:=hSw.ce' k0;go_simp;with_reducible rfl
    try simp only[Act.put,zD,zE,zF,zA,zC,zB]
    refine wpAnyH_done (by kernel_rfl) ⟨rfl,HK0.out _ _ ?_⟩ _;clear HK0 K0;clear k0 k1 k2 k3 q0 q1 q2 q3 q4 q5 q6
    gi_wp2
    refine⟨KeepsFrom.ext HV.out,eH.ext HV.out,fun y hy=>?_,⟨aW HB4.out.1 HV.out,aW HB4.out.2.1 HV.out,aW HB4.out.2.2 HV.out,aW H3.out HV.out⟩,(show Ext w W0 from HB0.out).tr HV.out⟩;rcases aBm.1 hy with h | h
    ·exact HNE.out y h
    ·rw[aCB.1 h];exact HHIT.out
 case done=>
  rintro D ys W hD ⟨hlen,hdn⟩ ⟨hne,⟨_,_,_,h3⟩,hB⟩ hK;have hcr:=h3.cell;have hfr:=h3.frozen;have Hno:=hid (show oJ l b t q=0 from by unfold oJ;rw[HZ.out];exact Yn hne hdn hlen);have hK':=(KeepsOthers.setCell W ⟨w.heap.size+1+1+1,0,aD⟩ (aA aB 0)).same D _ hK rfl;have hc5:=cell_kept ((h3.set (aA aB 0)).cell) (grownBy_putObj' _ D (.deferred aD)) (fun r e=>by cases e;exact⟨_,hK',rfl⟩);have Hend:=hid ((hB.setCell (p:=⟨w.heap.size+1+1+1,0,aD⟩) (by show w.heap.size<=w.heap.size+1+1+1;omega) (aA aB 0)).trans (belowK_b (w:=w) (aBq _) _ D _ (.deferred aD) (by simp at hD;have:=HS4.out;omega) hK' rfl rfl));clear hne hdn
  gi_wp2
  refine⟨by simp,.inl ⟨_,_,rfl,run_takeDeferred hK',?_⟩⟩;refine⟨aA aB 0,?_,by rw[Hno.out];rfl,Hend.out⟩;simp[results,f143,go_sem,hc5]
 case stop=>
  rintro D c pre W hD hpre ⟨⟨rfl,hfh⟩,h3,hB⟩ hK;have Hyes:=hid (show Em pre=(oJ l b t q:Int) from by unfold oJ;rw[HZ.out];exact Oy hfh hpre);have hc5:=cell_kept h3.cell (grownBy_putObj' _ D (.deferred aD)) (fun r e=>by cases e;exact⟨_,hK,rfl⟩);have Hend:=hid (hB.trans (belowK_b (w:=w) (aBq _) _ D _ (.deferred aD) (by simp at hD;have:=HS4.out;omega) hK rfl rfl));clear hpre hfh
  gi_wp2
  refine⟨by simp,.inl ⟨_,_,rfl,run_takeDeferred hK,?_⟩⟩;refine⟨aA aB (Em pre),?_,by rw[Hyes.out],Hend.out⟩;simp[results,f143,go_sem,hc5]
open Go.RowKit Go.Shelf Go.Lib
def Tryz.sortBooks_ren:Go.Shelf.Ren:=⟨fun| 6=>140 | 15=>173 | 14=>172 | 28=>192 | 29=>193 | 20=>184 | 21=>185 | 22=>186 | 23=>187 | 24=>188 | 25=>189 | 26=>190 | 27=>191 | 46=>199 | 47=>200 | 48=>201 | 49=>202 | 50=>203 | 57=>205 | n=>n,fun| 22=>23 | 24=>40 | 25=>179 | 3=>3 | 39=>207 | 0=>0 | 53=>224 | 55=>226 | 4=>4 | 46=>218 | 45=>217 | 50=>143 | 5=>5 | 9=>9 | 66=>231 | 70=>150 | 76=>237 | 77=>238 | n=>n,fun| n=>n⟩
theorem Tryz.sortBooks:Go.Proofs.SlLaysF0.n6 prog Tryz.sortBooks_ren:={
 mixed:=by kernel_rfl
 f6:=⟨f140.name,by decide,func140.trans (congrArg aC (by kernel_rfl))⟩
 f14:=⟨f172.name,by decide,func172.trans (congrArg aC (by kernel_rfl))⟩
 f15:=func173.trans (congrArg aC (by kernel_rfl))
 f20:=⟨f184.name,by decide,func184.trans (congrArg aC (by kernel_rfl))⟩
 f21:=⟨f185.name,by decide,func185.trans (congrArg aC (by kernel_rfl))⟩
 f22:=⟨f186.name,by decide,func186.trans (congrArg aC (by kernel_rfl))⟩
 f23:=⟨f187.name,by decide,func187.trans (congrArg aC (by kernel_rfl))⟩
 f24:=⟨f188.name,by decide,func188.trans (congrArg aC (by kernel_rfl))⟩
 f25:=⟨f189.name,by decide,func189.trans (congrArg aC (by kernel_rfl))⟩
 f26:=⟨f190.name,by decide,func190.trans (congrArg aC (by kernel_rfl))⟩
 f27:=⟨f191.name,by decide,func191.trans (congrArg aC (by kernel_rfl))⟩
 f28:=func192.trans (congrArg aC (by kernel_rfl))
 f29:=func193.trans (congrArg aC (by kernel_rfl))
 f46:=⟨f199.name,by decide,func199.trans (congrArg aC (by kernel_rfl))⟩
 f47:=func200.trans (congrArg aC (by kernel_rfl))
 f48:=func201.trans (congrArg aC (by kernel_rfl))
 f49:=⟨f202.name,by decide,func202.trans (congrArg aC (by kernel_rfl))⟩
 f50:=⟨f203.name,by decide,func203.trans (congrArg aC (by kernel_rfl))⟩
 f57:=⟨f205.name,by decide,func205.trans (congrArg aC (by kernel_rfl))⟩
 t0:=underlying0
 a0:=Tryz.isAgg0
 z0:=Tryz.sizeOf0
 v0:=Tryz.zeroValue0
 t3:=underlying3
 a3:=Tryz.isAgg3
 z3:=Tryz.sizeOf3
 v3:=Tryz.zeroValue3
 t4:=underlying4
 a4:=Tryz.isAgg4
 z4:=Tryz.sizeOf4
 v4:=Tryz.zeroValue4
 t5:=underlying5
 a5:=Tryz.isAgg5
 z5:=Tryz.sizeOf5
 v5:=Tryz.zeroValue5
 t9:=underlying9
 a9:=Tryz.isAgg9
 z9:=Tryz.sizeOf9
 v9:=Tryz.zeroValue9
 t22:=underlying23
 a22:=Tryz.isAgg23
 z22:=Tryz.sizeOf23
 v22:=Tryz.zeroValue23
 t25:=underlying179
 a25:=Tryz.isAgg179
 z25:=Tryz.sizeOf179
 v25:=Tryz.zeroValue179
 t39:=underlying207
 a39:=Tryz.isAgg207
 z39:=Tryz.sizeOf207
 v39:=Tryz.zeroValue207
 t45:=underlying217
 a45:=Tryz.isAgg217
 z45:=Tryz.sizeOf217
 v45:=Tryz.zeroValue217
 t46:=underlying218
 a46:=Tryz.isAgg218
 z46:=Tryz.sizeOf218
 v46:=Tryz.zeroValue218
 t50:=underlying143
 a50:=Tryz.isAgg143
 z50:=Tryz.sizeOf143
 v50:=Tryz.zeroValue143
 t53:=underlying224
 a53:=Tryz.isAgg224
 z53:=Tryz.sizeOf224
 v53:=Tryz.zeroValue224
 t55:=underlying226
 a55:=Tryz.isAgg226
 z55:=Tryz.sizeOf226
 v55:=Tryz.zeroValue226
 t66:=underlying231
 a66:=Tryz.isAgg231
 z66:=Tryz.sizeOf231
 v66:=Tryz.zeroValue231
 t70:=underlying150
 a70:=Tryz.isAgg150
 z70:=Tryz.sizeOf150
 v70:=Tryz.zeroValue150
 t76:=underlying237
 a76:=Tryz.isAgg237
 z76:=Tryz.sizeOf237
 v76:=Tryz.zeroValue237
 t77:=underlying238
 a77:=Tryz.isAgg238
 z77:=Tryz.sizeOf238
 v77:=Tryz.zeroValue238 }
def Tryz.cmpInts_ren:Go.Shelf.Ren:=⟨fun| 5=>142 | 7=>174 | n=>n,fun| 22=>3 | 3=>3 | 4=>4 | n=>n,fun| n=>n⟩
theorem Tryz.cmpInts:Go.Proofs.SlLaysC2.n5 prog Tryz.cmpInts_ren:={
 mixed:=by kernel_rfl
 f5:=⟨f142.name,by decide,func142.trans (congrArg aC (by kernel_rfl))⟩
 f7:=⟨f174.name,by decide,func174.trans (congrArg aC (by kernel_rfl))⟩
 t3:=underlying3
 a3:=Tryz.isAgg3
 z3:=Tryz.sizeOf3
 v3:=Tryz.zeroValue3
 t4:=underlying4
 a4:=Tryz.isAgg4
 z4:=Tryz.sizeOf4
 v4:=Tryz.zeroValue4
 t22:=underlying3
 a22:=Tryz.isAgg3
 z22:=Tryz.sizeOf3
 v22:=Tryz.zeroValue3 }
def Tryz.bitsLens_ren:Go.Shelf.Ren:=⟨fun| 125=>173 | 128=>192 | 129=>193 | n=>n,fun| 46=>207 | 3=>3 | 51=>224 | 53=>226 | 4=>4 | 5=>5 | 9=>9 | n=>n,fun| n=>n⟩
theorem Tryz.bitsLens:Go.Proofs.Lays.n125 prog Tryz.bitsLens_ren:={
 mixed:=by kernel_rfl
 f125:=func173.trans (congrArg aC (by kernel_rfl))
 f128:=func192.trans (congrArg aC (by kernel_rfl))
 f129:=func193.trans (congrArg aC (by kernel_rfl))
 t3:=underlying3
 a3:=Tryz.isAgg3
 z3:=Tryz.sizeOf3
 v3:=Tryz.zeroValue3
 t4:=underlying4
 a4:=Tryz.isAgg4
 z4:=Tryz.sizeOf4
 v4:=Tryz.zeroValue4
 t5:=underlying5
 a5:=Tryz.isAgg5
 z5:=Tryz.sizeOf5
 v5:=Tryz.zeroValue5
 t9:=underlying9
 a9:=Tryz.isAgg9
 z9:=Tryz.sizeOf9
 v9:=Tryz.zeroValue9
 t46:=underlying207
 a46:=Tryz.isAgg207
 z46:=Tryz.sizeOf207
 v46:=Tryz.zeroValue207
 t51:=underlying224
 a51:=Tryz.isAgg224
 z51:=Tryz.sizeOf224
 v51:=Tryz.zeroValue224
 t53:=underlying226
 a53:=Tryz.isAgg226
 z53:=Tryz.sizeOf226
 v53:=Tryz.zeroValue226 }
theorem Tryz.isAggBook:∀ w,(isAgg 40).run prog w=.ok true w:=fun w=>by kernel_rfl
theorem Tryz.sizeOfBook:∀ w,(Go.sizeOf 40).run prog w=.ok 7 w:=fun w=>by kernel_rfl
abbrev SlT:=Option Addr × Nat × Nat
abbrev BkT:=aT × SlT × SlT
instance:Inhabited BkT:=⟨⟨default,(aD,0,0),(aD,0,0)⟩⟩
def mA (p:BkT):List Value:=[aA aB p.1.Id,aA aB p.1.aP.aG,aA aB p.1.aP.aI,aA aB p.1.aP.aH,aA aB p.1.aP.aJ,aE p.2.1.1 p.2.1.2.1 p.2.1.2.2,aE p.2.2.1 p.2.2.2.1 p.2.2.2.2]
theorem Pb (p:BkT):(mA p).length=7:=rfl
theorem Zi (p:BkT):∀ v∈mA p,v.oneCell'=true:=fun v hv=>by
 simp only[mA,aC8,aCj,or_false] at hv;rcases hv with rfl | rfl | rfl | rfl | rfl | rfl | rfl <;> rfl
def Sb (p q:BkT):Int:=Lib.compareInt p.1.Id q.1.Id
theorem ltB (p q:BkT):ltOf Sb p q=decide (p.1.Id < q.1.Id):=by
 unfold ltOf Sb Lib.compareInt;by_cases h1:p.1.Id < q.1.Id
 ·simp[h1]
 ·by_cases h2:q.1.Id < p.1.Id <;> simp[h1,h2]
theorem swoB:Sort.SWO (ltOf Sb) where
 irrefl x:=by rw[ltB];simp
 trans x y z h1 h2:=by rw[ltB] at *;simp at *;omega
 ntrans x y z h1 h2:=by rw[ltB] at *;simp at *;omega
theorem Yv (p q:BkT) (W:World):Calls prog 141 #[.agg (mA p).toArray,.agg (mA q).toArray] W fun e w'=>e=.returned (aA aB (Sb p q))/\∃ m os',w'=Sort.grow (W.drewN m) os':=by
 have hcon:=fun W'=>AnyG.cmp_Compare_int Tryz.cmpInts p.1.Id q.1.Id W';change ∀ W',Calls prog 142 _ _ _ at hcon;unfold Sb;generalize Lib.compareInt p.1.Id q.1.Id=r at hcon ⊢;obtain⟨x,⟨a1,a2,a3⟩,⟨b1,b2,b3⟩⟩:=p;obtain⟨y,⟨c1,c2,c3⟩,⟨d1,d2,d3⟩⟩:=q;simp only[mA];go_enter func141,ntmps141
 go_wp2_with (go_at_call 142;refine(hcon _).mono ?_;rintro e w' ⟨rfl,rfl⟩)
 go_ret;exact⟨rfl,0,_,by rw[Sort.alloc_eq_grow,Sort.alloc_eq_grow,Sort.grow_grow];rfl⟩
theorem Yw (blk off size:Nat) (w:World):CmpLays prog 141 #[] mA 7 Sb blk off size w:=fun _ _ _ _ p q=>Yv p q _
theorem Bn (n:Nat) (W:World) (h:n<=12):Calls prog 173 #[.int .u64 n] W fun e w'=>(∃ l:Int,e=.returned (aA aB l))/\w'=W:=
 (Any.bits_Len Tryz.bitsLens n W (by omega) (by omega)).mono fun _ _ ⟨he,hw⟩=>⟨⟨_,he⟩,hw⟩
theorem Wv {w:World} {cs:List Value} {x:aT} (h:fE w cs x):∃ p:BkT,p.1=x/\mA p=cs:=by
 obtain⟨qs,bv,rfl,⟨pv,rfl,hp,_⟩,hb,_⟩:=h;obtain⟨pa,pc,rfl,_⟩:=hp.form;obtain⟨ba,bc,rfl,_⟩:=hb.form;exact⟨(x,(pa,_,pc),(ba,_,bc)),rfl,rfl⟩
theorem Bm {w:World}:∀ {css:List (List Value)} {b:List aT},fF w css b->∃ ps:List BkT,ps.map Prod.fst=b/\ps.map mA=css
 | [],b,h=>by
  have:=h.len;simp only[aCa] at this;exact⟨[],by rw[aBC this.symm];rfl,rfl⟩
 | cs::css,[],h=>by have:=h.len;simp at this
 | cs::css,x::b,h=>by
  obtain⟨p,h1,h2⟩:=Wv (h.each 0 cs x rfl rfl);obtain⟨ps,h3,h4⟩:=Bm (css:=css) (b:=b) ⟨by have:=h.len;simpa using this,fun k cs' x' hc hx=>h.each (k+1) cs' x' (by simpa using hc) (by simpa using hx)⟩;exact⟨p::ps,by rw[aCu,h1,h3],by rw[aCu,h2,h4]⟩
theorem Wq (ps:List BkT) {k j:Nat} (hk:k < ps.length) (hj:j < 7):(ps.map mA).flatten[k*7+j]?=aC (mA (ps.toArray[k]!))[j]!:=by
 rw[Bc (by omega) _ (fun cs hc=>by obtain⟨p,_,rfl⟩:=aCn.1 hc;rfl) k j hj];obtain⟨p,hp⟩:=bT hk;have e:ps.toArray[k]! = p:=by
  rw[Array.getElem!_eq_getD,Array.getD_eq_getD_getElem?,List.getElem?_toArray,hp];rfl
 rw[e,aCL,hp];show (mA p)[j]?=aC (mA p)[j]!;rw[List.getElem!_eq_getElem?_getD,aBu (by rw[Pb];exact hj)];rfl
theorem Kb (ps:List BkT):(Sort.flatK mA 7 ps.toArray).toList=(ps.map mA).flatten:=by
 refine aBU fun i=>?_;rcases aBK i (ps.length*7) with hi | hi
 ·have e:i=i / 7*7+i % 7:=by omega
  have h1:=Sort.get_flatK mA 7 ps.toArray i (by simpa using hi);have h2:=Wq ps (k:=i / 7) (j:=i % 7) (by omega) (Nat.mod_lt _ (by omega));rw[<- e] at h2;rw[h2,<- h1,aDs,getElem?_pos _ i (by rw[Sort.size_flatK];simpa using hi),getElem!_pos _ i (by rw[Sort.size_flatK];simpa using hi)]
 ·rw[aBZ,aBZ]
  ·rw[Ab (m:=7) _ (fun cs hc=>by obtain⟨p,_,rfl⟩:=aCn.1 hc;rfl),aCC];exact hi
  ·rw[aDa,Sort.size_flatK];simpa using hi
theorem Vb {enc:BkT->List Value} {W:World} {g m:Nat} {d:Array BkT} {os:Array Obj} {cur:Array Value} {T:TypeId} (h:W.heap[g]?=aC (.cells cur T (0,0))) :
  (sortWorldK enc 7 W g 0 m d os).heap[g]?=aC (.cells (Sort.putCells id 0 (Sort.flatK enc 7 d) cur) T (0,0))/\W.grownBy (sortWorldK enc 7 W g 0 m d os) (aC g):=by
 have hl:=(aBy.1 h).1;have e:(sortWorldK enc 7 W g 0 m d os).heap=W.heap.modify g (Sort.onCells (Sort.putCells id 0 (Sort.flatK enc 7 d)))++os:=rfl;constructor
 ·rw[e,aDt (by rw[aDu];exact hl),aDv,if_pos rfl,h];rfl
 ·refine⟨rfl,rfl,rfl,by rw[e,Array.size_append,aDu];omega,fun k hk hne=>?_⟩;rw[e,aDt (by rw[aDu];exact hk),aDv,if_neg (fun h=>hne (by rw[h]))]
theorem Hw {F cur:Array Value} (h:F.size<=cur.size):(Sort.putCells id 0 F cur).size=cur.size/\(Sort.putCells id 0 F cur).toList.take F.size=F.toList:=by
 have hs:(Sort.putCells id 0 F cur).size=cur.size:=by unfold Sort.putCells;simp
 refine⟨hs,aBU fun i=>?_⟩;rcases aBK i F.size with hi | hi
 ·rw[aCY hi,aDs,aDs];unfold Sort.putCells;rw[Array.getElem?_mapIdx,getElem?_pos cur i (by omega),getElem?_pos F i hi];simp only[Option.map_some,aBO,aBE,true_and,Nat.sub_zero,id];rw[if_pos hi,getElem!_pos F i hi]
 ·rw[aBZ (by rw[aCH];omega),aBZ (by rw[aDa];exact hi)]
theorem Xz (bs:List Nat) (base g n cap:Nat) (W:World) (a:List aT) (h:eP bs base W (aE (aC ⟨g,0,aD⟩) n cap) a) (hn:a.length=n) (h12:n<=12) (hd:a.Pairwise (fun x y=>x.Id≠y.Id)) :
  Calls prog 140 #[aE (aC ⟨g,0,aD⟩) n cap,.func (.func 141) #[] #[]] W fun e w'=>
   e=.returned (.tuple #[])/\eP bs base w' (aE (aC ⟨g,0,aD⟩) n cap) (iD a)/\W.grownBy w' (aC g):=by
 obtain⟨css,o1,o2,o3,o4⟩:=h;rw[hn] at o1;rcases o1.2 with ⟨hv,_⟩ | ⟨g',cap',cur,hv,hb,hcur,hnc,hcm,hcs,htk⟩
 ·cases hv
 cases hv;obtain⟨ps,e1,e2⟩:=Bm o2;have hpl:ps.length=n:=by rw[<- hn,<- e1,aCC]
 rw[<- e2,<- Kb] at htk;have hH:Sort.HoldsK mA 7 W g 0 ps.toArray:=by
  intro j hj;have hj7:j < n*7:=by rw[Sort.size_flatK] at hj;simpa[hpl] using hj
  refine⟨?_,frozen_of_row W g (0+j) _ _ hcur⟩;rw[cell_of_row W g (0+j) _ _ _ hcur,aBE];have h1:cur.toList[j]?=aC (Sort.flatK mA 7 ps.toArray)[j]!:=by
   rw[<- aCY (l:=cur.toList) hj7,htk,aDs,getElem?_pos _ j hj,getElem!_pos _ j hj]
  simpa using h1
 have hS:=AnyQ.slices_SortFunc_small_sorted Tryz.sortBooks 7 Tryz.isAggBook Tryz.sizeOfBook mA Pb Zi Sb 141 #[] swoB g 0 cap ps.toArray W (enters_of func141 (by kernel_rfl) rfl) (Yw _ _ _ _) hH (aBy.1 hcur).1 (by simp;omega) Bn;rw[aC9,hpl] at hS;refine Calls.mono hS ?_;rintro e w' ⟨rfl,d',m,os,⟨p1,p2,p3⟩,hs,rfl⟩;obtain⟨r1,r2⟩:=Vb (enc:=mA) (m:=m) (d:=d') (os:=os) hcur;refine⟨rfl,?_,r2⟩;have hdl:d'.size=n:=by rw[p1,aC9,hpl]
 have hperm:d'.toList.Perm ps:=by
  have e3:d'.extract 0 n=d':=by rw[<- hdl];exact aDw
  have e4:ps.toArray.extract 0 n=ps.toArray:=by rw[<- hpl,<- aC9];exact aDw
  rw[e3,e4] at p3;exact p3
 have hmp:(d'.toList.map Prod.fst).Perm a:=by have:=hperm.map Prod.fst;rwa [e1] at this
 have hdd:(d'.toList.map Prod.fst).Pairwise (fun x y:aT=>x.Id≠y.Id):=(aDl.pairwise_iff (fun h e=>h e.symm) hmp).2 hd;have hris:nS (d'.toList.map Prod.fst):=by
  rw[aDx] at hdd;refine aDx.2 ?_;intro i j hi hj hij;have h1:=hdd i j hi hj hij;rw[aCC,aDa,hdl] at hi hj;have h2:=hs i j (aBO _) hij hj;rw[ltB,decide_eq_false_iff_not,getElem!_pos d' i (by omega),getElem!_pos d' j (by omega)] at h2;simp only[List.getElem_map,Array.getElem_toList] at h1 ⊢;omega
 have hsort:d'.toList.map Prod.fst=iD a:=Iz hris (Ky hd) (hmp.trans (iU a).symm);have hcc:∀ cs∈d'.toList.map mA,cs∈css:=fun cs hc=>by
  obtain⟨p,hp,rfl⟩:=aCn.1 hc;rw[<- e2];exact aCn.2 ⟨p,hperm.subset hp,rfl⟩
 have hfl:(Sort.flatK mA 7 d').size=n*7:=by rw[Sort.size_flatK,hdl]
 obtain⟨q1,q2⟩:=Hw (F:=Sort.flatK mA 7 d') (cur:=cur) (by rw[hfl,hcs];exact Nat.mul_le_mul_right 7 hnc);have hft:(Sort.flatK mA 7 d').toList=(d'.toList.map mA).flatten:=by have:=Kb d'.toList;simpa using this
 have hle:(iD a).length=n:=by rw[(iU a).length_eq,hn]
 rw[<- hsort];refine⟨d'.toList.map mA,⟨?_,.inr ⟨g,cap,_,by rw[hsort,hle],hb,r1,by rw[hsort,hle];exact hnc,hcm,by rw[q1];exact hcs,?_⟩⟩,⟨by simp,fun k cs x hc hx=>?_⟩,fun cs hc=>o3 cs (hcc cs hc),fun g' hg' cs hc=>o4 g' hg' cs (hcc cs hc)⟩
 ·rw[<- hft,aDa,hfl,hsort,hle]
 ·rw[hsort,hle,<- hfl,q2,hft]
 ·rw[aCL] at hc hx;obtain⟨p,hp⟩:∃ p,d'.toList[k]?=aC p:=by
   cases hk:d'.toList[k]? with
   | none=>rw[hk] at hc;cases hc
   | some p=>exact⟨p,rfl⟩
  rw[hp] at hc hx;cases hc;cases hx;obtain⟨i,hi⟩:=aCU.1 (hperm.subset (aBJ hp));have hb1:=o2.each i (mA p) p.1 (by rw[<- e2,aCL,hi];rfl) (by rw[<- e1,aCL,hi];rfl);exact gE hb1 r2 (o4 g rfl (mA p) (hcc _ (aCn.2 ⟨p,aBJ hp,rfl⟩)))
theorem Eu (W:World) (c:Value):Calls prog 184 #[aE aD 0 0,aA aB 0,aA aB 0,c] W fun e w'=>e=.returned (.tuple #[])/\w'=W:=by
 go_enter func184,ntmps184
 go_wp2
 refine wp_loop_rounds 1 ?_;rw[rounds_succ]
 go_wp2
 go_end0
 exact⟨rfl,rfl⟩
theorem Yg (W:World) (l:Int) (g:Nat) (lb:Array Value):Calls prog 172 #[aE aD 0 0,aA aB 0,aA aB 0,aA aB l,.func (.func g) #[] lb] W fun e w'=>e=.returned (.tuple #[])/\w'=W:=by
 have hi:=hid (Eu W (.func (.func g) #[] lb));go_enter func172,ntmps172
 go_wp2
 refine wp_loop_rounds 1 ?_;rw[rounds_succ]
 go_wp2_with (go_at_call 184;refine hi.out.mono ?_;rintro e w' ⟨rfl,rfl⟩)
 (try simp only[Exit.inBlock,Exit.then]);refine bodyPost_ret (results_none rfl _ _ _) rfl ?_
 exact⟨rfl,rfl⟩
theorem Ja (W:World):Calls prog 140 #[aE aD 0 0,.func (.func 141) #[] #[]] W fun e w'=>e=.returned (.tuple #[])/\w'=W:=by
 have BL:=hid (Bn 0 W (by omega));have PN:=hid (fun l=>Yg W l 141 #[]);go_enter func140,ntmps140
 go_wp2_with fail
 refine BL.out.mono ?_;rintro e w' ⟨⟨l,rfl⟩,hw⟩;obtain rfl:=hw.symm
 go_wp2_with (go_at_call 172;refine(PN.out l).mono ?_;rintro e w' ⟨rfl,rfl⟩)
 go_end0
 exact⟨rfl,rfl⟩
theorem cP.keptR {ex:List Nat} {B:Nat} {W W':World} {u v:Value} {l:List Queue} {b:List aT} {row:Option Nat} (h:cP ex B W u v l b) (hg:W.grownBy W' row) (hr:∀ r,row=aC r->r∈ex):cP ex B W' u v l b:=by
 cases row with
 | none=>exact h.ext ((Ext.rf W).gr (v:=.bool true) hg (fun k e=>by cases e))
 | some r=>exact h.kept hg (hr r rfl)
theorem cP.take1 {ex:List Nat} {B gb z cap k:Nat} {W:World} {u:Value} {l:List Queue} {b:List aT} {x:aT} (h:cP ex B W u (aE (aC ⟨gb,0,aD⟩) z cap) l b) (hz:b.length=z) (hk:b[k]?=aC x) :
  ∃ pv bv:Value,kY W gb (k*7) x pv bv/\aU W pv x.aP.aF/\bJ W bv x.aO/\fE W [aA aB x.Id,aA aB x.aP.aG,aA aB x.aP.aI,aA aB x.aP.aH,aA aB x.aP.aJ,pv,bv] x/\sF x/\
   ∀ s∈([aA aB x.Id,aA aB x.aP.aG,aA aB x.aP.aI,aA aB x.aP.aH,aA aB x.aP.aJ,pv,bv]:List Value),∀ a n c,s=aE (aC a) n c->a.block < W.heap.size/\a.block≠gb/\B<=a.block/\a.block∉ex/\∀ r,u.ownBlock=aC r->a.block≠r:=by
 obtain⟨g,qc,rfl,h1,h2,h5,h12,hgB,hs,he,hl,hc,⟨css,o1,o2,o3,o4⟩,hne,hq⟩:=h;rcases o1.2 with ⟨hv,_⟩ | ⟨g',cap',cur,hv,hb,hcur,hnc,hcm,hcs,htk⟩
 ·cases hv
 have hkl:=(aBD.1 hk).1;obtain⟨cs,hcs'⟩:=bT (f:=css) (k:=k) (by rw[o2.len];exact hkl);have hbc:=o2.each k cs x hcs' hk;have hmem:=aBJ hcs';have h7:∀ cs∈css,cs.length=7:=o2.seven;have hgg:g'=gb/\cap'=cap:=by cases hv;exact⟨rfl,rfl⟩
 obtain⟨rfl,rfl⟩:=hgg;have hcell:∀ (j:Nat) v,j < 7->cs[j]?=aC v->W.cell? ⟨g',k*7+j,aD⟩=aC v:=fun j v hj hv=>by
  refine kG hcur ?_;have e:=Bc (m:=7) (by omega) css h7 k j hj;rw[hcs'] at e;have e2:css.flatten[k*7+j]?=aC v:=by rw[e];exact hv
  rw[<- htk,List.getElem?_take] at e2;split at e2
  ·exact e2
  ·cases e2
 have hlow:=jQ o2 (fun x hx=>(hl x hx).1) cs hmem;have hap:=o3 cs hmem;have hap2:=o4 g' rfl cs hmem;have hbc':=hbc;obtain⟨qs,bv,rfl,⟨pv,rfl,hp,i1,i2,i3,i4⟩,hbt,i5⟩:=hbc;refine⟨pv,bv,⟨hcell 0 _ (by omega) rfl,hcell 1 _ (by omega) rfl,hcell 2 _ (by omega) rfl,hcell 3 _ (by omega) rfl,hcell 4 _ (by omega) rfl,hcell 5 _ (by omega) rfl,hcell 6 _ (by omega) rfl⟩,hp,hbt,hbc',hl x (aBJ hk),fun s hsm a n c e=>?_⟩;have e1:=hlow s hsm a n c e;have e2:=hap s hsm a n c e;have e3:=hap2 s hsm a n c e;refine⟨e1,fun h=>e3 (aCB.2 h),?_,fun h=>e2 (aBl _ (aD1 _ h)),fun r hr h=>e2 ?_⟩
 ·rcases aBK a.block B with h | h
  ·exact absurd (aBl _ (aD2 _ (aC3.2 h))) e2
  ·exact h
 ·have:g=r:=by simpa[aCZ] using hr
  rw[h,<- this];exact aCw ..
structure dR (w0:World) (X gq qc gb cap:Nat) (c nx:Int) (l:List Queue) (b a:List aT) (va:Value) (W:World):Prop where
 box:W.heap[X]?=aC (.cells #[aA aB c,aA aB nx,aE (aC ⟨gq,0,aD⟩) l.length qc,aE (aC ⟨gb,0,aD⟩) b.length cap] 25 (0,0))
 own:cP (va.ownBlock.toList++[X]) w0.heap.size W (aE (aC ⟨gq,0,aD⟩) l.length qc) (aE (aC ⟨gb,0,aD⟩) b.length cap) l b
 away:eP (gb::gq::X::List.range w0.heap.size) w0.heap.size W va a
 apart:va.ownBlock≠aC X
 live:yQ a
 ext:Ext w0 W
 low:w0.heap.size<=X
variable {w0 W:World} {X gq qc gb cap:Nat} {c nx:Int} {l:List Queue} {b a:List aT} {va:Value}
theorem dR.ne (h:dR w0 X gq qc gb cap c nx l b a va W) {r:Nat} (hr:va.ownBlock=aC r):r≠gb/\r≠gq/\r≠X/\w0.heap.size<=r/\r < W.heap.size:=by
 obtain⟨g,qc',e,h1,h2,h5,h12,hgB,hs,he,_,_,_,hne,_⟩:=h.own;cases e;obtain⟨css,o1,_⟩:=h.away;have:=o1.lt r hr;have hm:r∈va.ownBlock.toList++[X]:=aD1 _ (by rw[hr];exact aCB.2 rfl);exact⟨fun e=>(hne gb rfl).2 (e▸hm),fun e=>he (e▸hm),fun e=>h.apart (e▸hr),this.1,this.2⟩
theorem dR.gbX (h:dR w0 X gq qc gb cap c nx l b a va W):gb≠X/\w0.heap.size<=gb/\gb < W.heap.size/\gq≠X/\gq≠gb:=by
 obtain⟨g,qc',e,h1,h2,h5,h12,hgB,hs,he,_,_,⟨css,o1,_⟩,hne,_⟩:=h.own;cases e;have:=o1.lt gb rfl;exact⟨fun e=>(hne gb rfl).2 (e▸aD2 _ (aCB.2 rfl)),this.1,this.2,fun e=>he (e▸aD2 _ (aCB.2 rfl)),(hne gb rfl).1⟩
theorem dR.later {W':World} (h:dR w0 X gq qc gb cap c nx l b a va W) (hx:Ext W W'):dR w0 X gq qc gb cap c nx l b a va W':=
 ⟨aW h.box hx,h.own.ext hx,h.away.ext hx,h.apart,h.live,h.ext.tr hx,h.low⟩
theorem dR.push {W':World} {k g2 cap2:Nat} {x:aT} {pv bv:Value} {ca:List (List Value)} (h:dR w0 X gq qc gb cap c nx l b a va W)
  (o1:W.ownsRow w0.heap.size 40 7 va a.length ca.flatten) (o2:fF W ca a) (o3:lX (gb::gq::X::List.range w0.heap.size) ca) (o4:∀ g,va.ownBlock=aC g->lX [g] ca)
  (hbc:fE W [aA aB x.Id,aA aB x.aP.aG,aA aB x.aP.aI,aA aB x.aP.aH,aA aB x.aP.aJ,pv,bv] x) (hlx:sF x)
  (hap:∀ s∈([aA aB x.Id,aA aB x.aP.aG,aA aB x.aP.aI,aA aB x.aP.aH,aA aB x.aP.aJ,pv,bv]:List Value),∀ ad n c',s=aE (aC ad) n c'->ad.block < W.heap.size/\ad.block≠gb/\w0.heap.size<=ad.block/\ad.block∉va.ownBlock.toList++[X]/\∀ r,(aE (aC ⟨gq,0,aD⟩) l.length qc).ownBlock=aC r->ad.block≠r)
  (hown:W'.ownsRow w0.heap.size 40 7 (aE (aC ⟨g2,0,aD⟩) (a.length+1) cap2) (a.length+1) (ca.flatten++[aA aB x.Id,aA aB x.aP.aG,aA aB x.aP.aI,aA aB x.aP.aH,aA aB x.aP.aJ,pv,bv]))
  (hg:(W.alloc (.cells #[aA aB x.Id,aA aB x.aP.aG,aA aB x.aP.aI,aA aB x.aP.aH,aA aB x.aP.aJ,pv,bv] 40)).grownBy W' va.ownBlock)
  (hlie:va.ownBlock=aC g2\/g2=W.heap.size+1) :
  dR w0 X gq qc gb cap c nx l b (a++[x]) (aE (aC ⟨g2,0,aD⟩) (a++[x]).length cap2) W':=by
 have hlen:(a++[x]).length=a.length+1:=by simp
 have hx1:Ext W (W.alloc (.cells #[aA aB x.Id,aA aB x.aP.aG,aA aB x.aP.aI,aA aB x.aP.aH,aA aB x.aP.aJ,pv,bv] 40)):=(Ext.rf W).al _;have hsz:(W.alloc (.cells #[aA aB x.Id,aA aB x.aP.aG,aA aB x.aP.aI,aA aB x.aP.aH,aA aB x.aP.aJ,pv,bv] 40)).heap.size=W.heap.size+1:=aCl ..;have hXw:=(aBy.1 h.box).1;obtain⟨n1,n2,n3,n4,n5⟩:=h.gbX;have hg2:g2≠X/\g2≠gb/\g2≠gq:=by
  rcases hlie with h1 | h1
  ·have:=h.ne h1;exact⟨this.2.2.1,this.1,this.2.1⟩
  ·obtain⟨gq',qc',e,_,hs⟩:=h.own.uform;cases e;exact⟨by omega,by omega,by omega⟩
 refine⟨?_,?_,?_,?_,Ok h.live hlx,?_,h.low⟩
 ·exact(hg.block X (aBA hXw hx1.size) (fun e=>(h.ne e.symm).2.2.1 rfl)).trans (aW h.box hx1)
 ·have hO:=h.own.ext hx1;have hO2:cP (g2::(va.ownBlock.toList++[X])) w0.heap.size (W.alloc (.cells #[aA aB x.Id,aA aB x.aP.aG,aA aB x.aP.aI,aA aB x.aP.aH,aA aB x.aP.aJ,pv,bv] 40)) (aE (aC ⟨gq,0,aD⟩) l.length qc) (aE (aC ⟨gb,0,aD⟩) b.length cap) l b:=by
   rcases hlie with h1 | h1
   ·exact hO.low (aBq _) (fun r hr=>by
     rcases aC8.1 hr with rfl | hr
     ·exact aD1 _ (by rw[h1];exact aCB.2 rfl)
     ·exact hr)
   ·exact hO.box (by omega)
  refine(hO2.keptR hg (fun r hr=>aBl _ (aD1 _ (by rw[hr];exact aCB.2 rfl)))).low (aBq _) (fun r hr=>?_);have hr':r=g2\/r=X:=by simpa[aCZ] using hr
  rcases hr' with rfl | rfl
  ·exact aCw ..
  ·exact aBl _ (aD2 _ (aCB.2 rfl))
 ·rw[hlen];refine eP.snoc (bE o1 hx1) (o2.mono hx1) o3 o4 (fun ds hd s hs ad n c' e=>aBA (jQ o2 (fun y hy=>(h.live y hy).1) ds hd s hs ad n c' e) hx1.size) (hbc.mono hx1) (fun s hs ad n c' e=>?_) hown rfl hg (by rw[hsz];exact hlie);obtain⟨p1,p2,p3,p4,p5⟩:=hap s hs ad n c' e;refine⟨aBA p1 hx1.size,fun hm=>?_,fun r hr e'=>p4 (aD1 _ (by rw[hr,e'];exact aCB.2 rfl))⟩;rcases aC8.1 hm with h1 | hm
  ·exact p2 h1
  ·rcases aC8.1 hm with h1 | hm
   ·exact p5 gq rfl h1
   ·rcases aC8.1 hm with h1 | hm
    ·exact p4 (aD2 _ (aCB.2 h1))
    ·have:=aC3.1 hm;omega
 ·intro e;have:g2=X:=by simpa[aCZ] using e
  exact hg2.1 this
 ·exact(h.ext.tr hx1).gr hg (fun k hk=>(h.ne hk).2.2.2.1)
theorem dR.drop {W':World} {k:Nat} (h:dR w0 X gq qc gb cap c nx l b a va W) (hk:k < b.length) (hO:cP (va.ownBlock.toList++[X]) w0.heap.size W' (aE (aC ⟨gq,0,aD⟩) l.length qc) (aE (aC ⟨gb,0,aD⟩) (b.length - 1) cap) l (b.eraseIdx k)) (hg:W.grownBy W' (aC gb)) :
  dR w0 X gq qc gb cap c nx l (b.eraseIdx k) a va (W'.setCell ⟨X,3,aD⟩ (aE (aC ⟨gb,0,aD⟩) (b.length - 1) cap)):=by
 obtain⟨n1,n2,n3,n4,n5⟩:=h.gbX;have hXw:=(aBy.1 h.box).1;have hlen:(b.eraseIdx k).length=b.length - 1:=aDk hk;have hb:=(hg.block X hXw (fun e=>n1 (Option.some.inj e).symm)).trans h.box;have hs:=aY W' X 3 (aE (aC ⟨gb,0,aD⟩) (b.length - 1) cap);rw[<- hlen] at hO hs ⊢;refine⟨heap_setCell_same W' X 3 _ _ _ hb,hO.kept hs (aD2 _ (aCB.2 rfl)),?_,h.apart,h.live,?_,h.low⟩
 ·exact(h.away.keptR hg (aCw ..) (fun r hr=>(h.ne hr).1)).keptR hs (aBl _ (aBl _ (aCw ..))) (fun r hr=>(h.ne hr).2.2.1)
 ·exact(h.ext.gr (v:=aE (aC ⟨gb,0,aD⟩) 0 0) hg (fun k hk=>by have e:=Option.some.inj hk;have e2:gb=k:=e;omega)).se h.low _
def Mg (X:Nat) (W:World):Nat:=match W.cell? ⟨X,3,aD⟩ with | some (aE _ n _)=>n | _=>0
theorem qU (h:dR w0 X gq qc gb cap c nx l b a va W):Mg X W=b.length:=by
 unfold Mg;rw[cell_of_row W X 3 _ _ _ h.box];rfl
structure Ps (l:List Queue) (c:Nat) (b0 b a:List aT):Prop where
 go:zS l c b.length b a=Nu l c b0
 sub:b.Sublist b0
 perm:(b++a).Perm b0
theorem Ps.step {c t q:Nat} {b0:List aT} {x:aT} (h:Ps l c b0 b a) (ho:nT l b c t q) (hx:b[oJ l b t q]?=aC x):Ps l c b0 (b.eraseIdx (oJ l b t q)) (a++[x]):=
 ⟨(Nt ho hx).symm.trans h.go,(aDo ..).trans h.sub,(Jf hx).trans h.perm⟩
theorem dR.sorted {g n cp:Nat} {W':World} (h:dR w0 X gq qc gb cap c nx l b a (aE (aC ⟨g,0,aD⟩) n cp) W) (ho:eP (gb::gq::X::List.range w0.heap.size) w0.heap.size W' (aE (aC ⟨g,0,aD⟩) n cp) (iD a)) (hg:W.grownBy W' (aC g)) :
  dR w0 X gq qc gb cap c nx l b (iD a) (aE (aC ⟨g,0,aD⟩) n cp) W':=by
 have hne:=h.ne (r:=g) rfl;exact⟨(hg.block X (aBy.1 h.box).1 (fun e=>hne.2.2.1 (Option.some.inj e).symm)).trans h.box,h.own.kept hg (aD1 _ (aCB.2 rfl)),ho,h.apart,
  fun x hx=>h.live x ((iU a).subset hx),h.ext.gr (v:=aE (aC ⟨g,0,aD⟩) n cp) hg (fun k hk=>by have e:=Option.some.inj hk;have e2:g=k:=e;omega),h.low⟩
def aAw (w0:World) (X gq qc:Nat) (c nx:Int) (l:List Queue) (b0:List aT) (e:Ending) (w':World):Prop:=
 ∃ va gb cap,e=.returned va/\dR w0 X gq qc gb cap c nx l (Nu l c.toNat b0).1 (iD (Nu l c.toNat b0).2) va w'/\b0.length<=cap
theorem Lj (w0 w:World) (X gq qc gb cap:Nat) (c nx:Int) (l:List Queue) (b0:List aT) (h:dR w0 X gq qc gb cap c nx l b0 [] (aE aD 0 0) w) (hcap:b0.length<=cap) (ok:fB l) (hok:∀ x∈b0,cB l x) (h12:b0.length<=12) (hc:0<=c/\c<=48) (hd:b0.Pairwise (fun x y=>x.Id≠y.Id)) :
  Calls prog 84 #[.pointer (aC ⟨X,0,aD⟩)] w (aAw w0 X gq qc c nx l b0):=by
 obtain⟨ib,ib1,ib2,ib3,ib4⟩:=info_parts info40;have H0:=hid h;have HOK:=hid hok;have HD:=hid hd;have HCAP:=hid hcap;have HC:=hid hc;clear h hok hd hcap hc;go_enter func84,ntmps84
 go_wp2_with fail
 go_loopw [3] (fun va wr=>∃ b a,Hid (dR w0 X gq qc gb cap c nx l b a va wr)/\Hid (Ps l c.toNat b0 b a)) (fun va wr=>Mg X wr)
 case atStart=>exact⟨b0,[],H0,hid ⟨rfl,aDn.refl _,by rw[aBi]⟩⟩
 case round=>
  obtain⟨b,a,HA,HR⟩:=hrel;have hbok:∀ x∈b,cB l x:=fun x hx=>HOK.out x (HR.out.sub.subset hx);have hb12:b.length<=12:=aC4 HR.out.sub.length_le h12;have T:=hid (fun p:bF wr=>fH p (v:=.tuple #[aA aB (jV l b c.toNat).1,aA aB (jV l b c.toNat).2.1,.bool (jV l b c.toNat).2.2]) (show Calls prog 69 #[aE (aC ⟨gq,0,aD⟩) l.length qc,aE (aC ⟨gb,0,aD⟩) b.length cap,aA aB c] p.v (rT p.v (jV l b c.toNat)) from by
   have:=tC p.v _ _ l b c.toNat (by have:=HC.out;omega) (HA.out.own.tree.mono p.h) (HA.out.own.books.mono p.h) ok hbok hb12
   rwa [aCr HC.out.1] at this))
  have k0:=fun p:bF wr=>p.cell (cell_of_row wr X 0 _ _ _ HA.out.box);have k2:=fun p:bF wr=>p.cell (cell_of_row wr X 2 _ _ _ HA.out.box);have k3:=fun p:bF wr=>p.cell (cell_of_row wr X 3 _ _ _ HA.out.box);by_cases hf:mF l b c.toNat
  ·rw[qZ hf] at T;have HSTOP:=hid (show Nu l c.toNat b0=(b,a) from HR.out.go.symm.trans (Dx (Df hf) _))
   go_wp2_with fail
   refine cJ (by kernel_rfl) (by kernel_rfl) ?_
   repeat (go_big_quiet_step (first | with_reducible exact T.out _))
   refine wpQuiet_nil ?_;rintro w' ⟨p,rfl⟩;have HA2:=hid (HA.out.later p.h);have had:a.Pairwise (fun x y=>x.Id≠y.Id):=(List.pairwise_append.1 ((aDl.pairwise_iff (fun h e=>h e.symm) HR.out.perm).2 HD.out)).2.1;have ha12:a.length<=12:=by have:=HR.out.perm.length_eq;rw[aBk] at this;omega
   obtain⟨css,o1,o2,o3,o4⟩:=HA2.out.away;rcases o1.2 with ⟨rfl,ha0⟩ | ⟨g,cp,cur,rfl,_⟩
   ·have ha:a=[]:=aBC ha0;have HN:=hid (fun W=>Ja W);clear T k0 k2 k3 o1 o2 o3 o4;generalize p.v=wp at *
    go_wp2_with (go_at_call 140;refine(HN.out _).mono ?_;rintro e w' ⟨rfl,rfl⟩)
    go_ret;refine⟨_,gb,cap,rfl,?_,HCAP.out⟩;rw[HSTOP.out,ha];rw[ha] at HA2;exact HA2.out
   ·have HN:=hid (Xz _ _ g a.length cp p.v a HA2.out.away rfl ha12 had);clear T k0 k2 k3 o1 o2 o3 o4;generalize p.v=wp at *
    go_wp2_with (go_at_call 140;refine HN.out.mono ?_;rintro e w' ⟨rfl,hso,hsg⟩)
    go_ret;refine⟨_,gb,cap,rfl,?_,HCAP.out⟩;rw[HSTOP.out];exact HA2.out.sorted hso hsg
  ·obtain⟨t,q,ho⟩:=uM hf;obtain⟨x,hx,_⟩:=Ec ok hbok ho;have hkl:=(aBD.1 hx).1;have HST:=hid (HR.out.step ho hx);rw[uF ho] at T;have ht48:=ho.2.1;have hfc:¬ (mF l b c.toNat):=hf;clear hf
   go_wp2_with fail
   refine cJ (by kernel_rfl) (by kernel_rfl) ?_
   repeat (go_big_quiet_step (first | with_reducible exact T.out _))
   refine wpQuiet_nil ?_;rintro w' ⟨p,rfl⟩;have HA2:=hid (HA.out.later p.h);have HBL:=hid (qU HA.out);clear T k0 k2 k3 HA;generalize p.v=wp at *;have VI:=hid (Qh wp X gb 0 cap b.length (aE (aC ⟨gq,0,aD⟩) l.length qc) l b c nx t q HA2.out.box HA2.out.own.tree HA2.out.own.books rfl (by omega) ok hbok hb12 ht48);generalize oJ l b t q=k at *
   go_wp2_with fail
   refine VI.out.mono ?_;rintro e wv ⟨rfl,hxv⟩;have HA3:=hid (HA2.out.later hxv);clear HA2 VI hxv;obtain⟨pv,bv,⟨c0,c1,c2,c3,c4,c5,c6⟩,hpx,hbx,hbc,hlx,hap⟩:=HA3.out.own.take1 rfl hx;obtain⟨css,o1,o2,o3,o4⟩:=HA3.out.away;obtain⟨pa,pc,rfl,_⟩:=hpx.form;obtain⟨ba,bc,rfl,_⟩:=hbx.form;have k3:wv.cell? ⟨X,3,aD⟩=aC (aE (aC ⟨gb,0,aD⟩) b.length cap):=cell_of_row wv X 3 _ _ _ HA3.out.box;have ha12:a.length<=12:=by have:=HR.out.perm.length_eq;rw[aBk] at this;omega
   have HN7:=hid (xO wv [aA aB x.Id,aA aB x.aP.aG,aA aB x.aP.aI,aA aB x.aP.aH,aA aB x.aP.aJ,aE pa x.aP.aF.length pc,aE ba x.aO.length bc] 40 rfl);have HPUSH:=hid (fun W' g2 cap2=>HA3.out.push (W':=W') (g2:=g2) (cap2:=cap2) (k:=k) o1 o2 o3 o4 hbc hlx hap);have HO1:=hid (bE o1 ((Ext.rf wv).al (.cells #[aA aB x.Id,aA aB x.aP.aG,aA aB x.aP.aI,aA aB x.aP.aH,aA aB x.aP.aJ,aE pa x.aP.aF.length pc,aE ba x.aO.length bc] 40)));have HSZ:=hid (show w0.heap.size<=(wv.alloc (.cells #[aA aB x.Id,aA aB x.aP.aG,aA aB x.aP.aI,aA aB x.aP.aH,aA aB x.aP.aJ,aE pa x.aP.aF.length pc,aE ba x.aO.length bc] 40)).heap.size from (HA3.out.ext.al _).size);have HX:=hid hx;have HHB:=hid hb12;have HKL:=hid hkl;clear hpx hbx hbc hlx hap o1 o2 o3 o4 hx ho hbok;generalize hpn:x.aP.aF.length=pn at *;generalize hbn:x.aO.length=bn at *;clear hpn hbn
   go_wp2_with (at_builtin;refine wpList_append_lies _ rfl _ _ 23 rfl w0.heap.size 40 ib _ 7 88 underlying23 ib1 ib2 ib3 ib4 rfl (by decide) u3 a.length css.flatten rfl HO1.out ⟨wv.heap.size,0,aD⟩ 1 1 [aA aB x.Id,aA aB x.aP.aG,aA aB x.aP.aI,aA aB x.aP.aH,aA aB x.aP.aJ,aE pa pn pc,aE ba bn bc] rfl rfl HN7.out (by simp[aBz]) (by omega) (by unfold maxLen;omega) (by omega) HSZ.out (wv.heap.size+1) (by simp) ?_;intro g2 cap2 W2 hown hgrow hlie hlt;have HA4:=hid (HPUSH.out W2 g2 cap2 hown hgrow hlie);have k4:W2.cell? ⟨X,3,aD⟩=aC (aE (aC ⟨gb,0,aD⟩) b.length cap):=cell_of_row W2 X 3 _ _ _ HA4.out.box;clear hown hgrow hlie)
   have DL:=hid (Gr _ _ W2 _ gb b.length cap k l b HA4.out.own rfl HKL.out HHB.out);refine DL.out.mono ?_;rintro e W3 ⟨rfl,hO3,hg3⟩;have hb3:=(hg3.block X (aBy.1 HA4.out.box).1 (fun e=>HA4.out.gbX.1 (Option.some.inj e).symm)).trans HA4.out.box;have k5:W3.cell? ⟨X,3,aD⟩=aC (aE (aC ⟨gb,0,aD⟩) b.length cap):=cell_of_row W3 X 3 _ _ _ hb3;have f5:=frozen_of_row W3 X 3 _ _ hb3;have HA5:=hid (HA4.out.drop HKL.out hO3 hg3);clear hb3 hO3 hg3 k4 DL HPUSH HA3 HA4
   go_wp2_with fail
   go_roundw
   case rel=>
    have e:(a++[x]).length=a.length+1:=by simp
    rw[e] at HA5;exact⟨_,_,HA5,HST⟩
   case measure=>rw[qU HA5.out,HBL.out,aDk HKL.out];omega
theorem Lk (w0 w:World) (X:Nat) (u v:Value) (c nx:Int) (l:List Queue) (hX:w.heap[X]?=aC (.cells #[aA aB c,aA aB nx,u,v] 25 (0,0))) (hO:cP [X] w0.heap.size w u v l []) (ok:fB l) (hc:0<=c/\c<=48) :
  Calls prog 84 #[.pointer (aC ⟨X,0,aD⟩)] w fun e w'=>e=.returned (aE aD 0 0)/\Ext w w':=by
 obtain⟨gq,qc,rfl,_,_⟩:=hO.uform;obtain⟨va,vc,hv,_⟩:=hO.vform;have hv:v=aE va 0 vc:=hv;subst hv;have hf:mF l [] c.toNat:=fun t h1 h2 p hp=>by
  have:=yG ok hp t;unfold bV;simp only[bL];omega
 have HO:=hid hO;have HX:=hid hX;clear hX hO;go_enter func84,ntmps84
 go_wp2_with fail
 refine wp_loop_rounds 1 ?_;rw[rounds_succ];have T:=hid (fun p:bF w=>fH p (v:=.tuple #[aA aB (jV l [] c.toNat).1,aA aB (jV l [] c.toNat).2.1,.bool (jV l [] c.toNat).2.2]) (show Calls prog 69 #[aE (aC ⟨gq,0,aD⟩) l.length qc,aE va 0 vc,aA aB c] p.v (rT p.v (jV l [] c.toNat)) from by
  have:=tC p.v _ _ l [] c.toNat (by omega) (HO.out.tree.mono p.h) (HO.out.books.mono p.h) ok (fun x hx=>by cases hx) (by simp)
  rwa [aCr hc.1] at this))
 have k0:=fun p:bF w=>p.cell (cell_of_row w X 0 _ _ _ HX.out);have k2:=fun p:bF w=>p.cell (cell_of_row w X 2 _ _ _ HX.out);have k3:=fun p:bF w=>p.cell (cell_of_row w X 3 _ _ _ HX.out);rw[qZ hf] at T;clear hf
 go_wp2_with fail
 refine cJ (by kernel_rfl) (by kernel_rfl) ?_
 repeat (go_big_quiet_step (first | with_reducible exact T.out _))
 refine wpQuiet_nil ?_;rintro w' ⟨p,rfl⟩;have HN:=hid (fun W=>Ja W);have HP:=hid p.h;clear T k0 k2 k3;generalize p.v=wp at *
 go_wp2_with (go_at_call 140;refine(HN.out _).mono ?_;rintro e w' ⟨rfl,rfl⟩)
 go_ret;exact⟨rfl,HP.out⟩
theorem Gn (w:World) (b off cap:Nat) (f:List bO) (G:Nat) (lb:Array Value) (p:bO->Bool) (hl:f.length<=17592186044416) (hb:b < w.heap.size) (hE:∀ k x,f[k]?=aC x->Bz w b (off+k*2) x)
  (heg:∀ (args:Array Value) (w:World),(callFunc G args).run prog w=.ok (.enter G args) w)
  (hp:∀ (k:Nat) (x:bO),f[k]?=aC x->∀ W,Ext w W->Calls prog G (#[.agg #[aA aB x.Piece,aA aB x.At]]++lb) W fun e w'=>e=.returned (.bool (p x))/\Ext W w') :
  Calls prog 178 #[aE (aC ⟨b,off,aD⟩) f.length cap,.func (.func G) #[] lb] w fun e w'=>e=.returned (aA aB (fM p f))/\Ext w w':=by
 have HE:=hid hE;have Hp:=hid hp;clear hE hp;generalize hn:f.length=n at *;have Hn:=hid hn;clear hn;go_enter func178,ntmps178
 go_wp2_with fail
 go_loopw [8] (fun i wr=>∃ k:Nat,k<=n/\i=aA aB k/\Hid (∀ j y,j < k->f[j]?=aC y->p y=false)/\Ext w wr) (fun i _=>n - (intOf i).toNat)
 case atStart=>exact⟨0,aBO _,rfl,fun j y hj=>absurd hj (aBn _),Ext.rf _⟩
 case round=>
  obtain⟨k,hk,rfl,Hall,hx⟩:=hrel;have hbw:b < wr.heap.size:=aBA hb hx.size;by_cases hlt:k < n
  ·obtain⟨x,hxk⟩:=bT (f:=f) (k:=k) (by rw[Hn.out];exact hlt);obtain⟨c1,c2,c3,c4⟩:=HE.out k x hxk;replace c1:=hx.ce' c1;replace c2:=hx.ce' c2;have hc:=Hp.out k x hxk wr hx;have Hc:=hid hc;have Hx:=hid hxk;clear hc hxk;cases hpx:p x with
   | true=>
    rw[hpx] at Hc;have Hpx:=hid hpx;clear hpx
    go_wp2_with fail
    refine Hc.out.mono ?_;rintro e w1 ⟨rfl,hx1⟩
    go_wp2_with fail
    go_ret;exact⟨bB (qN Hx.out Hpx.out Hall.out).symm,hx.tr hx1⟩
   | false=>
    rw[hpx] at Hc;have Hpx:=hid hpx;clear hpx
    go_wp2_with fail
    refine Hc.out.mono ?_;rintro e w1 ⟨rfl,hx1⟩
    go_wp2_with fail
    go_roundw
    case rel=>exact⟨k+1,by omega,by go_num,mO Hx.out Hpx.out Hall.out,hx.tr hx1⟩
    case measure=>simp[intOf];omega
  ·obtain rfl:k=n:=by omega
   go_wp2_with fail
   go_ret;exact⟨bB (jO (fun j y hj hy=>Hall.out j y (by rw[Hn.out] at hj;exact hj) hy)).symm,hx⟩
theorem yV (w:World) (v:Value) (f:List bO) (G:Nat) (lb:Array Value) (p:bO->Bool) (hv:bJ w v f)
  (heg:∀ (args:Array Value) (w:World),(callFunc G args).run prog w=.ok (.enter G args) w)
  (hp:∀ (k:Nat) (x:bO),f[k]?=aC x->∀ W,Ext w W->Calls prog G (#[.agg #[aA aB x.Piece,aA aB x.At]]++lb) W fun e w'=>e=.returned (.bool (p x))/\Ext W w') :
  Calls prog 144 #[v,.func (.func G) #[] lb] w fun e w'=>e=.returned (.bool (f.any p))/\Ext w w':=by
 rcases hv with ⟨rfl,a0,c0,rfl,hc0⟩ | ⟨b,off,cap,rfl,h1,h2,h3,⟨h4,_⟩,h5⟩
 ·go_enter func144,ntmps144
  go_wp2
  go_loopw [8] (fun i wr=>i=aA aB 0/\wr=w) (fun i _=>0)
  case atStart=>exact⟨rfl,rfl⟩
  case round=>
   obtain⟨rfl,rfl⟩:=hrel
   go_wp2
   go_ret;exact⟨rfl,Ext.rf _⟩
 ·have hi:=Gn w b off cap f G lb p h3 h4 h5 heg hp;have Hi:=hid hi;have ha:=hid (qO p f);clear hi hp h5;generalize fM p f=q at *;generalize hn:f.length=n at *;clear hn;generalize f.any p=r at *;go_enter func144,ntmps144
  go_wp2_with fail
  refine Hi.out.mono ?_;rintro e w1 ⟨rfl,hx1⟩
  go_wp2_with fail
  go_ret;exact⟨fD ha.out,hx1⟩
theorem Wt (W:World) (x:bO) (N X:Nat) (c:Int) (hN:W.cell? ⟨N,0,aD⟩=aC (.pointer (aC ⟨X,0,aD⟩))) (hX:W.cell? ⟨X,0,aD⟩=aC (aA aB c)) :
  Calls prog 145 #[.agg #[aA aB x.Piece,aA aB x.At],.pointer (aC ⟨N,0,aD⟩)] W fun e w'=>e=.returned (.bool (decide (x.At < c)))/\Ext W w':=by
 have hx:=(Ext.rf W).al (.cells #[aA aB x.Piece,aA aB x.At] 42);have k0:=hx.ce' hN;have k1:=hx.ce' hX;have HX:=hid hx;clear hx hN hX;go_enter func145,ntmps145
 go_wp2_with fail
 go_quiet (fail)
 go_wp2_with fail
 go_ret;exact⟨rfl,HX.out.dn _⟩
theorem aB6 {α:Type} {p:α->Bool} {f:List α} {k:Nat} {x:α} (h:f[k]?=aC x) (hp:p x=true):f.any p=true:=List.any_eq_true.2 ⟨x,aBJ h,hp⟩
theorem aB5 {α:Type} {p:α->Bool} {f:List α} (h:∀ j y,j < f.length->f[j]?=aC y->p y=false):f.any p=false:=by
 rw[aBY];intro y hy;obtain⟨j,hj⟩:=aCU.1 hy;rw[h j y (aBD.1 hj).1 hj];exact Bool.false_ne_true
theorem Wx (w:World) (pv bv:Value) (x:aT) (c:Int) (hp:aU w pv x.aP.aF) (hb:bJ w bv x.aO) :
  Calls prog 99 #[yI x pv bv,aA aB c] w fun e w'=>e=.returned (.bool (rR c x))/\Ext w w':=by
 obtain⟨pa,pc,rfl,_⟩:=hp.form;have HB:=hid hb;obtain⟨ba,bc,rfl,hbc1,hbc2,hb0⟩:=hb.form;have HX:=hid ((Ext.rf w).al (.cells #[aA aB x.Id,aA aB x.aP.aG,aA aB x.aP.aI,aA aB x.aP.aH,aA aB x.aP.aJ,aE pa x.aP.aF.length pc,aE ba x.aO.length bc] 40));have HBX:=hid (heap_alloc_new w (.cells #[aA aB x.Id,aA aB x.aP.aG,aA aB x.aP.aI,aA aB x.aP.aH,aA aB x.aP.aJ,aE pa x.aP.aF.length pc,aE ba x.aO.length bc] 40));clear hp hb;generalize x.aP.aF.length=pn at *;generalize hbn:x.aO.length=bn at *;have Hbn:=hid hbn;clear hbn;go_enter func99,ntmps99
 go_wp2_with fail
 generalize w.alloc (.cells #[aA aB x.Id,aA aB x.aP.aG,aA aB x.aP.aI,aA aB x.aP.aH,aA aB x.aP.aJ,aE pa pn pc,aE ba bn bc] 40)=w1 at *
 go_loopw [5] (fun i wr=>∃ k:Nat,k<=bn/\i=aA aB k/\Hid (∀ j y,j < k->x.aO[j]?=aC y->decide (y.At < c)=false)/\wr=w1) (fun i _=>bn - (intOf i).toNat)
 case atStart=>exact⟨0,aBO _,rfl,hid (fun j y hj=>absurd hj (aBn _)),rfl⟩
 case round=>
  obtain⟨k,hk,rfl,Hall,rfl⟩:=hrel;have k6:wr.cell? ⟨w.heap.size,6,aD⟩=aC (aE ba bn bc):=(dX HBX.out).2.2.2.2.2.2.1;by_cases hlt:k < bn
  ·obtain⟨y,hy⟩:=bT (f:=x.aO) (k:=k) (by rw[Hbn.out];exact hlt);obtain⟨b,off,cap,e,h1,h2,h3,⟨h4,_⟩,hE⟩:=(HB.out.mono HX.out).resolve_left (fun h=>by have:=h.1;rw[this] at hy;cases hy);cases e;obtain⟨c1,c2,c3,c4⟩:=hE k y hy;have HY:=hid hy;clear hE hy;by_cases hlc:y.At < c
   ·have HR:=hid (show rR c x=true from aB6 HY.out (decide_eq_true hlc))
    go_wp2_with fail
    go_ret;exact⟨fD HR.out.symm,HX.out⟩
   ·have HN:=hid (mO (p:=fun y:bO=>decide (y.At < c)) HY.out (decide_eq_false hlc) Hall.out)
    go_wp2_with fail
    go_roundw
    case rel=>exact⟨k+1,by omega,by go_num,HN.out,trivial⟩
    case measure=>simp[intOf];omega
  ·obtain rfl:k=bn:=by omega
   have HR:=hid (show rR c x=false from aB5 (fun j y hj hy=>Hall.out j y (by rw[Hbn.out] at hj;exact hj) hy))
   go_wp2_with fail
   go_ret;exact⟨fD HR.out.symm,HX.out⟩
theorem cP.rowI {ex:List Nat} {B g z cap i:Nat} {W:World} {u:Value} {l:List Queue} {b:List aT} {x:aT} {cs:List Value} (h:cP ex B W u (aE (aC ⟨g,0,aD⟩) z cap) l b) (hz:b.length=z) (hi:i<=z) (hz12:z < 12) (hcap:z < cap)
  (hbc:fE W cs x) (hlx:sF x) (hap:∀ s∈cs,∀ a n c,s=aE (aC a) n c->a.block < W.heap.size/\a.block≠g/\B<=a.block/\a.block∉ex/\∀ r,u.ownBlock=aC r->a.block≠r) :
  ∃ (css:List (List Value)) (cur:Array Value),W.heap[g]?=aC (.cells cur 40 (0,0))/\cur.size=cap*7/\cur.toList.take (z*7)=css.flatten/\css.length=z/\(∀ cs∈css,cs.length=7)/\(∀ u∈css.flatten,u.oneCell'=true)/\cap<=maxLen/\B<=g/\
   ∀ (W':World) (cur':Array Value),W.grownBy W' (aC g)->W'.heap[g]?=aC (.cells cur' 40 (0,0))->cur'.size=cap*7->cur'.toList.take ((z+1)*7)=(css.take i++cs::css.drop i).flatten->
    cP ex B W' u (aE (aC ⟨g,0,aD⟩) (z+1) cap) l (b.take i++x::b.drop i):=by
 obtain⟨gq,qc,rfl,h1,h2,h5,h12,hgB,hs,he,hl,hc,⟨css,o1,o2,o3,o4⟩,hne,hq⟩:=h;rw[hz] at o1 h12;rcases o1.2 with ⟨hv,_⟩ | ⟨g',cap',cur,hv,hb,hcur,hnc,hcm,hcs,htk⟩
 ·cases hv
 ·cases hv;refine⟨css,cur,hcur,hcs,htk,by rw[o2.len,hz],o2.seven,o2.one,hcm,hb,fun W' cur' hg hcur' hs' ht'=>?_⟩;have hl7:=uW hbc;have hlen:css.length=z:=by rw[o2.len,hz]
  have hcl:(css.take i++cs::css.drop i).length=z+1:=by simp only[aBk,aCH,aBB,aDc];omega
  have hbl:(b.take i++x::b.drop i).length=z+1:=by simp only[aBk,aCH,aBB,aDc];omega
  have hmem:∀ ds∈css.take i++cs::css.drop i,ds∈css\/ds=cs:=fun ds hd=>by
   rcases aBm.1 hd with h | h
   ·exact .inl (aDy h)
   ·rcases aC8.1 h with h | h
    ·exact .inr h
    ·exact .inl (aDb h)
  have hmemb:∀ y∈b.take i++x::b.drop i,y∈b\/y=x:=fun ds hd=>by
   rcases aBm.1 hd with h | h
   ·exact .inl (aDy h)
   ·rcases aC8.1 h with h | h
    ·exact .inr h
    ·exact .inl (aDb h)
  have h7:∀ ds∈css.take i++cs::css.drop i,ds.length=7:=fun ds hd=>by
   rcases hmem ds hd with h | rfl
   ·exact o2.seven ds h
   ·exact hl7
  have h4:=o4 g rfl;refine⟨gq,qc,rfl,h1,h2,h5,by omega,hgB,aBA hs hg.size,he,fun y hy=>?_,hc,⟨css.take i++cs::css.drop i,⟨?_,.inr ⟨g,cap,cur',by rw[hbl],hb,hcur',by omega,hcm,hs',by rw[hbl];exact ht'⟩⟩,⟨by omega,fun k ds y hk hy=>?_⟩,fun ds hd=>?_,fun g' hg' ds hd=>?_⟩,fun r hr=>hne r hr,?_⟩
  ·rcases hmemb y hy with h | rfl
   ·exact hl y h
   ·exact hlx
  ·rw[gU _ h7,hcl,hbl]
  ·rcases Nat.lt_trichotomy k i with h | h | h
   ·rw[aCI (by simp only[aCH];omega),aCY h] at hk hy;exact gE (o2.each k ds y hk hy) hg (h4 ds (aBJ hk))
   ·subst h;rw[aCJ (by simp only[aCH];omega)] at hk hy;rw[show k - (css.take k).length=0 by simp only[aCH];omega] at hk;rw[show k - (b.take k).length=0 by simp only[aCH];omega] at hy;cases hk;cases hy;exact gE hbc hg (fun s hs a n c e hm=>(hap s hs a n c e).2.1 (aCB.1 hm))
   ·rw[aCJ (by simp only[aCH];omega)] at hk hy;rw[show k - (css.take i).length=(k - 1 - i)+1 by simp only[aCH];omega,aDz,aBN] at hk;rw[show k - (b.take i).length=(k - 1 - i)+1 by simp only[aCH];omega,aDz,aBN] at hy;rw[show i+(k - 1 - i)=k - 1 by omega] at hk hy;exact gE (o2.each (k - 1) ds y hk hy) hg (h4 ds (aBJ hk))
  ·rcases hmem ds hd with h | rfl
   ·exact o3 ds h
   ·intro s hs a n c e hm;obtain⟨q1,q2,q3,q4,q5⟩:=hap s hs a n c e;rcases aC8.1 hm with h | h
    ·exact q5 gq rfl h
    ·rcases aBm.1 h with h | h
     ·exact q4 h
     ·have:=kH h;omega
  ·obtain rfl:g=g':=by simpa[aCZ] using hg'
   rcases hmem ds hd with h | rfl
   ·exact h4 ds h
   ·exact fun s hs a n c e hm=>(hap s hs a n c e).2.1 (aCB.1 hm)
  ·exact hq.kept hg (aD1 _ (aCB.2 rfl)) (hne g rfl).1
theorem rZ {P:Program} (w:World) (dT sT ty elem:TypeId) (sz b o dLen dCap:Nat) (a:Addr) (sLen sCap:Nat) (cs:List Value)
  (hu:P.underlying dT=aC (.slice elem)) (hs:(P.info? elem).map (·.size)=aC sz) (hn:cs.length=aDA sLen dLen*sz)
  (hsrc:∀ j v,cs[j]?=aC v->w.cell? (a.add j)=aC v) (hc:∀ j,j < cs.length->(w.cell? ⟨b,o+j,aD⟩).isSome=true) (hf:∀ j,j < cs.length->w.frozen? ⟨b,o+j,aD⟩=false) (h1:∀ v∈cs,v.oneCell'=true) :
  (Builtin.copy_ #[dT,sT] ty #[aE (aC ⟨b,o,aD⟩) dLen dCap,aE (aC a) sLen sCap]).run P w=.ok (goInt (aDA sLen dLen)) (w.setCells b o cs):=by
 have hl:=run_loadCells_list (P:=P) w a cs hsrc;have hst:=run_storeCells_cells (P:=P) b o cs 0 w (by simpa using hc) (by simpa using hf) h1;cases hq:P.info? elem with
 | none=>simp[hq] at hs
 | some i=>
  have hi:i.size=sz:=by simpa[hq] using hs
  rw[hn] at hl;simp[Builtin.copy_,run_underlying hu,Builtin.lenOf,Builtin.firstCells,sizeOf,typeInfo,hq,hi,hl,hst]
theorem wW {P:Program} {ops:Array Oper} {rest:List Oper} {o:Oper} {a:Act} {w:World} {Q:Exit->Act->World->Prop} (hgd:o.guard=aD) (s x:Operand) (t:TypeId)
  (ho:o.op=.call { callee:=.builtin .append,args:=#[s,x],argTypes:=#[t,t]}) (e:TypeId) (i:TypeInfo) (ht:P.underlying t=aC (.slice e)) (hi:P.info? e=aC i)
  (g n cap:Nat) (cur:Array Value) (hg:w.heap[g]?=aC (.cells cur e (0,0))) (hs:a.eval s=aE (aC ⟨g,0,aD⟩) n cap) (ad:Addr) (m c:Nat) (news:List Value) (hx:a.eval x=aE (aC ad) m c)
  (hl:news.length=m*i.size) (hnews:∀ j u,news[j]?=aC u->w.cell? (ad.add j)=aC u) (h1:∀ u∈news,u.oneCell'=true) (hroom:n+m<=cap) (hfit:n*i.size+news.length<=cur.size)
  (h:wpList P ops Q rest (a.put o.dst (aE (aC ⟨g,0,aD⟩) (n+m) cap)) (w.setRow g (cur.toList.take (n*i.size)++news++cur.toList.drop (n*i.size+news.length)).toArray)):wpList P ops Q (o::rest) a w:=
 wpList_plain hgd fun _ hK=>pR s x t ho e i ht hi g n cap cur hg hs ad m c news hx hl hnews h1 hroom hfit (hK _ _ h)
theorem Jb {W:World} {b:Nat} {cur:Array Value} {T:TypeId} {fr:Nat × Nat} (h:W.heap[b]?=aC (.cells cur T fr)):W.shape? b=aC (T,cur.size):=by simp[World.shape?,h]
theorem La {g i z cap:Nat} {W:World} {cur:Array Value} {css:List (List Value)} {cs:List Value} {T:TypeId} (h:W.heap[g]?=aC (.cells cur T (0,0))) (hs:cur.size=cap*7) (ht:cur.toList.take (z*7)=css.flatten) (hl:css.length=z) (h7:∀ cs∈css,cs.length=7) (hc7:cs.length=7) (hi:i<=z) (hz:z < cap) :
  ∃ cur',((W.setCells g ((i+1)*7) (css.drop i).flatten).setCells g (i*7) cs).heap[g]?=aC (.cells cur' T (0,0))/\cur'.size=cap*7/\cur'.toList.take ((z+1)*7)=(css.take i++cs::css.drop i).flatten/\W.grownBy ((W.setCells g ((i+1)*7) (css.drop i).flatten).setCells g (i*7) cs) (aC g):=by
 have hdl:(css.drop i).flatten.length=(z - i)*7:=by rw[gU _ (fun c hc=>h7 c (aDb hc)),aDc,hl]
 obtain⟨c1,a1,a2,a3,a4⟩:=jX (css.drop i).flatten ((i+1)*7) W cur h (by rw[hdl,hs];omega);obtain⟨c2,b1,b2,b3,b4⟩:=jX cs (i*7) (W.setCells g ((i+1)*7) (css.drop i).flatten) c1 a1 (by rw[hc7,a2,hs];omega);refine⟨c2,b1,by rw[b2,a2,hs],?_,bG (eV W g _ _) (eV _ g _ _)⟩;have e1:(css.take i).flatten=cur.toList.take (i*7):=by
  rw[<- mP css h7 i,<- ht,aD7,show min (i*7) (z*7)=i*7 by omega]
 have e2:c1.toList.take (i*7)=cur.toList.take (i*7):=by
  have:=congrArg (List.take (i*7)) a3;rw[aD7,List.take_append_of_le_length (by rw[aCH,aDa,hs];omega),aD7,show min (i*7) ((i+1)*7+(css.drop i).flatten.length)=i*7 by omega,show min (i*7) ((i+1)*7)=i*7 by omega] at this;exact this
 rw[aD3,aCT,e1];refine aBU fun j=>?_;have hcl:(cur.toList.take (i*7)).length=i*7:=by rw[aCH,aDa,hs];omega
 rcases aBK j (i*7+7) with hj | hj
 ·rw[<- aDm,aCI (by rw[aBk,hcl,hc7];exact hj),aCY (by omega)];rw[e2,hc7] at b3;rw[<- b3,aCY hj]
 ·rw[<- aDm,aCJ (by rw[aBk,hcl,hc7];exact hj),aBk,hcl,hc7];rcases aBK j ((z+1)*7) with hjz | hjz
  ·rw[aCY hjz,b4 j (by rw[hc7];exact hj)];have e3:c1.toList[j]?=(c1.toList.take ((i+1)*7+(css.drop i).flatten.length))[j]?:=by rw[aCY (by rw[hdl];omega)]
   rw[e3,a3,aCJ (by rw[aCH,aDa,hs];omega),aCH,aDa,hs]
   congr 1;omega
  ·rw[aBZ (by rw[aCH];omega),aBZ (by rw[hdl];omega)]
theorem Ti (ex:List Nat) (B:Nat) (w:World) (u:Value) (g z cap i vb:Nat) (l:List Queue) (b:List aT) (x:aT) (cs:List Value) (h:cP ex B w u (aE (aC ⟨g,0,aD⟩) z cap) l b) (hz:b.length=z) (hi:i<=z) (hz12:z < 12) (hcap:z < cap)
  (hbc:fE w cs x) (hlx:sF x) (hap:∀ s∈cs,∀ a n c,s=aE (aC a) n c->a.block < w.heap.size/\a.block≠g/\B<=a.block/\a.block∉ex/\∀ r,u.ownBlock=aC r->a.block≠r) (hc1:∀ v∈cs,v.oneCell'=true)
  (hvb:w.heap[vb]?=aC (.cells cs.toArray 40 (0,0))) (hne:vb≠g) :
  Calls prog 146 #[aE (aC ⟨g,0,aD⟩) z cap,aA aB (i:Int),aE (aC ⟨vb,0,aD⟩) 1 1] w fun e w'=>
   e=.returned (aE (aC ⟨g,0,aD⟩) (z+1) cap)/\cP ex B w' u (aE (aC ⟨g,0,aD⟩) (z+1) cap) l (b.take i++x::b.drop i)/\w.grownBy w' (aC g):=by
 obtain⟨css,cur,hcur,hcs,htk,hlen,h7,h1,hcm,hgB,hre⟩:=h.rowI hz hi hz12 hcap hbc hlx hap;obtain⟨ib,ib1,ib2,ib3,ib4⟩:=info_parts info40;have hc7:=uW hbc;have hcm':cap<=9223372036854775807:=by unfold maxLen at hcm;omega
 have hnews:∀ (j:Nat) v,cs[j]?=aC v->w.cell? ((⟨vb,0,aD⟩:Addr).add j)=aC v:=fun j v hj=>by
  rw[yL,aBE,cell_of_row w vb j _ _ _ hvb];simpa using hj
 have hb3:¬ (cap=i):=by omega
 rcases aBK i z with hiz | hiz
 ·have hne2:¬ ((i:Int)=(z:Int)):=by omega
  have hdl:(css.drop i).flatten.length=(z - i)*7:=by rw[gU _ (fun c hc=>h7 c (aDb hc)),aDc,hlen]
  have hsz:(prog.info? 40).map (·.size)=aC 7:=by rw[ib1];simp[ib3]
  have hov:∀ lb cb,(callFunc 179 #[aE (aC ⟨vb,0,aD⟩) 1 1,aE (aC ⟨g,(i+1)*7,aD⟩) lb cb]).run prog w=.ok (.value (.bool false)) w:=fun lb cb=>by
   rw[run_callFunc_extern func179 (by kernel_rfl) (by kernel_rfl) (by kernel_rfl) (e:=Extern.SlicesOverlaps.overlaps #[23,23] #[4]) (by kernel_rfl),
    Lib.run_overlaps_apart w 23 4 40 underlying23 7 Tryz.sizeOfBook ⟨vb,0,aD⟩ ⟨g,(i+1)*7,aD⟩ 1 1 lb cb hne _ _ _ _ (Jb hvb) (Jb hcur) (by rw[hcs];omega) (frozen_of_row w vb 0 _ _ hvb) (frozen_of_row w vb _ _ _ hvb)]
   rfl
  have hcell:∀ (j:Nat) v,j < z*7->css.flatten[j]?=aC v->w.cell? ⟨g,j,aD⟩=aC v:=fun j v hj hv=>kG hcur (by rw[<- htk,aCY hj] at hv;exact hv);have hcp1:∀ ty dc sc,(Builtin.copy_ #[23,23] ty #[aE (aC ⟨g,(i+1)*7,aD⟩) (z - i) dc,aE (aC ⟨g,i*7,aD⟩) (z+1 - i) sc]).run prog w.drew=.ok (goInt (aDA (z+1 - i) (z - i))) (w.drew.setCells g ((i+1)*7) (css.drop i).flatten):=fun ty dc sc=>
   rZ w.drew _ _ ty 40 7 g ((i+1)*7) (z - i) dc ⟨g,i*7,aD⟩ (z+1 - i) sc (css.drop i).flatten underlying23 hsz (by rw[hdl];congr 1;simp only[aDB];split <;> omega)
    (fun j v hj=>by
     have hjl:=(aBD.1 hj).1;rw[hdl] at hjl;rw[yL];refine hcell _ v (by omega) ?_;rw[<- eW css h7,aBN] at hj;exact hj)
    (fun j hj=>by
     rw[hdl] at hj;show (w.cell? ⟨g,(i+1)*7+j,aD⟩).isSome=true;rw[cell_of_row w g _ _ _ _ hcur,getElem?_pos cur _ (by rw[hcs];omega)];rfl)
    (fun j hj=>frozen_of_row w g _ _ _ hcur) (fun v hv=>by rw[<- eW css h7] at hv;exact h1 v (aDb hv))
  obtain⟨c1,r1,r2,r3,r4⟩:=La (W:=w.drew) (i:=i) (z:=z) hcur hcs htk hlen h7 hc7 hi hcap;obtain⟨W1,hW1⟩:∃ W1,w.drew.setCells g ((i+1)*7) (css.drop i).flatten=W1:=⟨_,rfl⟩;have hg1:w.drew.grownBy W1 (aC g):=hW1▸eV w.drew g _ _;have hb1:∃ cu,W1.heap[g]?=aC (.cells cu 40 (0,0))/\cu.size=cap*7:=by
   obtain⟨cu,q1,q2,_⟩:=jX (css.drop i).flatten ((i+1)*7) w.drew cur hcur (by rw[hdl,hcs];omega);rw[hW1] at q1;exact⟨cu,q1,q2.trans hcs⟩
  obtain⟨cu,hcu,hcus⟩:=hb1;have hvb1:W1.heap[vb]?=aC (.cells cs.toArray 40 (0,0)):=(hg1.block vb (aBy.1 hvb).1 (fun e=>hne (Option.some.inj e))).trans hvb;have hcp2:∀ ty dc,(Builtin.copy_ #[23,23] ty #[aE (aC ⟨g,i*7,aD⟩) (z+1 - i) dc,aE (aC ⟨vb,0,aD⟩) 1 1]).run prog W1=.ok (goInt (aDA 1 (z+1 - i))) (W1.setCells g (i*7) cs):=fun ty dc=>
   rZ W1 _ _ ty 40 7 g (i*7) (z+1 - i) dc ⟨vb,0,aD⟩ 1 1 cs underlying23 hsz (by rw[hc7];simp only[aDB];split <;> omega)
    (fun j v hj=>by rw[yL,aBE,cell_of_row W1 vb j _ _ _ hvb1];simpa using hj)
    (fun j hj=>by rw[cell_of_row W1 g _ _ _ _ hcu,getElem?_pos cu _ (by rw[hcus];omega)];rfl) (fun j hj=>frozen_of_row W1 g _ _ _ hcu) hc1
  rw[hW1] at hcp1 r1 r4;have HRE:=hid (hre _ c1 (bG (bI (Ext.dr (Ext.rf w))) r4) r1 r2 r3);have HG:=hid (bG (bI (Ext.dr (Ext.rf w))) r4);have HW1:=hid hW1;have hw1:IntKind.i64.wrap ((i:Int)+1)=(i:Int)+1:=by rw[IntKind.wrap_i64];omega
  have hw2:IntKind.i64.wrap ((z:Int)+1)=(z:Int)+1:=by rw[IntKind.wrap_i64];omega
  have hb1:(0:Int)<=(i:Int)+1:=by omega
  have hb2:¬ (cap=i+1):=by omega
  have hb5:(i:Int)+1<=(z:Int)+1:=by omega
  have hb6:(i:Int)<=(z:Int)+1:=by omega
  have hb7:(z:Int)+1<=(cap:Int):=by omega
  have hb8:¬ ((z:Int)+1 > (cap:Int)):=by omega
  have mixed:prog.follows .mixedOrders=true:=by kernel_rfl
  clear h hre hcur htk h1 h7 hvb hnews hbc hap hc1 hW1 hg1 hcu hvb1 r1 r3 r4 hcell;go_enter func146,ntmps146
  go_wp2_with (simp only[hov])
  go_region_law_o (refine step_copy_runI rfl _ _ 23 23 rfl _ _ (by simp[Act.eval,Act.put]) (by simp[Act.eval,Act.put]) (hcp1 _ _ _) ?_)
  go_wp2_with (at_builtin;refine wpList_copy_runI _ rfl _ _ 23 23 rfl _ _ rfl rfl (hcp2 _ _) ?_)
  go_ret;exact⟨rfl,HRE.out,HG.out⟩
 ·obtain rfl:i=z:=by omega
  have HRE:=hid (hre (w.setRow g (cur.toList.take (i*ib.size)++cs++cur.toList.drop (i*ib.size+cs.length)).toArray) _ (bS w g _) (setRow_heap w g cur _ _ _ hcur) (by simp only[aC9,aBk,aCH,aDc,aDa,hc7,ib3,hcs];omega) (by
   rw[ib3,aCM (l:=css) (by omega),show css.drop i=[] from List.drop_eq_nil_of_le (by omega),aD3,aCT,List.flatten_nil,aBi,<- htk,hc7];have e:(cur.toList.take (i*7)++cs).length=(i+1)*7:=by rw[aBk,aCH,aDa,hcs,hc7];omega
   rw[<- e];exact List.take_left))
  have HG:=hid (bS w g (cur.toList.take (i*ib.size)++cs++cur.toList.drop (i*ib.size+cs.length)).toArray);have HCUR:=hid hcur;have HNW:=hid hnews;have HC1:=hid hc1;have HC7:=hid (show cs.length=1*ib.size by rw[hc7,ib3]);have HFIT:=hid (show i*ib.size+cs.length<=cur.size by rw[ib3,hc7,hcs];omega);have HI4:=hid ib4;clear h hre hcur htk h1 h7 hvb hnews hbc hap hc1 ib2 ib3 ib4 hc7 hcs;go_enter func146,ntmps146
  go_wp2_with (at_builtin;refine wW rfl _ _ 23 rfl 40 ib underlying23 ib1 g i cap cur HCUR.out rfl ⟨vb,0,aD⟩ 1 1 cs rfl HC7.out HNW.out HC1.out (by omega) HFIT.out ?_)
  go_ret;have h1:=HRE.out;have h2:=HG.out;rw[aDm] at h1 h2;exact⟨rfl,h1,h2⟩
end Go.Proofs.YtdcndkojmflhnaaGreat
