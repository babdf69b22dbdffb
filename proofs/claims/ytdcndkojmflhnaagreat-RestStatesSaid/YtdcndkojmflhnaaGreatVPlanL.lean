import Derived.Test.YtdcndkojmflhnaaGreatVRoomP
import Derived.Test.YtdcndkojmflhnaaGreatVFind
import Derived.Test.YtdcndkojmflhnaaGreatVCore
import Derived.Deep.RegionHeldLaw
import Derived.Deep.AppendLies
import Derived.WalkKit
import Derived.Deep.RegionHeld3
set_option linter.unusedVariables false
set_option maxRecDepth 100000
set_option maxHeartbeats 8000000
set_option linter.unusedSimpArgs false
namespace Go.Proofs.YtdcndkojmflhnaaGreat
open Tryz
open Go.RowKit
open List renaming getElem_toArray->zA,getElem_cons_zero->zB,getElem_cons_succ->zC,setIfInBounds_toArray->zD,set_cons_zero->zE,set_cons_succ->zF
open _root_.Option renaming some->aC,none->aD
open Go.Value renaming int->aA,slice->aE,ownBlock->aCZ,oneCell'->aBz
open Go.IntKind renaming i64->aB
open Go.World renaming block_lt_of_cell?->aBx,cell?_of_block->aCk,setCell->aCX,ownsRow_nil->aBV,size_alloc->aCl
open _root_.Nat renaming zero_le->aBO,not_lt_zero->aBn,lt_of_lt_of_le->aBA,le_refl->aBq,zero_mul->aBR,zero_add->aBE,succ_mul->aCW,le_trans->aC4
open _root_.List renaming drop_of_length_le->aCV,any_eq_true->aC1,mem_of_getElem?->aBJ,mem_iff_getElem?->aCU,getElem?_eq_some_iff->aBD,mem_cons->aC8,not_mem_nil->aCj,length_nil->aCa,mem_cons_self->aCw,flatten_cons->aCT,getElem?_append_left->aCI,getElem?_append_right->aCJ,mem_cons_of_mem->aBl,length_cons->aBB,getElem?_set_ne->aCA,getElem?_set_self->aCz,getElem?_map->aCL,getElem?_range->aCN,getElem?_take_of_lt->aCY,mem_singleton->aCB,mem_append->aBm,map_cons->aCu,map_nil->aCS
open _root_.Int renaming toNat_of_nonneg->aCr
open _root_.Array renaming ext->aD0,getElem?_eq_getElem->aBT
noncomputable def fG (t:Int) (x:aT):Bool:=decide ((nD x.aP x.aO).1<=t)
def iF (last next:Int):List aT->Bool
 | []=>true
 | x::b=>decide (last < x.Id) && decide (x.Id < next) && iF x.Id next b
theorem lP {last next:Int} {x:aT} {b:List aT} (h:¬ (last < x.Id/\x.Id < next)):iF last next (x::b)=false:=by
 unfold iF;by_cases h1:last < x.Id
 ·rw[deF (fun h2=>h ⟨h1,h2⟩)];simp
 ·rw[deF h1];simp
theorem xU {last next:Int} {x:aT} {b:List aT} (h1:last < x.Id) (h2:x.Id < next):iF last next (x::b)=iF x.Id next b:=by
 show (decide _ && decide _ && iF _ _ _)=_;rw[deT h1,deT h2];simp
def oO (b:List aT) (k:Nat):Int:=if k=0 then -1 else(b.getD (k - 1) default).Id
theorem Aw (b:List aT):oO b 0=-1:=rfl
theorem tG {b:List aT} {k:Nat} {x:aT} (h:b[k]?=aC x):oO b (k+1)=x.Id:=by
 unfold oO;rw[if_neg (by omega),Nat.add_sub_cancel,List.getD_eq_getElem?_getD,h];rfl
def kR (s:aV):Prop:=0<=s.aL/\s.aL<=48/\0<=s.aM/\s.aM<=1048576
instance (s:aV):Decidable (kR s):=inferInstanceAs (Decidable (_/\_/\_/\_))
@[irreducible] noncomputable def fZ (s:aV):Int:=
 if eY s.aN s.aK≠0 then eY s.aN s.aK else if¬ kR s then 3 else if iF (-1) s.aM s.aK=false then 1 else if s.aK.any (fG s.aL)=true then 9 else 0
theorem tP {s:aV} (h:eY s.aN s.aK≠0):fZ s=eY s.aN s.aK:=by unfold fZ;rw[if_pos h]
theorem tO {s:aV} (h:eY s.aN s.aK=0) (h1:¬ kR s):fZ s=3:=by unfold fZ;rw[if_neg (by simp[h]),if_pos h1]
theorem Aa {s:aV} (h:eY s.aN s.aK=0) (h1:kR s) (h2:iF (-1) s.aM s.aK=false):fZ s=1:=by unfold fZ;rw[if_neg (by simp[h]),if_neg (by simpa using h1),if_pos h2]
theorem wL {s:aV} (h:eY s.aN s.aK=0) (h1:kR s) (h2:iF (-1) s.aM s.aK=true) (h3:s.aK.any (fG s.aL)=true):fZ s=9:=by unfold fZ;rw[if_neg (by simp[h]),if_neg (by simpa using h1),if_neg (by simp[h2]),if_pos h3]
theorem xY {s:aV} (h:eY s.aN s.aK=0) (h1:kR s) (h2:iF (-1) s.aM s.aK=true) (h3:s.aK.any (fG s.aL)=false):fZ s=0:=by unfold fZ;rw[if_neg (by simp[h]),if_neg (by simpa using h1),if_neg (by simp[h2]),if_neg (by simp[h3])]
theorem eR {w W:World} {a b c d:Value} {t:TypeId} (hx:Ext (w.alloc (.cells #[a,b,c,d] t)) W) :
  W.cell? ⟨w.heap.size,0,aD⟩=aC a/\W.cell? ⟨w.heap.size,1,aD⟩=aC b/\W.cell? ⟨w.heap.size,2,aD⟩=aC c/\W.cell? ⟨w.heap.size,3,aD⟩=aC d:=by
 have h:=heap_alloc_new w (.cells #[a,b,c,d] t);have k:∀ j v,(#[a,b,c,d]:Array Value)[j]?=aC v->W.cell? ⟨w.heap.size,j,aD⟩=aC v:=fun j v hv=>hx.ce' (by rw[cell_of_row _ _ _ _ _ _ h];exact hv);exact⟨k 0 _ rfl,k 1 _ rfl,k 2 _ rfl,k 3 _ rfl⟩
theorem Ko (w:World) (pv bv:Value) (x:aT) (t:Int) (hp:aU w pv x.aP.aF) (hb:bJ w bv x.aO) :
  Calls prog 81 #[.agg #[aA aB x.Id,aA aB x.aP.aG,aA aB x.aP.aI,aA aB x.aP.aH,aA aB x.aP.aJ,pv,bv],aA aB t] w fun e w'=>e=.returned (.bool (fG t x))/\Ext w w':=by
 have O:=hid (fun(W:World) (h:Ext w W)=>Zy W pv bv x.aP x.aO (hp.mono h) (hb.mono h));have HL:=hid (show fG t x=decide ((nD x.aP x.aO).1<=t) from rfl);obtain⟨pa,pc,rfl,_,_,_⟩:=hp.form;obtain⟨ba,bc,rfl,_,_,_⟩:=hb.form;clear hp hb;generalize fG t x=lt at *;generalize nD x.aP x.aO=ov at *;obtain⟨n,m⟩:=ov;generalize x.aP.aF.length=pn at *;generalize x.aO.length=bn at *;go_enter func81,ntmps81
 go_wp2_with fail
 refine(O.out _ ((Ext.rf w).al _)).mono ?_;rintro e w1 ⟨rfl,hx⟩
 go_wp2_with fail
 go_ret;exact⟨(congrArg (fun b=>Ending.returned (.bool b)) HL.out).symm,((Ext.rf w).al _).tr hx⟩
theorem Xn (w:World) (pv bv:Value) (x:aT) (t:Int) (B:Nat) (hp:aU w pv x.aP.aF) (hb:bJ w bv x.aO) (hc:w.cell? ⟨B,0,aD⟩=aC (aA aB t)) :
  Calls prog 120 #[.agg #[aA aB x.Id,aA aB x.aP.aG,aA aB x.aP.aI,aA aB x.aP.aH,aA aB x.aP.aJ,pv,bv],.pointer (aC ⟨B,0,aD⟩)] w fun e w'=>e=.returned (.bool (fG t x))/\Ext w w':=by
 have O:=hid (fun(W:World) (h:Ext w W)=>Ko W pv bv x t (hp.mono h) (hb.mono h));have hBl:=aBx w _ hc;have hB:B < w.heap.size:=hBl;clear hBl;obtain⟨pa,pc,rfl,_,_,_⟩:=hp.form;obtain⟨ba,bc,rfl,_,_,_⟩:=hb.form;clear hp hb;generalize fG t x=lt at *;generalize x.aP.aF.length=pn at *;generalize x.aO.length=bn at *;go_enter func120,ntmps120
 go_wp2_with fail
 refine(O.out _ ((Ext.rf w).al _)).mono ?_;rintro e w1 ⟨rfl,hx⟩
 go_wp2_with fail
 go_ret;exact⟨rfl,((Ext.rf w).al _).tr hx⟩
theorem uC (w:World) (b off cap:Nat) (f:List aT) (G:Nat) (lb:Array Value) (p:aT->Bool) (hl:f.length<=17592186044416) (hb:b < w.heap.size) (hE:∀ k x,f[k]?=aC x->iR w b (off+k*7) x)
  (heg:∀ (args:Array Value) (w:World),(callFunc G args).run prog w=.ok (.enter G args) w)
  (hp:∀ (k:Nat) (x:aT),f[k]?=aC x->∀ W pv bv,Ext w W->aU W pv x.aP.aF->bJ W bv x.aO->Calls prog G (#[.agg #[aA aB x.Id,aA aB x.aP.aG,aA aB x.aP.aI,aA aB x.aP.aH,aA aB x.aP.aJ,pv,bv]]++lb) W fun e w'=>e=.returned (.bool (p x))/\Ext W w') :
  Calls prog 136 #[aE (aC ⟨b,off,aD⟩) f.length cap,.func (.func G) #[] lb] w fun e w'=>e=.returned (aA aB (fM p f))/\Ext w w':=by
 have HE:=hid hE;have Hp:=hid hp;clear hE hp;generalize hn:f.length=n at *;have Hn:=hid hn;clear hn;go_enter func136,ntmps136
 go_wp2_with fail
 go_loopw [8] (fun i wr=>∃ k:Nat,k<=n/\i=aA aB k/\Hid (∀ j y,j < k->f[j]?=aC y->p y=false)/\Ext w wr) (fun i _=>n - (intOf i).toNat)
 case atStart=>exact⟨0,aBO _,rfl,fun j y hj=>absurd hj (aBn _),Ext.rf _⟩
 case round=>
  obtain⟨k,hk,rfl,Hall,hx⟩:=hrel;have hbw:b < wr.heap.size:=aBA hb hx.size;by_cases hlt:k < n
  ·obtain⟨x,hxk⟩:=bT (f:=f) (k:=k) (by rw[Hn.out];exact hlt);obtain⟨pv,biv,c0,c1,c2,c3,c4,c5,c6,hpv,hbi⟩:=cZ (iR.mono w wr b _ x hx (HE.out k x hxk));have hc:=Hp.out k x hxk wr pv biv hx hpv hbi;have Hc:=hid hc;have Hx:=hid hxk;obtain⟨pa,pc,rfl,_,_,_⟩:=hpv.form;obtain⟨bia,bic,rfl,_,_,_⟩:=hbi.form;clear hc hxk hpv hbi;generalize x.aP.aF.length=pn at *;generalize x.aO.length=bn at *;cases hpx:p x with
   | true=>
    rw[hpx] at Hc;have Hpx:=hid hpx;clear hpx
    go_wp2_with fail
    refine Hc.out.mono ?_;rintro e w1 ⟨rfl,hx1⟩
    go_wp2_with fail
    go_ret;exact⟨bB (qN Hx.out Hpx.out Hall.out).symm,hx.tr hx1⟩
   | false=>
    rw[hpx] at Hc;have Hpx:=hid hpx;clear hpx
    go_wp2_with fail
    refine Hc.out.mono ?_;rintro e w1 ⟨rfl,hx1⟩
    go_wp2_with fail
    go_roundw
    case rel=>exact⟨k+1,by omega,by go_num,mO Hx.out Hpx.out Hall.out,hx.tr hx1⟩
    case measure=>simp[intOf];omega
  ·obtain rfl:k=n:=by omega
   go_wp2_with fail
   go_ret;exact⟨bB (jO (fun j y hj hy=>Hall.out j y (by rw[Hn.out] at hj;exact hj) hy)).symm,hx⟩
theorem yU (w:World) (v:Value) (f:List aT) (G:Nat) (lb:Array Value) (p:aT->Bool) (hv:bD w v f)
  (heg:∀ (args:Array Value) (w:World),(callFunc G args).run prog w=.ok (.enter G args) w)
  (hp:∀ (k:Nat) (x:aT),f[k]?=aC x->∀ W pv bv,Ext w W->aU W pv x.aP.aF->bJ W bv x.aO->Calls prog G (#[.agg #[aA aB x.Id,aA aB x.aP.aG,aA aB x.aP.aI,aA aB x.aP.aH,aA aB x.aP.aJ,pv,bv]]++lb) W fun e w'=>e=.returned (.bool (p x))/\Ext W w') :
  Calls prog 119 #[v,.func (.func G) #[] lb] w fun e w'=>e=.returned (.bool (f.any p))/\Ext w w':=by
 rcases hv with ⟨rfl,a0,c0,rfl,hc0⟩ | ⟨b,off,cap,rfl,h1,h2,h3,⟨h4,_⟩,h5⟩
 ·go_enter func119,ntmps119
  go_wp2
  go_loopw [8] (fun i wr=>i=aA aB 0/\wr=w) (fun i _=>0)
  case atStart=>exact⟨rfl,rfl⟩
  case round=>
   obtain⟨rfl,rfl⟩:=hrel
   go_wp2
   go_ret;exact⟨rfl,Ext.rf _⟩
 ·have hi:=uC w b off cap f G lb p h3 h4 h5 heg hp;have Hi:=hid hi;have ha:=hid (qO p f);clear hi hp h5;generalize fM p f=q at *;generalize hn:f.length=n at *;clear hn;generalize f.any p=r at *;go_enter func119,ntmps119
  go_wp2_with fail
  refine Hi.out.mono ?_;rintro e w1 ⟨rfl,hx1⟩
  go_wp2_with fail
  go_ret;exact⟨(congrArg (fun b=>Ending.returned (.bool b)) ha.out),hx1⟩
theorem Ln (w:World) (tv bv:Value) (s:aV) (hl:aX w tv s.aN) (hb:bD w bv s.aK) :
  Calls prog 68 #[.agg #[aA aB s.aL,aA aB s.aM,tv,bv]] w fun e w'=>e=.returned (aA aB (fZ s))/\Ext w w':=by
 have C:=hid (fun(W:World) (h:Ext w W)=>Ib W tv bv s.aN s.aK (hl.mono h) (hb.mono h));have HB:=hid (fun(W:World) (h:Ext w W)=>hb.mono h);have HS0:=hid (fun(W:World) (hx:Ext (w.alloc (.cells #[aA aB s.aL,aA aB s.aM,tv,bv] 25)) W)=>eR hx);have HX0:=hid ((Ext.rf w).al (.cells #[aA aB s.aL,aA aB s.aM,tv,bv] 25));obtain⟨qa,qc,rfl,_,_,_⟩:=hl.form;obtain⟨ba,bc,rfl,hbc,hbc9,hbl,hbE⟩:=jD hb;have HBE:=hid hbE;clear hl hb hbE;by_cases h0:eY s.aN s.aK=0
 ·rw[h0] at C;by_cases h1:kR s
  ·obtain⟨k1,k2,k3,k4⟩:=h1;have k1':¬ s.aL < 0:=by omega
   have k2':¬ 48 < s.aL:=by omega
   have k3':¬ s.aM < 0:=by omega
   have k4':¬ 1048576 < s.aM:=by omega
   have HI:=hid (fun(h:iF (-1) s.aM s.aK=false)=>Aa h0 ⟨k1,k2,k3,k4⟩ h);have HLt:=hid (fun(h:iF (-1) s.aM s.aK=true) (h3:s.aK.any (fG s.aL)=true)=>wL h0 ⟨k1,k2,k3,k4⟩ h h3);have HOk:=hid (fun(h:iF (-1) s.aM s.aK=true) (h3:s.aK.any (fG s.aL)=false)=>xY h0 ⟨k1,k2,k3,k4⟩ h h3);obtain⟨R,hR⟩:∃ R,iF (-1) s.aM s.aK=R:=⟨_,rfl⟩;have H0:=hid (show iF (oO s.aK 0) s.aM (s.aK.drop 0)=R from hR);rw[hR] at HI HLt HOk;clear h0 k1 k2 k3 k4 hR;generalize fZ s=fe at *;generalize s.aN.length=n at *;generalize hzz:s.aK.length=z at *;have Hz:=hid hzz;clear hzz;go_enter func68,ntmps68
   go_wp2_with fail
   generalize hw1:w.alloc (.cells #[aA aB s.aL,aA aB s.aM,aE qa n qc,aE ba z bc] 25)=w1 at *;refine(C.out _ HX0.out).mono ?_;rintro e w2 ⟨rfl,hx2⟩;obtain⟨a0,a1,a2,a3⟩:=HS0.out w2 hx2;have HX2:=hid hx2;clear hx2 a2
   go_wp2_with fail
   have HA0:=hid a0;have HA1:=hid a1;have HA3:=hid a3;clear a0 a1 a3
   go_loopw [4,36] (fun a c wr=>∃ k:Nat,a=aA aB (oO s.aK k)/\c=aA aB k/\k<=z/\Hid (iF (oO s.aK k) s.aM (s.aK.drop k)=R)/\Ext w2 wr) (fun _ c _=>z - (intOf c).toNat)
   case atStart=>exact⟨0,rfl,rfl,by omega,H0,Ext.rf _⟩
   case round=>
    obtain⟨k,rfl,rfl,hk,HK,hx⟩:=hrel;by_cases hlt:k < z
    ·have hlt':(k:Int) < (z:Int):=by omega
     obtain⟨x,hxk⟩:=bT (f:=s.aK) (k:=k) (by rw[Hz.out];exact hlt);obtain⟨bb,bo,rfl,hbb,hE⟩:=HBE.out (by omega);obtain⟨pv,biv,c0,c1,c2,c3,c4,c5,c6,hp,hbi⟩:=cZ (iR.mono w wr bb _ x ((HX0.out.tr HX2.out).tr hx) (hE k x hxk));have a1:=hx.ce' HA1.out;have hwl:w.heap.size < wr.heap.size:=aBx _ _ a1;have hL:=tG hxk;have hg:=HK.out;rw[yD hxk] at hg;obtain⟨pa,pc,rfl,_,_,_⟩:=hp.form;obtain⟨bia,bic,rfl,_,_,_⟩:=hbi.form;clear hp hbi hE hxk;generalize x.aP.aF.length=pn at *;generalize x.aO.length=bn at *;have HL:=hid hL;clear hL;generalize hla:oO s.aK k=la at *;clear hla;by_cases g1:x.Id<=la
     ·rw[lP (by omega)] at hg;have Hg:=hid (HI.out hg.symm);clear hg
      go_wp2_with fail
      go_ret;exact⟨bB Hg.out.symm,HX0.out.tr (HX2.out.tr (hx.al _))⟩
     ·by_cases g2:x.Id < s.aM
      ·have g2':¬ s.aM<=x.Id:=by omega
       rw[xU (by omega) g2] at hg;have Hg:=hid hg;clear hg
       go_wp2_with fail
       go_roundw
       case rel=>exact⟨k+1,by rw[HL.out],by go_num,by omega,hid (by rw[HL.out];exact Hg.out),hx.al _⟩
       case measure=>simp[intOf];omega
      ·have g2':s.aM<=x.Id:=by omega
       rw[lP (by omega)] at hg;have Hg:=hid (HI.out hg.symm);clear hg
       go_wp2_with fail
       go_ret;exact⟨bB Hg.out.symm,HX0.out.tr (HX2.out.tr (hx.al _))⟩
    ·obtain rfl:k=z:=by omega
     have hlt':¬ (k:Int) < (k:Int):=by omega
     have hR:true=R:=by
      have:=HK.out;rw[aCV (by rw[Hz.out];exact aBq _)] at this;exact this
     subst hR;have a3:=hx.ce' HA3.out;have HA0w:=hid (hx.ce' HA0.out);have HBK:=hid (HB.out _ ((HX0.out.tr HX2.out).tr hx));have CF:=hid (yU wr (aE ba k bc) s.aK 120 #[.pointer (aC ⟨w.heap.size,0,aD⟩)] (fG s.aL) HBK.out (enters_of func120 (by kernel_rfl) rfl) (fun j y hj W pv bv hW hp hb=>Xn W pv bv y s.aL w.heap.size hp hb (hW.ce' HA0w.out)));cases hany:s.aK.any (fG s.aL) with
     | true=>
      rw[hany] at CF;have Hg:=hid (HLt.out rfl hany);clear hany
      go_wp2_with fail
      refine CF.out.mono ?_;rintro e w3 ⟨rfl,hx3⟩
      go_wp2_with fail
      go_ret;exact⟨bB Hg.out.symm,HX0.out.tr (HX2.out.tr (hx.tr hx3))⟩
     | false=>
      rw[hany] at CF;have Hg:=hid (HOk.out rfl hany);clear hany
      go_wp2_with fail
      refine CF.out.mono ?_;rintro e w3 ⟨rfl,hx3⟩
      go_wp2_with fail
      go_ret;exact⟨bB Hg.out.symm,HX0.out.tr (HX2.out.tr (hx.tr hx3))⟩
  ·have HR:=hid (tO h0 h1);have hcase:s.aL < 0\/(¬ s.aL < 0/\48 < s.aL)\/(¬ s.aL < 0/\¬ 48 < s.aL/\s.aM < 0)\/(¬ s.aL < 0/\¬ 48 < s.aL/\¬ s.aM < 0/\1048576 < s.aM):=by
    unfold kR at h1;omega
   clear h0 h1;generalize fZ s=fe at *;generalize s.aN.length=n at *;generalize s.aK.length=z at *;rcases hcase with h1 | ⟨h1,h2⟩ | ⟨h1,h2,h3⟩ | ⟨h1,h2,h3,h4⟩
   all_goals go_enter func68,ntmps68
   all_goals go_wp2_with fail
   all_goals refine(C.out _ HX0.out).mono ?_
   all_goals rintro e w2 ⟨rfl,hx2⟩
   all_goals obtain⟨a0,a1,a2,a3⟩:=HS0.out w2 hx2
   all_goals go_wp2_with fail
   all_goals go_ret
   all_goals exact⟨bB HR.out.symm,HX0.out.tr hx2⟩
 ·have HR:=hid (tP h0);have hne:=neT h0;clear h0;generalize fZ s=fe at *;generalize eY s.aN s.aK=be at *;generalize s.aN.length=n at *;generalize s.aK.length=z at *;go_enter func68,ntmps68
  go_wp2_with fail
  refine(C.out _ HX0.out).mono ?_;rintro e w2 ⟨rfl,hx2⟩
  go_wp2_with fail
  go_ret;exact⟨bB HR.out.symm,HX0.out.tr hx2⟩
@[irreducible] noncomputable def aZ (s:aV):Int:=if fZ s≠0 then fZ s else if(jV s.aN s.aK s.aL.toNat).2.2=true then 10 else 0
theorem sK {s:aV} (h:fZ s≠0):aZ s=fZ s:=by unfold aZ;rw[if_pos h]
theorem vR {s:aV} (h:fZ s=0) (h2:(jV s.aN s.aK s.aL.toNat).2.2=true):aZ s=10:=by unfold aZ;rw[if_neg (by simp[h]),if_pos h2]
theorem uH {s:aV} (h:fZ s=0) (h2:(jV s.aN s.aK s.aL.toNat).2.2=false):aZ s=0:=by unfold aZ;rw[if_neg (by simp[h]),if_neg (by simp[h2])]
theorem cS {s:aV} (h:fZ s=0):eY s.aN s.aK=0/\kR s/\iF (-1) s.aM s.aK=true/\s.aK.any (fG s.aL)=false:=by
 by_cases h0:eY s.aN s.aK=0
 ·by_cases h1:kR s
  ·cases h2:iF (-1) s.aM s.aK with
   | false=>rw[Aa h0 h1 h2] at h;omega
   | true=>
    cases h3:s.aK.any (fG s.aL) with
    | true=>rw[wL h0 h1 h2 h3] at h;omega
    | false=>exact⟨h0,h1,rfl,rfl⟩
  ·rw[tO h0 h1] at h;omega
 ·rw[tP h0] at h;exact absurd h h0
theorem eQ (w:World) (tv bv:Value) (s:aV) (hl:aX w tv s.aN) (hb:bD w bv s.aK) :
  Calls prog 29 #[.agg #[aA aB s.aL,aA aB s.aM,tv,bv]] w fun e w'=>e=.returned (aA aB (aZ s))/\Ext w w':=by
 have F:=hid (fun(W:World) (h:Ext w W)=>Ln W tv bv s (hl.mono h) (hb.mono h));have HS0:=hid (fun(W:World) (hx:Ext (w.alloc (.cells #[aA aB s.aL,aA aB s.aM,tv,bv] 25)) W)=>eR hx);have HX0:=hid ((Ext.rf w).al (.cells #[aA aB s.aL,aA aB s.aM,tv,bv] 25));by_cases h0:fZ s=0
 ·obtain⟨hb0,⟨k1,k2,_,_⟩,_,_⟩:=cS h0;obtain⟨ok,_,h12,hbok⟩:=eF hb0;have T:=hid (fun(W:World) (h:Ext w W)=>show Calls prog 69 #[tv,bv,aA aB s.aL] W (rT W (jV s.aN s.aK s.aL.toNat)) from by
   have:=tC W tv bv s.aN s.aK s.aL.toNat (by omega) (hl.mono h) (hb.mono h) ok hbok h12
   rwa [aCr k1] at this)
  rw[h0] at F;have H1:=hid (vR h0);have H2:=hid (uH h0);obtain⟨qa,qc,rfl,_,_,_⟩:=hl.form;obtain⟨ba,bc,rfl,_,_,_⟩:=hb.form;clear hl hb h0 hb0 ok hbok k1 k2;generalize aZ s=se at *;generalize jV s.aN s.aK s.aL.toNat=tr at *;obtain⟨tt,tq,is⟩:=tr;generalize s.aN.length=n at *;generalize s.aK.length=z at *;go_enter func29,ntmps29
  go_wp2_with fail
  refine(F.out _ HX0.out).mono ?_;rintro e w2 ⟨rfl,hx2⟩;obtain⟨a0,a1,a2,a3⟩:=HS0.out w2 hx2
  go_wp2_with fail
  refine(T.out _ (HX0.out.tr hx2)).mono ?_;rintro e w3 ⟨rfl,hx3⟩;clear a0 a1 a2 a3;cases is with
  | true=>
   have Hg:=hid (H1.out rfl)
   go_wp2_with fail
   go_ret;exact⟨bB Hg.out.symm,HX0.out.tr (hx2.tr hx3)⟩
  | false=>
   have Hg:=hid (H2.out rfl)
   go_wp2_with fail
   go_ret;exact⟨bB Hg.out.symm,HX0.out.tr (hx2.tr hx3)⟩
 ·have HR:=hid (sK h0);have hne:=neT h0;obtain⟨qa,qc,rfl,_,_,_⟩:=hl.form;obtain⟨ba,bc,rfl,_,_,_⟩:=hb.form;clear hl hb h0;generalize aZ s=se at *;generalize fZ s=fe at *;generalize s.aN.length=n at *;generalize s.aK.length=z at *;go_enter func29,ntmps29
  go_wp2_with fail
  refine(F.out _ HX0.out).mono ?_;rintro e w2 ⟨rfl,hx2⟩
  go_wp2_with fail
  go_ret;exact⟨bB HR.out.symm,HX0.out.tr hx2⟩
theorem Rr (w:World) (tv bv:Value) (s:aV) (hl:aX w tv s.aN) (hb:bD w bv s.aK) :
  Calls prog 30 #[.agg #[aA aB s.aL,aA aB s.aM,tv,bv]] w fun e w'=>e=.returned (aA aB (fZ s))/\Ext w w':=by
 have C:=hid (fun(W:World) (h:Ext w W)=>Gv W tv bv s.aN s.aK (hl.mono h) (hb.mono h));have HB:=hid (fun(W:World) (h:Ext w W)=>hb.mono h);have HS0:=hid (fun(W:World) (hx:Ext (w.alloc (.cells #[aA aB s.aL,aA aB s.aM,tv,bv] 25)) W)=>eR hx);have HX0:=hid ((Ext.rf w).al (.cells #[aA aB s.aL,aA aB s.aM,tv,bv] 25));obtain⟨qa,qc,rfl,_,_,_⟩:=hl.form;obtain⟨ba,bc,rfl,hbc,hbc9,hbl,hbE⟩:=jD hb;have HBE:=hid hbE;clear hl hb hbE;by_cases h0:eY s.aN s.aK=0
 ·rw[h0] at C;by_cases h1:kR s
  ·obtain⟨k1,k2,k3,k4⟩:=h1;have HI:=hid (fun(h:iF (-1) s.aM s.aK=false)=>Aa h0 ⟨k1,k2,k3,k4⟩ h);have HLt:=hid (fun(h:iF (-1) s.aM s.aK=true) (h3:s.aK.any (fG s.aL)=true)=>wL h0 ⟨k1,k2,k3,k4⟩ h h3);have HOk:=hid (fun(h:iF (-1) s.aM s.aK=true) (h3:s.aK.any (fG s.aL)=false)=>xY h0 ⟨k1,k2,k3,k4⟩ h h3);have Q1:=hid (fun W=>cE s.aL 0 48 W k1 k2);have Q2:=hid (fun W=>cE s.aM 0 1048576 W k3 k4);obtain⟨R,hR⟩:∃ R,iF (-1) s.aM s.aK=R:=⟨_,rfl⟩;have H0:=hid (show iF (oO s.aK 0) s.aM (s.aK.drop 0)=R from hR);rw[hR] at HI HLt HOk;clear h0 k1 k2 k3 k4 hR;generalize fZ s=fe at *;generalize s.aN.length=n at *;generalize hzz:s.aK.length=z at *;have Hz:=hid hzz;clear hzz;go_enter func30,ntmps30
   go_wp2_with fail
   generalize hw1:w.alloc (.cells #[aA aB s.aL,aA aB s.aM,aE qa n qc,aE ba z bc] 25)=w1 at *;refine(C.out _ HX0.out).mono ?_;rintro e w2 ⟨rfl,hx2⟩;obtain⟨a0,a1,a2,a3⟩:=HS0.out w2 hx2;have HX2:=hid hx2;clear hx2 a2
   go_wp2_with fail
   refine(Q1.out _).mono ?_;rintro e w2' ⟨rfl,hw⟩;obtain rfl:=hw.symm
   go_wp2_with fail
   refine(Q2.out _).mono ?_;rintro e w2' ⟨rfl,hw⟩;obtain rfl:=hw.symm
   go_wp2_with fail
   have HA0:=hid a0;have HA1:=hid a1;have HA3:=hid a3;clear a0 a1 a3
   go_loopw [4] (fun c wr=>∃ k:Nat,c=aA aB k/\k<=z/\Hid (iF (oO s.aK k) s.aM (s.aK.drop k)=R)/\Hid (-1<=oO s.aK k/\(0 < k->0<=oO s.aK k))/\Ext w2 wr) (fun c _=>z - (intOf c).toNat)
   case atStart=>exact⟨0,rfl,by omega,H0,hid ⟨by rw[Aw];omega,fun h=>by omega⟩,Ext.rf _⟩
   case round=>
    obtain⟨k,rfl,hk,HK,HP,hx⟩:=hrel;have a3:=hx.ce' HA3.out;by_cases hlt:k < z
    ·have hlt':(k:Int) < (z:Int):=by omega
     obtain⟨x,hxk⟩:=bT (f:=s.aK) (k:=k) (by rw[Hz.out];exact hlt);obtain⟨bb,bo,rfl,hbb,hE⟩:=HBE.out (by omega);obtain⟨_,_,c0,_⟩:=cZ (iR.mono w wr bb _ x ((HX0.out.tr HX2.out).tr hx) (hE k x hxk));have a1:=hx.ce' HA1.out;have hL:=tG hxk;have hg:=HK.out;rw[yD hxk] at hg;have HL:=hid hL;have HE:=hid hE;have t1:=deF (show ¬ (k:Int) < 0 by omega);have t2:=deF (show ¬ (z:Int)<=(k:Int) by omega);have t3:=deF (show ¬ z<=k by omega);clear hL hxk hE;obtain⟨hp1,hp2⟩:=HP.out;by_cases hk0:k=0
     ·subst hk0;have t4:=deF (show ¬ (0:Int) < ((0:Nat):Int) by omega);have t5:=deF (show ¬ (0:Int) < (0:Int) by omega);rw[Aw] at *;simp only[aBR,Nat.add_zero] at c0;by_cases gA:x.Id < 0
      ·have dA:=deT gA;rw[lP (by omega)] at hg;have Hg:=hid (HI.out hg.symm);clear hg
       go_wp2_with fail
       go_quiet (fail)
       go_wp2_with fail
       go_ret;exact⟨bB Hg.out.symm,HX0.out.tr (HX2.out.tr (hx.dn nq))⟩
      ·have dA:=deF gA;by_cases gB:s.aM<=x.Id
       ·have dB:=deT gB;rw[lP (by omega)] at hg;have Hg:=hid (HI.out hg.symm);clear hg
        go_wp2_with fail
        go_quiet (fail)
        go_wp2_with fail
        go_ret;exact⟨bB Hg.out.symm,HX0.out.tr (HX2.out.tr (hx.dn nq))⟩
       ·have dB:=deF gB;rw[xU (by omega) (by omega)] at hg;have Hg:=hid hg;clear hg
        go_wp2_with fail
        go_quiet (fail)
        go_wp2_with fail
        go_roundw
        case rel=>exact⟨0+1,by go_num,by omega,hid (by rw[HL.out];exact Hg.out),hid (by rw[HL.out];omega),hx.dn nq⟩
        case measure=>simp[intOf];omega
     ·have t4:=deT (show (0:Int) < (k:Int) by omega);have t5:=deT (show 0 < k by omega);obtain⟨y,hyk⟩:=bT (f:=s.aK) (k:=k - 1) (by rw[Hz.out];omega);obtain⟨_,_,d0,_⟩:=cZ (iR.mono w wr bb _ y ((HX0.out.tr HX2.out).tr hx) (HE.out (k - 1) y hyk));have hLy:=tG hyk;rw[show k - 1+1=k by omega] at hLy;rw[hLy] at hg hp1 hp2;have t6:=deF (show ¬ ((k:Int) - 1) < 0 by omega);have t7:=deF (show ¬ (z:Int)<=(k:Int) - 1 by omega);have t8:=deF (show ¬ z<=k - 1 by omega);have i3:(0:Int)<=(k:Int) - 1:=by omega
      have i4:((k:Int) - 1).toNat=k - 1:=by omega
      have i5:IntKind.i64.wrap ((k:Int) - 1)=(k:Int) - 1:=by rw[IntKind.wrap_i64];omega
      clear hyk hLy;by_cases gA:x.Id < 0
      ·have dA:=deT gA;rw[lP (by omega)] at hg;have Hg:=hid (HI.out hg.symm);clear hg
       go_wp2_with fail
       go_quiet (fail)
       go_wp2_with fail
       go_ret;exact⟨bB Hg.out.symm,HX0.out.tr (HX2.out.tr (hx.dn nq))⟩
      ·have dA:=deF gA;by_cases gB:s.aM<=x.Id
       ·have dB:=deT gB;rw[lP (by omega)] at hg;have Hg:=hid (HI.out hg.symm);clear hg
        go_wp2_with fail
        go_quiet (fail)
        go_wp2_with fail
        go_ret;exact⟨bB Hg.out.symm,HX0.out.tr (HX2.out.tr (hx.dn nq))⟩
       ·have dB:=deF gB;by_cases gD:x.Id<=y.Id
        ·have dD:=deT gD;rw[lP (by omega)] at hg;have Hg:=hid (HI.out hg.symm);clear hg
         go_wp2_with fail
         go_quiet (fail)
         go_wp2_with fail
         go_ret;exact⟨bB Hg.out.symm,HX0.out.tr (HX2.out.tr (hx.dn nq))⟩
        ·have dD:=deF gD;rw[xU (by omega) (by omega)] at hg;have Hg:=hid hg;clear hg
         go_wp2_with fail
         go_quiet (fail)
         go_wp2_with fail
         go_roundw
         case rel=>exact⟨k+1,by go_num,by omega,hid (by rw[HL.out];exact Hg.out),hid (by rw[HL.out];omega),hx.dn nq⟩
         case measure=>simp[intOf];omega
    ·obtain rfl:k=z:=by omega
     have hlt':¬ (k:Int) < (k:Int):=by omega
     have hR:true=R:=by
      have:=HK.out;rw[aCV (by rw[Hz.out];exact aBq _)] at this;exact this
     subst hR;have HXw:=hid hx;clear hx HK HP;generalize wr=w3 at *
     go_wp2_with fail
     go_loopw [5] (fun c wr=>∃ j:Nat,c=aA aB j/\j<=k/\Hid (∀ i y,i < j->s.aK[i]?=aC y->fG s.aL y=false)/\Ext w2 wr) (fun c _=>k - (intOf c).toNat)
     case atStart=>exact⟨0,rfl,by omega,hid (fun i y h=>by omega),HXw.out⟩
     case round=>
      clear a3;obtain⟨j,rfl,hj,HN,hx⟩:=hrel;have a3:=hx.ce' HA3.out;by_cases hlj:j < k
      ·have hlj':(j:Int) < (k:Int):=by omega
       obtain⟨x,hxk⟩:=bT (f:=s.aK) (k:=j) (by rw[Hz.out];exact hlj);obtain⟨bb,bo,rfl,hbb,hE⟩:=HBE.out (by omega);obtain⟨pv,biv,c0,c1,c2,c3,c4,c5,c6,hp,hbi⟩:=cZ (iR.mono w wr bb _ x ((HX0.out.tr HX2.out).tr hx) (hE j x hxk));have a0:=hx.ce' HA0.out;have ML:=hid (fun p:bF wr=>fH p (v:=.tuple #[aA aB (nD x.aP x.aO).1,aA aB (nD x.aP x.aO).2]) (Gk p.v pv biv x.aP x.aO (hp.mono p.h) (hbi.mono p.h)));obtain⟨pa,pc,rfl,_,_,_⟩:=hp.form;obtain⟨bia,bic,rfl,_,_,_⟩:=hbi.form;have hov:fG s.aL x=decide ((nD x.aP x.aO).1<=s.aL):=rfl;have HOV:=hid hov;have HXK:=hid hxk;have HA0r:=hid a0;clear hp hbi hE hxk c0 hov a0;have t1:=deF (show ¬ (j:Int) < 0 by omega);have t2:=deF (show ¬ (k:Int)<=(j:Int) by omega);have t3:=deF (show ¬ k<=j by omega);generalize x.aP.aF.length=pn at *;generalize x.aO.length=bn at *;generalize nD x.aP x.aO=ov at *;obtain⟨o1,o2⟩:=ov
       go_wp2_with fail
       replace a3:=fun p:bF wr=>p.cell a3;replace c1:=fun p:bF wr=>p.cell c1;replace c2:=fun p:bF wr=>p.cell c2;replace c3:=fun p:bF wr=>p.cell c3;replace c4:=fun p:bF wr=>p.cell c4;replace c5:=fun p:bF wr=>p.cell c5;replace c6:=fun p:bF wr=>p.cell c6;refine cJ (by kernel_rfl) (by kernel_rfl) ?_
       repeat (go_big_quiet_step (with_reducible exact ML.out _))
       refine wpQuiet_nil ?_;rintro w' ⟨p,rfl⟩;have a0:=p.h.ce' HA0r.out;have HXp:=hid (hx.tr p.h);clear ML a3 c1 c2 c3 c4 c5 c6 HA0r;generalize p.v=W at *;by_cases hlate:o1<=s.aL
       ·have hany:s.aK.any (fG s.aL)=true:=aC1.2 ⟨x,aBJ HXK.out,by rw[HOV.out];exact decide_eq_true hlate⟩;have Hg:=hid (HLt.out (by simp) hany);clear hany
        go_wp2_with fail
        go_ret;exact⟨bB Hg.out.symm,HX0.out.tr (HX2.out.tr HXp.out)⟩
       ·have HN':=hid (mO HXK.out (p:=fG s.aL) (by rw[HOV.out];exact decide_eq_false hlate) HN.out)
        go_wp2_with fail
        go_roundw
        case rel=>exact⟨j+1,by go_num,by omega,HN',HXp.out⟩
        case measure=>simp[intOf];omega
      ·obtain rfl:j=k:=by omega
       have hlj':¬ (j:Int) < (j:Int):=by omega
       have hany:s.aK.any (fG s.aL)=false:=by
        rw[List.any_eq_false];intro y hy;obtain⟨i,hi⟩:=aCU.1 hy;have hil:=(aBD.1 hi).1;rw[HN.out i y (by rw[<- Hz.out];exact hil) hi];simp
       have Hg:=hid (HOk.out (by simp) hany);clear hany
       go_wp2_with fail
       go_ret;exact⟨bB Hg.out.symm,HX0.out.tr (HX2.out.tr hx)⟩
  ·have HR:=hid (tO h0 h1);by_cases hc:0<=s.aL/\s.aL<=48
   ·have Q1:=hid (fun W=>cE s.aL 0 48 W hc.1 hc.2);have Q2:=hid (fun W=>dU s.aM 0 1048576 W (fun h=>h1 ⟨hc.1,hc.2,h.1,h.2⟩));clear h0 h1 hc;generalize fZ s=fe at *;generalize s.aN.length=n at *;generalize s.aK.length=z at *;go_enter func30,ntmps30
    go_wp2_with fail
    refine(C.out _ HX0.out).mono ?_;rintro e w2 ⟨rfl,hx2⟩;obtain⟨a0,a1,a2,a3⟩:=HS0.out w2 hx2
    go_wp2_with fail
    refine(Q1.out _).mono ?_;rintro e w2' ⟨rfl,hw⟩;obtain rfl:=hw.symm
    go_wp2_with fail
    refine(Q2.out _).mono ?_;rintro e w2' ⟨rfl,hw⟩;obtain rfl:=hw.symm
    go_wp2_with fail
    go_ret;exact⟨bB HR.out.symm,HX0.out.tr hx2⟩
   ·have Q1:=hid (fun W=>dU s.aL 0 48 W hc);clear h0 h1 hc;generalize fZ s=fe at *;generalize s.aN.length=n at *;generalize s.aK.length=z at *;go_enter func30,ntmps30
    go_wp2_with fail
    refine(C.out _ HX0.out).mono ?_;rintro e w2 ⟨rfl,hx2⟩;obtain⟨a0,a1,a2,a3⟩:=HS0.out w2 hx2
    go_wp2_with fail
    refine(Q1.out _).mono ?_;rintro e w2' ⟨rfl,hw⟩;obtain rfl:=hw.symm
    go_wp2_with fail
    go_ret;exact⟨bB HR.out.symm,HX0.out.tr hx2⟩
 ·have HR:=hid (tP h0);have hne:=neT h0;clear h0;generalize fZ s=fe at *;generalize eY s.aN s.aK=be at *;generalize s.aN.length=n at *;generalize s.aK.length=z at *;go_enter func30,ntmps30
  go_wp2_with fail
  refine(C.out _ HX0.out).mono ?_;rintro e w2 ⟨rfl,hx2⟩
  go_wp2_with fail
  go_ret;exact⟨bB HR.out.symm,HX0.out.tr hx2⟩
theorem cI (w:World) (tv bv:Value) (s:aV) (hl:aX w tv s.aN) (hb:bD w bv s.aK) :
  Calls prog 10 #[.agg #[aA aB s.aL,aA aB s.aM,tv,bv]] w fun e w'=>e=.returned (aA aB (aZ s))/\Ext w w':=by
 have F:=hid (fun(W:World) (h:Ext w W)=>Rr W tv bv s (hl.mono h) (hb.mono h));have HS0:=hid (fun(W:World) (hx:Ext (w.alloc (.cells #[aA aB s.aL,aA aB s.aM,tv,bv] 25)) W)=>eR hx);have HX0:=hid ((Ext.rf w).al (.cells #[aA aB s.aL,aA aB s.aM,tv,bv] 25));by_cases h0:fZ s=0
 ·obtain⟨hb0,⟨k1,k2,_,_⟩,_,_⟩:=cS h0;obtain⟨ok,_,h12,hbok⟩:=eF hb0;have T:=hid (fun(W:World) (h:Ext w W)=>show Calls prog 31 #[tv,bv,aA aB s.aL] W (rT W (jV s.aN s.aK s.aL.toNat)) from by
   have:=vO W tv bv s.aN s.aK s.aL.toNat (by omega) (hl.mono h) (hb.mono h) ok hbok h12
   rwa [aCr k1] at this)
  rw[h0] at F;have H1:=hid (vR h0);have H2:=hid (uH h0);obtain⟨qa,qc,rfl,_,_,_⟩:=hl.form;obtain⟨ba,bc,rfl,_,_,_⟩:=hb.form;clear hl hb h0 hb0 ok hbok k1 k2;generalize aZ s=se at *;generalize jV s.aN s.aK s.aL.toNat=tr at *;obtain⟨tt,tq,is⟩:=tr;generalize s.aN.length=n at *;generalize s.aK.length=z at *;go_enter func10,ntmps10
  go_wp2_with fail
  refine(F.out _ HX0.out).mono ?_;rintro e w2 ⟨rfl,hx2⟩;obtain⟨a0,a1,a2,a3⟩:=HS0.out w2 hx2
  go_wp2_with fail
  refine(T.out _ (HX0.out.tr hx2)).mono ?_;rintro e w3 ⟨rfl,hx3⟩;clear a0 a1 a2 a3;cases is with
  | true=>
   have Hg:=hid (H1.out rfl)
   go_wp2_with fail
   go_ret;exact⟨bB Hg.out.symm,HX0.out.tr (hx2.tr hx3)⟩
  | false=>
   have Hg:=hid (H2.out rfl)
   go_wp2_with fail
   go_ret;exact⟨bB Hg.out.symm,HX0.out.tr (hx2.tr hx3)⟩
 ·have HR:=hid (sK h0);have hne:=neT h0;obtain⟨qa,qc,rfl,_,_,_⟩:=hl.form;obtain⟨ba,bc,rfl,_,_,_⟩:=hb.form;clear hl hb h0;generalize aZ s=se at *;generalize fZ s=fe at *;generalize s.aN.length=n at *;generalize s.aK.length=z at *;go_enter func10,ntmps10
  go_wp2_with fail
  refine(F.out _ HX0.out).mono ?_;rintro e w2 ⟨rfl,hx2⟩
  go_wp2_with fail
  go_ret;exact⟨bB HR.out.symm,HX0.out.tr hx2⟩
def nZ (b:List aT) (k:Nat):Int:=(b.getD k default).Id
theorem jH {b:List aT} {k:Nat} {x:aT} (h:b[k]?=aC x):nZ b k=x.Id:=by simp[nZ,List.getD,h]
theorem Lz {next:Int}:∀ {b:List aT} {last:Int},iF last next b=true->∀ k,k < b.length->last < nZ b k/\nZ b k < next
 | [],last,_,k,hk=>by simp at hk
 | x::b,last,h,k,hk=>by
  have h1:last < x.Id/\x.Id < next:=by
   apply Classical.byContradiction;intro hn;rw[lP hn] at h;cases h
  rw[xU h1.1 h1.2] at h;cases k with
  | zero=>exact h1
  | succ k=>
   have:=Lz h k (by simpa using hk);have e:nZ (x::b) (k+1)=nZ b k:=rfl;omega
theorem Ew {next:Int}:∀ {b:List aT} {last:Int},iF last next b=true->∀ i j,i < j->j < b.length->nZ b i < nZ b j
 | [],last,_,i,j,_,hj=>by simp at hj
 | x::b,last,h,i,j,hij,hj=>by
  have h1:last < x.Id/\x.Id < next:=by
   apply Classical.byContradiction;intro hn;rw[lP hn] at h;cases h
  rw[xU h1.1 h1.2] at h;obtain⟨j,rfl⟩:∃ m,j=m+1:=⟨j - 1,by omega⟩;have hj':j < b.length:=by simpa using hj
  cases i with
  | zero=>exact(Lz h j hj').1
  | succ i=>exact Ew h i j (by omega) hj'
def rL (id:Int) (x:aT):Bool:=decide (x.Id=id)
@[irreducible] noncomputable def kK (s:aV) (id:Int):Int × Int:=if aZ s≠0 then(0,aZ s) else if 0<=fM (rL id) s.aK then(fM (rL id) s.aK,0) else(0,6)
theorem Af {s:aV} {id:Int} (h:aZ s≠0):kK s id=(0,aZ s):=by unfold kK;rw[if_pos h]
theorem Fg {s:aV} {id:Int} (h:aZ s=0) (h2:0<=fM (rL id) s.aK):kK s id=(fM (rL id) s.aK,0):=by unfold kK;rw[if_neg (by simp[h]),if_pos h2]
theorem yB {s:aV} {id:Int} (h:aZ s=0) (h2:¬ 0<=fM (rL id) s.aK):kK s id=(0,6):=by unfold kK;rw[if_neg (by simp[h]),if_neg h2]
theorem cL {s:aV} (h:aZ s=0):fZ s=0/\(jV s.aN s.aK s.aL.toNat).2.2=false:=by
 by_cases h0:fZ s=0
 ·cases h1:(jV s.aN s.aK s.aL.toNat).2.2 with
  | true=>rw[vR h0 h1] at h;omega
  | false=>exact⟨h0,rfl⟩
 ·rw[sK h0] at h;exact absurd h h0
def InB (b:List aT) (id:Int) (i:Nat):Prop:=i<=b.length/\(∀ j,j < i->nZ b j < id)/\∀ j,i<=j->j < b.length->id<=nZ b j
def aA4 (b:List aT) (id:Int) (i:Nat) (fb:Bool):Prop:=InB b id i/\((fb=true/\fM (rL id) b=i)\/(fb=false/\fM (rL id) b=-1))
theorem Wn {next last:Int} {b:List aT} {id:Int} {i:Nat} {fb:Bool} (hs:iF last next b=true) (h0:i<=b.length) (h1:∀ j,j < i->nZ b j < id) (h2:∀ j,i<=j->j < b.length->id<=nZ b j) (h3:fb=true↔i < b.length/\nZ b i=id):aA4 b id i fb:=by
 refine⟨⟨h0,h1,h2⟩,?_⟩;cases fb with
 | true=>
  obtain⟨hi,he⟩:=h3.1 rfl;obtain⟨x,hx⟩:=bT (f:=b) (k:=i) hi;rw[jH hx] at he;exact .inl ⟨rfl,qN hx (by unfold rL;exact decide_eq_true he) (fun j y hj hy=>by
   have:=h1 j hj;rw[jH hy] at this;unfold rL;exact decide_eq_false (by omega))⟩
 | false=>
  refine .inr ⟨rfl,jO (fun j y hj hy=>?_)⟩;unfold rL;refine decide_eq_false (fun he=>?_);have e:=jH hy;have hji:i<=j:=by
   apply Classical.byContradiction;intro hc;have:=h1 j (by omega);omega
  by_cases hij:i=j
  ·subst hij;have:=h3.2 ⟨hj,by rw[e];exact he⟩;cases this
  ·have h4:=h2 i (aBq _) (by omega);have h5:=Ew hs i j (by omega) hj;omega
def Km (f:List aT) (t:Int) (w:World) (e:Ending) (w':World):Prop:=∃ (i:Nat) (b:Bool),e=.returned (.tuple #[aA aB i,.bool b])/\aA4 f t i b/\Ext w w'
theorem Gc (w:World) (pv bv:Value) (x:aT) (id:Int) (hp:aU w pv x.aP.aF) (hb:bJ w bv x.aO) (h1:0<=x.Id) (h2:x.Id<=1048576) (h3:0<=id) (h4:id<=1048576) :
  Calls prog 169 #[.agg #[aA aB x.Id,aA aB x.aP.aG,aA aB x.aP.aI,aA aB x.aP.aH,aA aB x.aP.aJ,pv,bv],aA aB id] w fun e w'=>e=.returned (aA aB (x.Id - id))/\Ext w w':=by
 have hw:IntKind.i64.wrap (x.Id - id)=x.Id - id:=by rw[IntKind.wrap_i64] <;> omega
 obtain⟨pa,pc,rfl,_,_,_⟩:=hp.form;obtain⟨ba,bc,rfl,_,_,_⟩:=hb.form;clear hp hb;generalize x.aP.aF.length=pn at *;generalize x.aO.length=bn at *;go_enter func169,ntmps169
 go_wp2
 go_ret;exact⟨rfl,(Ext.rf w).al _⟩
theorem No (w:World) (v:Value) (f:List aT) (t next:Int) (hs:iF (-1) next f=true) (hn:next<=1048576) (hv:bD w v f) (h12:f.length<=12) (h2:0<=t) (h3:t<=1048576) :
  Calls prog 168 #[v,aA aB t,.func (.func 169) #[] #[]] w (Km f t w):=by
 have HF:=hid (fun(i:Nat) (b:Bool) (h0:i<=f.length) (h1:∀ j,j < i->nZ f j < t) (h2:∀ j,i<=j->j < f.length->t<=nZ f j) (h3:b=true↔i < f.length/\nZ f i=t)=>Wn hs h0 h1 h2 h3);have HI:=hid (fun k (hk:k < f.length)=>show 0<=nZ f k/\nZ f k<=1048576 from by have:=Lz hs k hk;omega);have HM:=hid (fun i j (hij:i < j) (hj:j < f.length)=>Ew hs i j hij hj);obtain⟨ba,bc,rfl,_,hm,_,hE⟩:=jD hv;have HE:=hid hE;clear hs hv hE;generalize hnn:f.length=n at *;have Hn:=hid hnn;clear hnn;go_enter func168,ntmps168
 go_wp2_with fail
 go_loopw [9,10] (fun a c wr=>∃ i j:Nat,i<=j/\j<=n/\a=aA aB i/\c=aA aB j/\Hid ((∀ m,m < i->nZ f m < t)/\(∀ m,j<=m->m < n->t<=nZ f m))/\Ext w wr) (fun a c _=>(intOf c - intOf a).toNat)
 case atStart=>exact⟨0,n,aBO _,aBq _,rfl,rfl,⟨fun m hm=>absurd hm (aBn _),fun m h1 h2=>by omega⟩,Ext.rf _⟩
 case round=>
  obtain⟨i,j,hij,hjn,rfl,rfl,H,hx⟩:=hrel;by_cases hlt:i < j
  ·obtain⟨x,hxm⟩:=bT (f:=f) (k:=(i+j) / 2) (by rw[Hn.out];omega);obtain⟨b,off,rfl,hb,hEE⟩:=HE.out (by omega);obtain⟨pv,biv,c0,c1,c2,c3,c4,c5,c6,hp,hbi⟩:=cZ (iR.mono w wr b _ x hx (hEE ((i+j) / 2) x hxm));have hr:=HI.out ((i+j) / 2) (by omega);rw[jH hxm] at hr;have CM:=hid (fun(W:World) (h:Ext wr W)=>Gc W pv biv x t (hp.mono h) (hbi.mono h) hr.1 hr.2 h2 h3);have CM1:=hid (CM.out wr (Ext.rf wr));obtain⟨pa,pc,rfl,_,_,_⟩:=hp.form;obtain⟨bia,bic,rfl,_,_,_⟩:=hbi.form;have hid_:=jH hxm;have Hx:=hid hid_;clear hxm hp hbi hEE hid_ CM;generalize x.aP.aF.length=pn at *;generalize x.aO.length=bn at *;by_cases hc:x.Id < t
   ·have hc':x.Id - t < 0:=by omega
    have HN:=hid (show ∀ m,m < (i+j) / 2+1->nZ f m < t from fun m hm=>by
     by_cases e:m=(i+j) / 2
     ·rw[e,Hx.out];exact hc
     ·have:=HM.out m ((i+j) / 2) (by omega) (by omega);rw[Hx.out] at this;omega)
    go_wp2_with (go_at_call 169;refine CM1.out.mono ?_;rintro e w1 ⟨rfl,hx1⟩)
    go_roundw
    case rel=>exact⟨(i+j) / 2+1,j,by omega,by omega,by go_num,rfl,⟨HN.out,H.out.2⟩,hx.tr hx1⟩
    case measure=>simp[intOf];omega
   ·have hc':¬ x.Id - t < 0:=by omega
    have HN:=hid (show ∀ m,(i+j) / 2<=m->m < n->t<=nZ f m from fun m hm hmn=>by
     by_cases e:m=(i+j) / 2
     ·rw[e,Hx.out];omega
     ·have:=HM.out ((i+j) / 2) m (by omega) hmn;rw[Hx.out] at this;omega)
    go_wp2_with (go_at_call 169;refine CM1.out.mono ?_;rintro e w1 ⟨rfl,hx1⟩)
    go_roundw
    case rel=>exact⟨i,(i+j) / 2,by omega,by omega,rfl,by go_num,⟨H.out.1,HN.out⟩,hx.tr hx1⟩
    case measure=>simp[intOf];omega
  ·obtain rfl:i=j:=by omega
   by_cases hin:i < n
   ·obtain⟨x,hxm⟩:=bT (f:=f) (k:=i) (by rw[Hn.out];omega);obtain⟨b,off,rfl,hb,hEE⟩:=HE.out (by omega);obtain⟨pv,biv,c0,c1,c2,c3,c4,c5,c6,hp,hbi⟩:=cZ (iR.mono w wr b _ x hx (hEE i x hxm));have hr:=HI.out i hin;rw[jH hxm] at hr;have CM1:=hid (Gc wr pv biv x t hp hbi hr.1 hr.2 h2 h3);obtain⟨pa,pc,rfl,_,_,_⟩:=hp.form;obtain⟨bia,bic,rfl,_,_,_⟩:=hbi.form;have Hx:=hid (jH hxm);have hin':(i:Int) < (n:Int):=by omega
    clear hxm hp hbi hEE;generalize x.aP.aF.length=pn at *;generalize x.aO.length=bn at *;by_cases hc:x.Id=t
    ·have hq:=eqT (a:=x.Id - t) (b:=0) (by omega);have HR:=hid (HF.out i true hjn H.out.1 H.out.2 ⟨fun _=>⟨hin,by rw[Hx.out];exact hc⟩,fun _=>rfl⟩);clear hc
     go_wp2_with (go_at_call 169;refine CM1.out.mono ?_;rintro e w1 ⟨rfl,hx1⟩)
     go_ret2
     exact⟨i,true,rfl,HR.out,hx.tr hx1⟩
    ·have hq:=eqF (a:=x.Id - t) (b:=0) (by omega);have HR:=hid (HF.out i false hjn H.out.1 H.out.2 ⟨fun h=>(by cases h),fun h=>by rw[Hx.out] at h;exact absurd h.2 hc⟩)
     go_wp2_with (go_at_call 169;refine CM1.out.mono ?_;rintro e w1 ⟨rfl,hx1⟩)
     go_ret2
     exact⟨i,false,rfl,HR.out,hx.tr hx1⟩
   ·have hin':¬ (i:Int) < (n:Int):=by omega
    have HR:=hid (HF.out i false hjn H.out.1 H.out.2 ⟨fun h=>(by cases h),fun h=>absurd h.1 hin⟩)
    go_wp2_with fail
    go_ret2
    exact⟨i,false,rfl,HR.out,hx⟩
theorem Kk (w:World) (v:Value) (f:List aT) (t next:Int) (hs:iF (-1) next f=true) (hn:next<=1048576) (hv:bD w v f) (h12:f.length<=12) (h2:0<=t) (h3:t<=1048576) :
  Calls prog 135 #[v,aA aB t] w (Km f t w):=by
 have S:=hid (No w v f t next hs hn hv h12 h2 h3);obtain⟨ba,bc,rfl,_,_,_⟩:=hv.form;clear hs hv;generalize f.length=n at *;go_enter func135,ntmps135
 go_wp2_with fail
 refine S.out.mono ?_;rintro e w1 ⟨i,b,rfl,hf,hx⟩;have HFB:=hid hf;clear hf
 go_wp2_with fail
 go_ret2
 exact⟨i,b,rfl,HFB.out,hx⟩
theorem Lo (w:World) (tv bv:Value) (s:aV) (id:Int) (hl:aX w tv s.aN) (hb:bD w bv s.aK) :
  Calls prog 77 #[.agg #[aA aB s.aL,aA aB s.aM,tv,bv],aA aB id] w (rU w (kK s id)):=by
 have F:=hid (fun(W:World) (h:Ext w W)=>eQ W tv bv s (hl.mono h) (hb.mono h));have HS0:=hid (fun(W:World) (hx:Ext (w.alloc (.cells #[aA aB s.aL,aA aB s.aM,tv,bv] 25)) W)=>eR hx);have HX0:=hid ((Ext.rf w).al (.cells #[aA aB s.aL,aA aB s.aM,tv,bv] 25));by_cases h0:aZ s=0
 ·obtain⟨hf0,_⟩:=cL h0;obtain⟨hb0,⟨_,_,k3,k4⟩,hids,_⟩:=cS hf0;obtain⟨_,_,h12,_⟩:=eF hb0;rw[h0] at F;by_cases hr:0<=id/\id < s.aM
  ·have WH:=hid (fun(W:World) (h:Ext w W)=>Kk W bv s.aK id s.aM hids k4 (hb.mono h) h12 hr.1 (by omega));have H1:=hid (Fg (id:=id) h0);have H2:=hid (yB (id:=id) h0);obtain⟨g1,g2⟩:=hr;have g1':¬ id < 0:=by omega
   have g2':¬ s.aM<=id:=by omega
   obtain⟨qa,qc,rfl,_,_,_⟩:=hl.form;obtain⟨ba,bc,rfl,_,_,_⟩:=hb.form;clear hl hb h0 hf0 hb0 hids k3 k4;generalize kK s id=fr at *;generalize s.aN.length=n at *;generalize s.aK.length=z at *;go_enter func77,ntmps77
   go_wp2_with fail
   refine(F.out _ HX0.out).mono ?_;rintro e w2 ⟨rfl,hx2⟩;obtain⟨a0,a1,a2,a3⟩:=HS0.out w2 hx2
   go_wp2_with fail
   refine(WH.out _ (HX0.out.tr hx2)).mono ?_;rintro e w3 ⟨i,b,rfl,hfb,hx3⟩;obtain⟨_,hfb⟩:=hfb;rcases hfb with ⟨rfl,hi⟩ | ⟨rfl,hi⟩
   ·have Hg:=hid (H1.out (by rw[hi];omega));rw[hi] at Hg;clear hi a0 a1 a2 a3
    go_wp2_with fail
    go_ret2
    exact dH Hg.out (HX0.out.tr (hx2.tr hx3))
   ·have Hg:=hid (H2.out (by rw[hi];omega));clear hi a0 a1 a2 a3
    go_wp2_with fail
    go_ret2
    exact dH Hg.out (HX0.out.tr (hx2.tr hx3))
  ·have hno:fM (rL id) s.aK=-1:=jO (fun j y hj hy=>by
    have:=Lz hids j hj;rw[jH hy] at this;unfold rL;exact decide_eq_false (by omega))
   have Hg:=hid (yB (id:=id) h0 (by rw[hno];omega));obtain⟨qa,qc,rfl,_,_,_⟩:=hl.form;obtain⟨ba,bc,rfl,_,_,_⟩:=hb.form;clear hl hb h0 hf0 hb0 hids hno;generalize kK s id=fr at *;generalize s.aN.length=n at *;generalize s.aK.length=z at *;by_cases g1:id < 0
   ·go_enter func77,ntmps77
    go_wp2_with fail
    refine(F.out _ HX0.out).mono ?_;rintro e w2 ⟨rfl,hx2⟩;obtain⟨a0,a1,a2,a3⟩:=HS0.out w2 hx2
    go_wp2_with fail
    go_ret2
    exact dH Hg.out (HX0.out.tr hx2)
   ·have g2:s.aM<=id:=by omega
    go_enter func77,ntmps77
    go_wp2_with fail
    refine(F.out _ HX0.out).mono ?_;rintro e w2 ⟨rfl,hx2⟩;obtain⟨a0,a1,a2,a3⟩:=HS0.out w2 hx2
    go_wp2_with fail
    go_ret2
    exact dH Hg.out (HX0.out.tr hx2)
 ·have HR:=hid (Af (id:=id) h0);have hne:=neT h0;obtain⟨qa,qc,rfl,_,_,_⟩:=hl.form;obtain⟨ba,bc,rfl,_,_,_⟩:=hb.form;clear hl hb h0;generalize kK s id=fr at *;generalize aZ s=fe at *;generalize s.aN.length=n at *;generalize s.aK.length=z at *;go_enter func77,ntmps77
  go_wp2_with fail
  refine(F.out _ HX0.out).mono ?_;rintro e w2 ⟨rfl,hx2⟩
  go_wp2_with fail
  go_ret2
  exact dH HR.out (HX0.out.tr hx2)
theorem Sr (w:World) (tv bv:Value) (s:aV) (id:Int) (hl:aX w tv s.aN) (hb:bD w bv s.aK) :
  Calls prog 156 #[.agg #[aA aB s.aL,aA aB s.aM,tv,bv],aA aB id] w fun e w'=>e=.returned (aA aB (fM (rL id) s.aK))/\Ext w w':=by
 have HS0:=hid (fun(W:World) (hx:Ext (w.alloc (.cells #[aA aB s.aL,aA aB s.aM,tv,bv] 25)) W)=>eR hx);have HX0:=hid ((Ext.rf w).al (.cells #[aA aB s.aL,aA aB s.aM,tv,bv] 25));obtain⟨qa,qc,rfl,_,_,_⟩:=hl.form;obtain⟨ba,bc,rfl,_,_,_,hE⟩:=jD hb;have HE:=hid hE;have HDF:=hid (fun(x:aT)=>show rL id x=decide (x.Id=id) from rfl);clear hl hb hE;generalize s.aN.length=n at *;generalize hzz:s.aK.length=z at *;have Hz:=hid hzz;clear hzz;go_enter func156,ntmps156
 go_wp2_with fail
 generalize hw1:w.alloc (.cells #[aA aB s.aL,aA aB s.aM,aE qa n qc,aE ba z bc] 25)=w1 at *
 go_loopw [5] (fun c wr=>∃ k:Nat,c=aA aB k/\k<=z/\Hid (∀ j y,j < k->s.aK[j]?=aC y->rL id y=false)/\Ext w1 wr) (fun c _=>z - (intOf c).toNat)
 case atStart=>exact⟨0,rfl,by omega,hid (fun j y hj=>absurd hj (aBn _)),Ext.rf _⟩
 case round=>
  obtain⟨k,rfl,hk,Hall,hx⟩:=hrel;obtain⟨_,_,_,a3⟩:=HS0.out wr hx;by_cases hlt:k < z
  ·have hlt':(k:Int) < (z:Int):=by omega
   obtain⟨x,hxk⟩:=bT (f:=s.aK) (k:=k) (by rw[Hz.out];exact hlt);obtain⟨b,off,rfl,hb,hEE⟩:=HE.out (by omega);obtain⟨_,_,c0,_⟩:=cZ (iR.mono w wr b _ x (HX0.out.tr hx) (hEE k x hxk));have Hx:=hid hxk;clear hxk hEE;by_cases hc:x.Id=id
   ·have hq:=eqT hc;have HR:=hid (qN Hx.out (by rw[HDF.out];exact decide_eq_true hc) Hall.out);clear hc
    go_wp2_with fail
    go_ret;exact⟨bB HR.out.symm,HX0.out.tr hx⟩
   ·have hq:=eqF hc;have HN:=hid (mO Hx.out (p:=rL id) (by rw[HDF.out];exact decide_eq_false hc) Hall.out);clear hc
    go_wp2_with fail
    go_roundw
    case rel=>exact⟨k+1,by go_num,by omega,HN,hx⟩
    case measure=>simp[intOf];omega
  ·obtain rfl:k=z:=by omega
   have hlt':¬ (k:Int) < (k:Int):=by omega
   have HR:=hid (jO (p:=rL id) (xs:=s.aK) (fun j y hj hy=>Hall.out j y (by rw[Hz.out] at hj;exact hj) hy))
   go_wp2_with fail
   go_ret;exact⟨bB HR.out.symm,HX0.out.tr hx⟩
theorem Mp (w:World) (tv bv:Value) (s:aV) (id:Int) (hl:aX w tv s.aN) (hb:bD w bv s.aK) :
  Calls prog 96 #[.agg #[aA aB s.aL,aA aB s.aM,tv,bv],aA aB id] w (rU w (kK s id)):=by
 have F:=hid (fun(W:World) (h:Ext w W)=>cI W tv bv s (hl.mono h) (hb.mono h));have BA:=hid (fun(W:World) (h:Ext w W)=>Sr W tv bv s id (hl.mono h) (hb.mono h));have HS0:=hid (fun(W:World) (hx:Ext (w.alloc (.cells #[aA aB s.aL,aA aB s.aM,tv,bv] 25)) W)=>eR hx);have HX0:=hid ((Ext.rf w).al (.cells #[aA aB s.aL,aA aB s.aM,tv,bv] 25));obtain⟨qa,qc,rfl,_,_,_⟩:=hl.form;obtain⟨ba,bc,rfl,_,_,_⟩:=hb.form;clear hl hb;by_cases h0:aZ s=0
 ·have H1:=hid (Fg (id:=id) h0);have H2:=hid (yB (id:=id) h0);rw[h0] at F;clear h0;generalize kK s id=fr at *;generalize fM (rL id) s.aK=ix at *;generalize s.aN.length=n at *;generalize s.aK.length=z at *;go_enter func96,ntmps96
  go_wp2_with fail
  refine(F.out _ HX0.out).mono ?_;rintro e w2 ⟨rfl,hx2⟩;obtain⟨a0,a1,a2,a3⟩:=HS0.out w2 hx2
  go_wp2_with fail
  refine(BA.out _ (HX0.out.tr hx2)).mono ?_;rintro e w3 ⟨rfl,hx3⟩;clear a0 a1 a2 a3;by_cases hi:0<=ix
  ·have Hg:=hid (H1.out hi)
   go_wp2_with fail
   go_ret2
   exact dH Hg.out (HX0.out.tr (hx2.tr hx3))
  ·have Hg:=hid (H2.out (by omega))
   go_wp2_with fail
   go_ret2
   exact dH Hg.out (HX0.out.tr (hx2.tr hx3))
 ·have HR:=hid (Af (id:=id) h0);have hne:=neT h0;clear h0;generalize kK s id=fr at *;generalize aZ s=fe at *;generalize s.aN.length=n at *;generalize s.aK.length=z at *;go_enter func96,ntmps96
  go_wp2_with fail
  refine(F.out _ HX0.out).mono ?_;rintro e w2 ⟨rfl,hx2⟩
  go_wp2_with fail
  go_ret2
  exact dH HR.out (HX0.out.tr hx2)
theorem jY (W:World) (T sz:Nat) (h:0 < sz):(W.alloc (.cells #[] T)).ownsRow W.heap.size T sz (aE (aC ⟨W.heap.size,0,aD⟩) 0 0) 0 []:=
 ⟨by simp,.inr ⟨W.heap.size,0,#[],rfl,aBq _,heap_alloc_new W _,aBq _,by decide,by simp,by simp⟩⟩
theorem mK {α:Type} {f g:α->Int} {w:World} {b off:Nat} {xs:List α} (hE:∀ k x,xs[k]?=aC x->E2 f g w b (off+k*2) x):∀ (j:Nat) u,(cF f g xs)[j]?=aC u->w.cell? ((⟨b,off,aD⟩:Addr).add j)=aC u:=by
 intro j u hj;have hjl:=(aBD.1 hj).1;rw[gC] at hjl;have hk:j / 2 < xs.length:=by omega
 obtain⟨x,hx⟩:∃ x,xs[j / 2]?=aC x:=⟨_,List.getElem?_eq_getElem hk⟩;obtain⟨e1,e2,_⟩:=hE _ x hx;obtain⟨g1,g2⟩:=mR f g xs (j / 2) x hx;have ha:(⟨b,off,aD⟩:Addr).add j=⟨b,off+j,aD⟩:=by unfold Addr.add;split <;> simp_all
 rw[ha];by_cases hp:j % 2=0
 ·rw[show j / 2*2=j by omega] at g1 e1;rw[hj] at g1;rw[e1,<- g1]
 ·rw[show j / 2*2+1=j by omega] at g2;rw[hj] at g2;rw[show off+j=off+j / 2*2+1 by omega,e2,<- g2]
theorem oN {α:Type} {f g:α->Int} (xs:List α):∀ u∈cF f g xs,u.oneCell'=true:=by
 intro u hu;unfold cF at hu;obtain⟨x,_,hx⟩:=List.mem_flatMap.1 hu;simp only[aC8,aCj,or_false] at hx;rcases hx with rfl | rfl <;> rfl
theorem yW (w:World) (v:Value) (f:List Run) (hv:bC w v f) (hl:f.length<=48) :
  Calls prog 83 #[v] w (nO w f):=by
 obtain⟨ir,ir1,ir2,ir3,ir4⟩:=info_parts info48;obtain⟨a,cap,rfl,hc1,hc2,_⟩:=hv.form;cases a with
 | none=>
  have hf:f=[]:=by
   rcases hv with ⟨h,_⟩ | ⟨b,off,c,e,_⟩
   ·exact h
   ·cases e
  subst hf;clear hv;rw[aCa];have he:∀ W,Sem.run prog (binOp .eql 29 (aE aD 0 cap) (aE aD 0 0)) W=.ok (.bool true) W:=fun W=>rfl;go_enter func83,ntmps83
  go_wp2_with fail
  go_ret;exact⟨_,rfl,SV.nil,(fun a n c h=>by have h':aE aD 0 0=aE (aC a) n c:=h;cases h'),Ext.rf w⟩
 | some ad=>
  have hnews:∀ (j:Nat) u,(cF Run.At Run.N f)[j]?=aC u->w.cell? (ad.add j)=aC u:=by
   rcases hv with ⟨rfl,_⟩ | ⟨b,off,c,e,_,_,_,_,hE⟩
   ·intro j u h;simp[cF] at h
   ·cases e;exact mK hE
  have hI:∀ r∈f,I64 r.At/\I64 r.N:=by
   rcases hv with ⟨rfl,_⟩ | ⟨b,off,c,e,_,_,_,_,hE⟩
   ·intro r hr;cases hr
   ·intro r hr;obtain⟨k,hk⟩:=aCU.1 hr;obtain⟨_,_,i1,i2⟩:=hE k r hk;exact⟨i1,i2⟩
  have HN:=hid hnews;have HI:=hid hI;have hlen:=gC Run.At Run.N f;have HL:=hid hlen;have hown:=jY w 48 2 (by omega);clear hv hnews hI hlen;generalize hn:f.length=n at *;have Hn:=hid hn;clear hn;have he:∀ W,Sem.run prog (binOp .eql 29 (aE (aC ad) n cap) (aE aD 0 0)) W=.ok (.bool false) W:=fun W=>rfl;go_enter func83,ntmps83
  go_wp2_with (at_builtin;refine wpList_append_own _ rfl _ _ 29 rfl w.heap.size 48 ir _ 2 16 underlying29 ir1 ir2 ir3 ir4 rfl (by decide) _ _ _ rfl hown ad n cap (cF Run.At Run.N f) rfl HL.out (fun j u hj=>eG ((Ext.rf w).al _) (HN.out j u hj)) (oN f) (by unfold maxLen;omega) (by omega) (by simp) ?_)
  intro v2 W2 hown2 hgrow2 hnil2;have HO:=hid hown2;have HX:=hid (((Ext.rf w).al (.cells #[] 48)).gr hgrow2 (fun k hk=>by cases hk;exact aBq _));clear hown2 hgrow2 hnil2 hown
  go_wp2_with fail
  go_ret;refine⟨_,rfl,cG (base:=w.heap.size) (e:=48) ?_ HI.out (by rw[Hn.out];omega),uL HO.out,HX.out⟩;have h:=HO.out;rw[Hn.out];simpa using h
open Go.RowKit Go.ChangeShapes Go.WideShapes Go.Deep
theorem Bc {α:Type} {m:Nat} (hm:0 < m):∀ (css:List (List α)),(∀ cs∈css,cs.length=m)->∀ k j,j < m->css.flatten[k*m+j]?=(css[k]?).bind (fun cs=>cs[j]?)
 | [],_,k,j,_=>by simp
 | cs::css,h,k,j,hj=>by
  have h1:=h cs (aCw ..);rw[aCT];cases k with
  | zero=>
   rw[aBR,aBE,aCI (by omega)];rfl
  | succ k=>
   have e:(k+1)*m=k*m+m:=by rw[aCW]
   rw[aCJ (by omega),h1,show (k+1)*m+j - m=k*m+j by omega,Bc hm css (fun c hc=>h c (aBl _ hc)) k j hj];rfl
theorem Ab {α:Type} {m:Nat}:∀ (css:List (List α)),(∀ cs∈css,cs.length=m)->css.flatten.length=css.length*m
 | [],_=>by simp
 | cs::css,h=>by
  rw[aCT,List.length_append,h cs (aCw ..),Ab css (fun c hc=>h c (aBl _ hc)),aBB,aCW];omega
def gL (bs:List Nat) (W:World) (g:Nat) (l:List Queue):Prop:=
 ∃ vs:List Value,gF 46 W g vs/\∀ j x,l[j]?=aC x->vs[j*3]?=aC (.string x.aQ)/\x.aQ.size<=9223372036854775807/\vs[j*3+1]?=aC (aA aB x.aR)/\I64 x.aR/\∃ cv,vs[j*3+2]?=aC cv/\bC W cv x.Cap/\bU (g::bs) cv
def fJ (m j k base:Nat) (W:World) (g:Nat):Prop:=g < W.heap.size/\∀ i,i < k->∀ a n c,W.cell? ⟨g,i*m+j,aD⟩=aC (aE (aC a) n c)->base<=a.block
theorem fJ.zero {m j base:Nat} {W:World} {g:Nat} (h:g < W.heap.size):fJ m j 0 base W g:=⟨h,fun i hi=>by omega⟩
theorem fJ.ext {m j k base:Nat} {W W':World} {g:Nat} (h:fJ m j k base W g) (hx:Ext W W'):fJ m j k base W' g:=
 ⟨aBA h.1 hx.size,fun i hi a n c e=>h.2 i hi a n c (by rw[<- hx.ce h.1];exact e)⟩
theorem fJ.kept {m j k base r:Nat} {W W':World} {g:Nat} (h:fJ m j k base W g) (hg:W.grownBy W' (aC r)) (hr:g≠r):fJ m j k base W' g:=
 ⟨aBA h.1 hg.size,fun i hi a n c e=>h.2 i hi a n c (by rw[<- aCk (a:=⟨g,i*m+j,aD⟩) (hg.block g h.1 (fun e=>hr (Option.some.inj e)))];exact e)⟩
theorem fJ.less {m j k l base b2:Nat} {W:World} {g:Nat} (h:fJ m j k base W g) (hl:l<=k) (hb:b2<=base):fJ m j l b2 W g:=
 ⟨h.1,fun i hi a n c e=>aC4 hb (h.2 i (by omega) a n c e)⟩
theorem fJ.other {m j k base o:Nat} {W:World} {g:Nat} (h:fJ m j k base W g) (ho:∀ i,i < k->i*m+j≠o) (u:Value):fJ m j k base (W.setCell ⟨g,o,aD⟩ u) g:=
 ⟨by simpa[aCX] using h.1,fun i hi a n c e=>h.2 i hi a n c (by rw[<- e];exact(World.cell?_setCell_other _ _ _ _ (fun e2=>ho i hi (by injection e2 with _ e3;exact e3.symm))).symm)⟩
theorem fJ.set {m j k base:Nat} {W:World} {g:Nat} {u old:Value} (h:fJ m j k base W g) (hm:0 < m) (hc:W.cell? ⟨g,k*m+j,aD⟩=aC old) (hu:∀ a n c,u=aE (aC a) n c->base<=a.block):fJ m j (k+1) base (W.setCell ⟨g,k*m+j,aD⟩ u) g:=by
 have h1:=h.other (o:=k*m+j) (fun i hi e=>by
  have:=(Nat.mul_lt_mul_right hm).2 hi;omega) u
 refine⟨h1.1,fun i hi a n c e=>?_⟩;by_cases hik:i=k
 ·subst hik;rw[World.cell?_setCell_same _ _ _ hc] at e;exact hu a n c (Option.some.inj e)
 ·exact h1.2 i (by omega) a n c e
theorem gL.ext {bs:List Nat} {W W':World} {g:Nat} {l:List Queue} (h:gL bs W g l) (hx:Ext W W'):gL bs W' g l:=by
 obtain⟨vs,h1,h2⟩:=h;refine⟨vs,h1.ext hx,fun j x hj=>?_⟩;obtain⟨a,b,c,d,cv,e,f,i⟩:=h2 j x hj;exact⟨a,b,c,d,cv,e,f.mono hx,i⟩
theorem gL.kept {bs:List Nat} {W W':World} {g r:Nat} {l:List Queue} (h:gL bs W g l) (hg:W.grownBy W' (aC r)) (hr:r∈bs) (hne:g≠r):gL bs W' g l:=by
 obtain⟨vs,h1,h2⟩:=h;refine⟨vs,h1.kept hg (fun e=>hne (Option.some.inj e)),fun j x hj=>?_⟩;obtain⟨a,b,c,d,cv,e,f,i⟩:=h2 j x hj;exact⟨a,b,c,d,cv,e,eI f i hg (fun r' e'=>by cases e';exact aBl _ hr),i⟩
theorem bS (W:World) (b:Nat) (cs:Array Value):W.grownBy (W.setRow b cs) (aC b):=
 ⟨rfl,rfl,rfl,by simp[World.setRow],fun k _ hne=>setRow_other W b k cs (fun e=>hne (by rw[e]))⟩
theorem gL.v {bs:List Nat} {W:World} {g cap:Nat} {l:List Queue} (h:gL bs W g l) (hc:l.length<=cap) (hc2:cap<=9223372036854775807) (h5:l.length<=5):aX W (aE (aC ⟨g,0,aD⟩) l.length cap) l:=by
 obtain⟨vs,h1,h2⟩:=h;refine .inr ⟨g,0,cap,rfl,hc,hc2,by omega,mS.row h1,fun k x hk=>?_⟩;obtain⟨a,b,c,d,cv,e,f,_⟩:=h2 k x hk;rw[aBE];exact⟨h1.cell a,b,h1.cell c,d,cv,h1.cell e,f⟩
theorem gL.cell {bs:List Nat} {W:World} {g:Nat} {l:List Queue} (h:gL bs W g l) {k:Nat} {x:Queue} (hk:l[k]?=aC x):∃ cv,W.cell? ⟨g,k*3+2,aD⟩=aC cv/\W.frozen? ⟨g,k*3+2,aD⟩=false/\bC W cv x.Cap/\g < W.heap.size:=by
 obtain⟨vs,h1,h2⟩:=h;obtain⟨_,_,_,_,cv,e,f,_⟩:=h2 k x hk;exact⟨cv,h1.cell e,h1.free _,f,h1.lt⟩
theorem gL.set {bs:List Nat} {W:World} {g:Nat} {l:List Queue} (h:gL bs W g l) {k:Nat} {x:Queue} (hk:l[k]?=aC x) {cv:Value} (hv:bC W cv x.Cap) (ha:bU (g::bs) cv):gL bs (W.setCell ⟨g,k*3+2,aD⟩ cv) g l:=by
 obtain⟨vs,h1,h2⟩:=h;have hg:=aY W g (k*3+2) cv;have hr:∀ r,aC g=aC r->r∈g::bs:=fun r e=>by cases e;exact aCw ..
 refine⟨vs.set (k*3+2) cv,h1.set _ _,fun j y hj=>?_⟩;obtain⟨a,b,c,d,cw,e,f,i⟩:=h2 j y hj;refine⟨by rw[aCA (by omega)];exact a,b,by rw[aCA (by omega)];exact c,d,?_⟩;by_cases hjk:j=k
 ·subst hjk;rw[hk] at hj;cases hj;exact⟨cv,by rw[aCz (aBD.1 e).1],eI hv ha hg hr,ha⟩
 ·exact⟨cw,by rw[aCA (by omega)];exact e,eI f i hg hr,i⟩
theorem info46:(prog.info? 46).map (fun i=>(i.zero,i.size,i.bytes))=aC (aC (.agg #[.string ByteArray.empty,aA aB 0,aE aD 0 0]),3,48):=by kernel_rfl
theorem Lm {w:World} {b off:Nat} {l:List Queue} (hE:∀ k x,l[k]?=aC x->dS w b (off+k*3) x) (hc:∀ k,k < l.length->dI (cp l k)):∃ css:List (List Value),css.length=l.length/\(∀ cs∈css,cs.length=3)/\(∀ u∈css.flatten,u.oneCell'=true)/\
  (∀ (j:Nat) u,css.flatten[j]?=aC u->w.cell? ((⟨b,off,aD⟩:Addr).add j)=aC u)/\∀ (k:Nat) x,l[k]?=aC x->∃ cv,css[k]?=aC [.string x.aQ,aA aB x.aR,cv]/\bC w cv x.Cap/\x.Cap≠[]:=by
 have each:∀ k,k < l.length->∃ cs:List Value,∀ x,l[k]?=aC x->∃ cv,cs=[.string x.aQ,aA aB x.aR,cv]/\bC w cv x.Cap/\w.cell? ⟨b,off+k*3,aD⟩=aC (.string x.aQ)/\w.cell? ⟨b,off+k*3+1,aD⟩=aC (aA aB x.aR)/\w.cell? ⟨b,off+k*3+2,aD⟩=aC cv:=fun k hk=>by
  obtain⟨x,hx⟩:=bT (f:=l) (k:=k) hk;obtain⟨c1,_,c2,_,cv,c3,hr⟩:=hE k x hx;exact⟨[.string x.aQ,aA aB x.aR,cv],fun y hy=>by rw[hx] at hy;cases hy;exact⟨cv,rfl,hr,c1,c2,c3⟩⟩
 obtain⟨f,hf⟩:=choose_lt (α:=List Value) (p:=fun k cs=>∀ x,l[k]?=aC x->∃ cv,cs=[.string x.aQ,aA aB x.aR,cv]/\bC w cv x.Cap/\w.cell? ⟨b,off+k*3,aD⟩=aC (.string x.aQ)/\w.cell? ⟨b,off+k*3+1,aD⟩=aC (aA aB x.aR)/\w.cell? ⟨b,off+k*3+2,aD⟩=aC cv) each;have hget:∀ k cs,((List.range l.length).map f)[k]?=aC cs->k < l.length/\cs=f k:=fun k cs hk=>by
  rw[aCL] at hk;by_cases hkl:k < l.length
  ·rw[aCN hkl] at hk;exact⟨hkl,by simpa using hk.symm⟩
  ·rw[List.getElem?_eq_none (by simpa using hkl)] at hk;cases hk
 have h3:∀ cs∈(List.range l.length).map f,cs.length=3:=fun cs hcs=>by
  obtain⟨k,hk⟩:=aCU.1 hcs;obtain⟨hkl,rfl⟩:=hget k cs hk;obtain⟨x,hx⟩:=bT (f:=l) (k:=k) hkl;obtain⟨cv,e,_⟩:=hf k hkl x hx;rw[e];rfl
 refine⟨(List.range l.length).map f,by simp,h3,fun u hu=>?_,fun j u hj=>?_,fun k x hx=>?_⟩
 ·obtain⟨cs,hcs,hu⟩:=List.mem_flatten.1 hu;obtain⟨k,hk⟩:=aCU.1 hcs;obtain⟨hkl,rfl⟩:=hget k cs hk;obtain⟨x,hx⟩:=bT (f:=l) (k:=k) hkl;obtain⟨cv,e,hr,_⟩:=hf k hkl x hx;obtain⟨a,c,rfl,_⟩:=hr.form;rw[e] at hu;simp only[aC8,aCj,or_false] at hu;rcases hu with rfl | rfl | rfl <;> rfl
 ·have e:j=j / 3*3+j % 3:=by omega
  rw[e,Bc (by omega) _ h3 (j / 3) (j % 3) (by omega)] at hj;cases hc:((List.range l.length).map f)[j / 3]? with
  | none=>rw[hc] at hj;cases hj
  | some cs=>
   rw[hc] at hj;obtain⟨hk,rfl⟩:=hget _ cs hc;obtain⟨x,hx⟩:=bT (f:=l) (k:=j / 3) hk;obtain⟨cv,e2,_,c1,c2,c3⟩:=hf _ hk x hx;have hj':(f (j / 3))[j % 3]?=aC u:=hj;rw[e2] at hj';rw[kN];rcases(by omega:j % 3=0\/j % 3=1\/j % 3=2) with h | h | h
   ·rw[h] at hj';cases hj'
    rwa [show off+j / 3*3=off+j by omega] at c1
   ·rw[h] at hj';cases hj'
    rwa [show off+j / 3*3+1=off+j by omega] at c2
   ·rw[h] at hj';cases hj'
    rwa [show off+j / 3*3+2=off+j by omega] at c3
 ·have hkl:=(aBD.1 hx).1;obtain⟨cv,e,hr,_⟩:=hf k hkl x hx;refine⟨cv,by rw[aCL,aCN hkl];simp[e],hr,fun h0=>?_⟩;have:=hc k hkl;rw[(fC hx).2.2,h0] at this;exact this
theorem Gt (bs:List Nat) (w0 w:World) (v:Value) (l:List Queue) (hv:aX w0 v l) (hw:Ext w0 w) (ok:fB l) (hbs:∀ r∈bs,w0.heap.size<=r/\r < w.heap.size) :
  Calls prog 162 #[v] w fun e w'=>∃ g cap,e=.returned (aE (aC ⟨g,0,aD⟩) l.length cap)/\l.length<=cap/\cap<=9223372036854775807/\w.heap.size<=g/\gL bs w' g l/\Ext w w':=by
 obtain⟨ir,ir1,ir2,ir3,ir4⟩:=info_parts info46;obtain⟨b,off,c,rfl,hc1,hc2,hb,hE⟩:=jG hv ok.n1;have hI:∀ (k:Nat) (x:Queue),l[k]?=aC x->x.aQ.size<=9223372036854775807/\I64 x.aR:=fun k x hk=>by
  obtain⟨_,h1,_,h2,_⟩:=hE k x hk;exact⟨h1,h2⟩
 have HI:=hid hI;obtain⟨css,h1,h3,ho,hnews,hq⟩:=Lm hE (fun k hk=>(ok.caps k hk).1.1);have hlen:=Ab css h3;rw[h1] at hlen;have HL:=hid hlen;have HN:=hid hnews;have HO1:=hid ho;have HQ:=hid hq;have H3:=hid h3;have hn5:=ok.n5;have hn1:=ok.n1;have hown:=jY w 46 3 (by omega);clear hv hE hnews ho hq hlen hI h3;generalize hn:l.length=n at *;have Hn:=hid hn;clear hn;have he:∀ W,Sem.run prog (binOp .eql 22 (aE (aC ⟨b,off,aD⟩) n c) (aE aD 0 0)) W=.ok (.bool false) W:=fun W=>rfl;go_enter func162,ntmps162
 go_wp2_with (at_builtin;refine wpList_append_own _ rfl _ _ 22 rfl w.heap.size 46 ir _ 3 48 underlying22 ir1 ir2 ir3 ir4 rfl (by decide) _ _ _ rfl hown ⟨b,off,aD⟩ n c css.flatten rfl HL.out (fun j u hj=>eG (hw.al _) (HN.out j u hj)) HO1.out (by unfold maxLen;omega) (by omega) (by simp) ?_)
 intro v2 W2 hown2 hgrow2 hnil2;have HO:=hid hown2;have HX:=hid (((Ext.rf w).al (.cells #[] 46)).gr hgrow2 (fun k hk=>by cases hk;exact aBq _));clear hown2 hgrow2 hnil2 hown;obtain⟨g,cap,hvv⟩:∃ g cap,v2=aE (aC ⟨g,0,aD⟩) n cap:=by
  rcases HO.out.2 with ⟨_,h⟩ | ⟨g,cap,_,h,_⟩
  ·omega
  ·exact⟨g,cap,by simpa using h⟩
 subst hvv
 go_wp2_with fail
 go_ret;rcases HO.out.2 with ⟨h,_⟩ | ⟨g',cap',cur,h,hb',hg,hcp,hm,hcs,htk⟩
 ·cases h
 ·cases h;have htk':cur.toList.take (n*3)=css.flatten:=by simpa using htk
  refine⟨g,cap,rfl,by simpa using hcp,by unfold maxLen at hm;omega,hb',⟨cur.toList,by unfold gF;simpa using hg,fun j x hj=>?_⟩,HX.out⟩;have hjn:j < n:=by have:=(aBD.1 hj).1;rw[Hn.out] at this;exact this
  obtain⟨cv,e,hr,hne⟩:=HQ.out j x hj;have get:∀ i,i < 3->cur.toList[j*3+i]?=([.string x.aQ,aA aB x.aR,cv]:List Value)[i]?:=fun i hi=>by
   have h1:(cur.toList.take (n*3))[j*3+i]?=cur.toList[j*3+i]?:=aCY (by omega);rw[<- h1,htk',Bc (by omega) css H3.out j i hi,e];rfl
  obtain⟨b2,off2,c2,rfl,hbl,_⟩:=cX hr hne;refine⟨get 0 (by omega),(HI.out j x hj).1,get 1 (by omega),(HI.out j x hj).2,_,get 2 (by omega),hr.mono (hw.tr HX.out),gK (fun hm2=>?_)⟩;have hws:=hw.size;rcases aC8.1 hm2 with h | h
  ·omega
  ·have:=(hbs _ h).1;omega
theorem sC (bs:List Nat) (w0 w:World) (v:Value) (l:List Queue) (hv:aX w0 v l) (hw:Ext w0 w) (ok:fB l) (hbs:∀ r∈bs,w0.heap.size<=r/\r < w.heap.size) :
  Calls prog 117 #[v] w fun e w'=>∃ g cap,e=.returned (aE (aC ⟨g,0,aD⟩) l.length cap)/\l.length<=cap/\cap<=9223372036854775807/\w.heap.size<=g/\gL bs w' g l/\fJ 3 2 l.length w.heap.size w' g/\Ext w w':=by
 have C:=hid (Gt bs w0 w v l hv hw ok hbs);have CR:=hid (fun(W:World) (u:Value) (k:Nat) (x:Queue) (hk:l[k]?=aC x) (hu:bC W u x.Cap)=>yW W u x.Cap hu (by
  have:=ok.caps k (aBD.1 hk).1;rw[(fC hk).2.2] at this;exact jF this.1.1))
 have CN:=hid (fun(k:Nat) (x:Queue) (hk:l[k]?=aC x)=>show x.Cap≠[] from fun h0=>by
  have:=(ok.caps k (aBD.1 hk).1).1.1;rw[(fC hk).2.2,h0] at this;exact this)
 have hn5:=ok.n5;have HBS:=hid hbs;obtain⟨a,cap,rfl,_,_,_⟩:=hv.form;clear hv ok hbs;generalize hn:l.length=n at *;have Hn:=hid hn;clear hn;go_enter func117,ntmps117
 go_wp2_with fail
 refine C.out.mono ?_;rintro e w1 ⟨g,cap2,rfl,hc1,hc2,hg,hQ,hx1⟩;have HQ:=hid hQ;have HNI:=hid (fJ.zero (m:=3) (j:=2) (base:=w.heap.size) (W:=w1) (g:=g) (by obtain⟨vs,h,_⟩:=hQ;exact h.lt));clear hQ
 go_wp2_with fail
 go_loopw [8] (fun c wr=>∃ k:Nat,c=aA aB k/\k<=n/\Hid (gL bs wr g l)/\Hid (fJ 3 2 k w.heap.size wr g)/\Ext w wr) (fun c _=>n - (intOf c).toNat)
 case atStart=>exact⟨0,rfl,by omega,HQ,HNI,hx1⟩
 case round=>
  obtain⟨k,rfl,hk,HR,HNK,hx⟩:=hrel;by_cases hlt:k < n
  ·have hlt':(k:Int) < (n:Int):=by omega
   obtain⟨x,hxk⟩:=bT (f:=l) (k:=k) (by rw[Hn.out];exact hlt);obtain⟨cv,c1,f1,hr,hgl⟩:=HR.out.cell hxk;have hne:=CN.out k x hxk;obtain⟨cb,co,cc,rfl,_⟩:=cX hr hne;have CL:=hid (CR.out wr _ k x hxk hr);have HXK:=hid hxk;have HNE:=hid hne;clear hr hxk hne f1;generalize x.Cap.length=xn at *
   go_wp2_with fail
   refine CL.out.mono ?_;rintro e w2 ⟨u,rfl,hu,hfr,hx2⟩;have HQ2:=hid (HR.out.ext hx2);obtain⟨cv2,c3,f3,_,hgl2⟩:=HQ2.out.cell HXK.out;obtain⟨ub,uo,uc,rfl,_⟩:=cX hu HNE.out;have hap:bU (g::bs) (aE (aC ⟨ub,uo,aD⟩) x.Cap.length uc):=gK (fun hm=>by
    have e2:wr.heap.size<=ub:=hfr _ _ _ rfl;have e3:=hx.size;rcases aC8.1 hm with h | h
    ·omega
    ·have:=(HBS.out _ h).2;omega)
   have HS:=hid (HQ2.out.set HXK.out hu hap);have HNK2:=hid ((HNK.out.ext hx2).set (by omega) c3 (u:=aE (aC ⟨ub,uo,aD⟩) x.Cap.length uc) (fun a n' c' e2=>by cases e2;exact aC4 hx.size (hfr _ _ _ rfl)));clear hu hfr hap CL;generalize x.Cap.length=xm at *
   go_wp2_with fail
   go_roundw
   case rel=>exact⟨k+1,by go_num,by omega,HS,HNK2,(hx.tr hx2).se hg _⟩
   case measure=>simp[intOf];omega
  ·obtain rfl:k=n:=by omega
   have hlt':¬ (k:Int) < (k:Int):=by omega
   go_wp2_with fail
   go_ret;exact⟨g,cap2,rfl,hc1,hc2,hg,HR.out,HNK.out,hx⟩
theorem size25:(prog.info? 25).map (·.size)=aC 4:=by kernel_rfl
theorem bZ {P:Program} {fn:Func} {p u:Tmp} {ty:TypeId} (h:fn.results=#[.cell p ty,.tmp u]) (tmps:Array Value) (w:World) (g:Nat) (t:TypeId) (cs:Array Value) (fr:Nat × Nat) (d:TypeDesc)
  (hp:tmps.getD p undef=.pointer (aC ⟨g,0,aD⟩)) (hg:w.heap[g]?=aC (.cells cs t fr))
  (hu:P.underlying ty=aC d) (hd:(match d with | .struct _ | .array _ _=>true | _=>false)=true) (hi:(P.info? ty).map (·.size)=aC cs.size) :
  (results fn tmps).run P w=.ok (.tuple #[.agg cs,tmps.getD u undef]) w:=by
 rw[results_cell_tmp h,hp];simp[asAddr,run_loadVar_row w g t ty cs fr d hg hu hd hi]
def yP (bs:List Nat) (base:Nat) (l:List Queue) (k:Nat) (v:Value) (W:World):Prop:=
 ∃ css:List (List Value),css.length=k/\W.ownsRow base 46 3 v k css.flatten/\(∀ cs∈css,cs.length=3)/\
  ∀ (j:Nat) (x:Queue),j < k->l[j]?=aC x->∃ cv,css[j]?=aC [.string x.aQ,aA aB x.aR,cv]/\bC W cv x.Cap/\x.Cap≠[]/\bU bs cv/\∀ g,v.ownBlock=aC g->bU [g] cv
theorem yP.nil (bs:List Nat) (base:Nat) (l:List Queue) (W:World):yP bs base l 0 (aE aD 0 0) W:=⟨[],rfl,aBV _ _ _ _,by simp,fun j x h=>by omega⟩
theorem yP.ext {bs:List Nat} {base k:Nat} {l:List Queue} {v:Value} {W W':World} (h:yP bs base l k v W) (hx:Ext W W'):yP bs base l k v W':=by
 obtain⟨css,h1,h2,h3,h4⟩:=h;refine⟨css,h1,bE h2 hx,h3,fun j x hj hk=>?_⟩;obtain⟨cv,a,b,c,d,e⟩:=h4 j x hj hk;exact⟨cv,a,b.mono hx,c,d,e⟩
theorem yP.step {bs:List Nat} {base k:Nat} {l:List Queue} {v cv:Value} {W W':World} {css:List (List Value)} {x:Queue} {g cap:Nat} (h1:css.length=k) (h3:∀ cs∈css,cs.length=3)
  (h4:∀ (j:Nat) (x:Queue),j < k->l[j]?=aC x->∃ cv,css[j]?=aC [.string x.aQ,aA aB x.aR,cv]/\bC W cv x.Cap/\x.Cap≠[]/\bU bs cv/\∀ g,v.ownBlock=aC g->bU [g] cv)
  (hk:l[k]?=aC x) (hu:bC W cv x.Cap) (hne:x.Cap≠[]) (hb:bU bs cv) (hf:∀ g,v.ownBlock=aC g->bU [g] cv)
  (ho:W'.ownsRow base 46 3 (aE (aC ⟨g,0,aD⟩) (k+1) cap) (k+1) (css.flatten++[.string x.aQ,aA aB x.aR,cv])) (hg:W.grownBy W' v.ownBlock) (hgg:v.ownBlock=aC g\/g=W.heap.size) :
  yP bs base l (k+1) (aE (aC ⟨g,0,aD⟩) (k+1) cap) W':=by
 have key:∀ (y:Queue) (c:Value),bC W c y.Cap->y.Cap≠[]->(∀ g,v.ownBlock=aC g->bU [g] c)->bC W' c y.Cap/\∀ g',(aE (aC ⟨g,0,aD⟩) (k+1) cap).ownBlock=aC g'->bU [g'] c:=by
  intro y c hy hn ha;obtain⟨b,off,c',e,hbl,_⟩:=cX hy hn;refine⟨lA hy hg (fun a n c e he=>ha a.block he.symm a n c e (aCB.2 rfl)),fun g' hg'=>?_⟩;obtain rfl:g=g':=by simpa[aCZ] using hg'
  subst e;rcases hgg with h | h
  ·exact ha g h
  ·exact gK (fun hm=>by have:=aCB.1 hm;omega)
 refine⟨css++[[.string x.aQ,aA aB x.aR,cv]],by simp[h1],by rw[List.flatten_append];simpa using ho,fun cs hcs=>?_,fun j y hj hy=>?_⟩
 ·rcases aBm.1 hcs with h | h
  ·exact h3 cs h
  ·rw[aCB.1 h];rfl
 ·by_cases hjk:j < k
  ·obtain⟨c,a,b,n,d,e⟩:=h4 j y hjk hy;obtain⟨q1,q2⟩:=key y c b n e;exact⟨c,by rw[aCI (by omega)];exact a,q1,n,d,q2⟩
  ·obtain rfl:j=k:=by omega
   rw[hk] at hy;cases hy;obtain⟨q1,q2⟩:=key x cv hu hne hf;exact⟨cv,by rw[aCJ (by omega),h1,Nat.sub_self];rfl,q1,hne,hb,q2⟩
theorem yP.row {bs:List Nat} {base:Nat} {l:List Queue} {v:Value} {W:World} (h:yP bs base l l.length v W) (h1:1<=l.length) (hI:∀ (k:Nat) (x:Queue),l[k]?=aC x->x.aQ.size<=9223372036854775807/\I64 x.aR) :
  ∃ g cap,v=aE (aC ⟨g,0,aD⟩) l.length cap/\l.length<=cap/\cap<=9223372036854775807/\base<=g/\gL bs W g l:=by
 obtain⟨css,c1,c2,c3,c4⟩:=h;rcases c2.2 with ⟨_,h0⟩ | ⟨g,cap,cur,rfl,hb,hg,hcp,hm,hcs,htk⟩
 ·omega
 ·refine⟨g,cap,rfl,hcp,by unfold maxLen at hm;omega,hb,cur.toList,by unfold gF;simpa using hg,fun j x hj=>?_⟩;have hjn:=(aBD.1 hj).1;obtain⟨cv,e,hr,hne,hbs,hap⟩:=c4 j x hjn hj;have get:∀ i,i < 3->cur.toList[j*3+i]?=([.string x.aQ,aA aB x.aR,cv]:List Value)[i]?:=fun i hi=>by
   have h1:(cur.toList.take (l.length*3))[j*3+i]?=cur.toList[j*3+i]?:=aCY (by omega);rw[<- h1,htk,Bc (by omega) css c3 j i hi,e];rfl
  refine⟨get 0 (by omega),(hI j x hj).1,get 1 (by omega),(hI j x hj).2,cv,get 2 (by omega),hr,fun a n c he hm2=>?_⟩;rcases aC8.1 hm2 with h | h
  ·exact hap g rfl a n c he (by rw[h];exact aCB.2 rfl)
  ·exact hbs a n c he h
theorem keep3 {w1 w':World} {a1 a2 a3:Addr} {a b c:Value} (hx:Ext w1 w') (b0:w1.cell? a1=aC a) (b1:w1.cell? a2=aC b) (b2:w1.cell? a3=aC c) :
  w'.cell? a1=aC a/\w'.cell? a2=aC b/\w'.cell? a3=aC c:=⟨eG hx b0,eG hx b1,eG hx b2⟩
theorem news3 (W:World) {B:Nat} (hB:B=W.heap.size) (a b c:Value) (t:TypeId):∀ (j:Nat) u,[a,b,c][j]?=aC u->(W.alloc (.cells #[a,b,c] t)).cell? ((⟨B,0,aD⟩:Addr).add j)=aC u:=by
 subst hB;exact World.news_of_block (cs:=#[a,b,c]) (t:=t) (fr:=(0,0)) (heap_alloc_new W _)
theorem Eb (bs:List Nat) (w:World) (v:Value) (l:List Queue) (hv:aX w v l) (ok:fB l) (hbs:∀ r∈bs,r < w.heap.size) :
  Calls prog 35 #[v] w fun e w'=>∃ g cap,e=.returned (aE (aC ⟨g,0,aD⟩) l.length cap)/\l.length<=cap/\cap<=9223372036854775807/\w.heap.size<=g/\gL bs w' g l/\Ext w w':=by
 obtain⟨ir,ir1,ir2,ir3,ir4⟩:=info_parts info48;obtain⟨iq,iq1,iq2,iq3,iq4⟩:=info_parts info46;obtain⟨b,off,c,rfl,hc1,hc2,hb,hE⟩:=jG hv ok.n1;have HI:=hid (show ∀ (k:Nat) (x:Queue),l[k]?=aC x->x.aQ.size<=9223372036854775807/\I64 x.aR from fun k x hk=>by
  obtain⟨_,h1,_,h2,_⟩:=hE k x hk;exact⟨h1,h2⟩)
 have HSH:=hid (fun(k:Nat) (x:Queue) (hk:l[k]?=aC x)=>show dI x.Cap from by
  have:=ok.caps k (aBD.1 hk).1;rw[(fC hk).2.2] at this;exact this.1.1)
 have HE:=hid hE;have HBS:=hid hbs;have hn1:=ok.n1;have hn5:=ok.n5;clear hv hE ok hbs;generalize hn:l.length=n at *;have Hn:=hid hn;clear hn;go_enter func35,ntmps35
 go_wp2_with fail
 go_loopw [3,4] (fun s c wr=>∃ k:Nat,c=aA aB k/\k<=n/\Hid (yP bs w.heap.size l k s wr)/\Ext w wr) (fun _ c _=>n - (intOf c).toNat)
 case atStart=>exact⟨0,rfl,by omega,hid (yP.nil _ _ _ _),Ext.rf _⟩
 case round=>
  obtain⟨k,rfl,hk,HQ,hx⟩:=hrel;by_cases hlt:k < n
  ·have hlt':(k:Int) < (n:Int):=by omega
   obtain⟨x,hxk⟩:=bT (f:=l) (k:=k) (by rw[Hn.out];exact hlt);obtain⟨c0,_,c1,_,cv,c2,hr⟩:=dS.mono w wr b _ x hx (HE.out k x hxk);have hsh:=HSH.out k x hxk;have hln:=jF hsh;have hne:x.Cap≠[]:=fun h0=>by rw[h0] at hsh;exact hsh
   obtain⟨rb,ro,rc,rfl,_,hrb,hrE⟩:=zM hr hne;have HN:=hid (mK hrE);obtain⟨e0,_,e1,_,ev,e2,_⟩:=HE.out k x hxk;obtain rfl:ev=aE (aC ⟨rb,ro,aD⟩) x.Cap.length rc:=by
    have:=hx.ce' e2;rw[c2] at this;exact(Option.some.inj this).symm
   have HI2:=hid (show ∀ r∈x.Cap,I64 r.At/\I64 r.N from fun r hr=>by
    obtain⟨i,hi⟩:=aCU.1 hr;obtain⟨_,_,i1,i2⟩:=hrE i r hi;exact⟨i1,i2⟩)
   have HLN:=hid (gC Run.At Run.N x.Cap);have HNE:=hid hne;have HXK:=hid hxk;obtain⟨css,q1,q2,q3,q4⟩:=HQ.out;have hvl:∀ g,u3.ownBlock=aC g->w.heap.size<=g/\g < wr.heap.size:=fun g hg=>q2.lt g hg;have HO:=hid q2;have HQ1:=hid (And.intro q1 q3);have HQ4:=hid q4;have HV:=hid hvl;have t1:=deF (show ¬ (k:Int) < 0 by omega);have t2:=deF (show ¬ (n:Int)<=(k:Int) by omega);have t3:=deF (show ¬ n<=k by omega);have hx1:1<=x.Cap.length:=by
    cases hcap:x.Cap with
    | nil=>exact absurd hcap hne
    | cons r f=>simp
   have hsz:=hx.size;clear hr hrE hsh hne hxk q1 q2 q3 q4 hvl HQ c0 c1 c2;generalize hxn:x.Cap.length=xn at *;have HXN:=hid hxn;clear hxn
   go_wp2_with fail
   go_region_held3 (fun W'=>W'.cell? ⟨b,off+k*3,aD⟩=aC (.string x.aQ)/\W'.cell? ⟨b,off+k*3+1,aD⟩=aC (aA aB x.aR)/\W'.cell? ⟨b,off+k*3+2,aD⟩=aC (aE (aC ⟨rb,ro,aD⟩) xn rc))
    ((refine keep3 ?_ e0 e1 e2;(repeat (first | exact HX2.out | exact HXA.out | exact hx | refine Ext.dr ?_ | refine Ext.al ?_ _))))
    (first
     | (refine Cc (by rfl) _ _ _ (by rfl) wr.heap.size 48 ir _ 2 16 underlying29 ir1 ir2 ir3 ir4 rfl (by decide) (aE (aC ⟨wr.heap.size,0,aD⟩) 0 0) 0 [] (by rfl) (jY wr.drew _ 2 (by omega)) ⟨rb,ro,aD⟩ xn rc (cF Run.At Run.N x.Cap) (by rfl) HLN.out (fun j u hj=>eG ((Ext.rf wr).dr.al _) (HN.out j u hj)) (oN _) (by unfold maxLen;omega) (by omega) (by simp) ?_;intro v1 W1 hown1 hgrow1;obtain⟨g1,cp1,rfl⟩:=iK hown1 (by omega);have HX1:=hid (((Ext.rf wr).dr.al _).gr hgrow1 (fun k hk=>by cases hk;exact aBq _));have HXA:=hid (hx.tr HX1.out);have HO1:=hid hown1;clear hown1)
     | (refine step_append_lies _ (by rfl) _ _ _ (by rfl) w.heap.size 46 iq _ 3 48 underlying22 iq1 iq2 iq3 iq4 rfl (by decide) u3 k css.flatten (by rfl) ((bE HO.out HX1.out).alloc _) ⟨W1.heap.size,0,aD⟩ 1 1 [.string x.aQ,aA aB x.aR,aE (aC ⟨g1,0,aD⟩) xn cp1] (by rfl) (by rfl) (news3 _ rfl _ _ _ _) (by simp[aBz]) (by omega) (by unfold maxLen;omega) (by omega) (by have:=HX1.out.size;simp;omega) (W1.heap.size+1) (by simp) ?_;intro g2 cp2 W2 hown2 hgrow2 hlie2 hlt2;have HX2:=hid ((HXA.out.al (.cells #[.string x.aQ,aA aB x.aR,aE (aC ⟨g1,0,aD⟩) xn cp1] 46)).gr hgrow2 (fun k hk=>(HV.out k hk).1));have HO2:=hid hown2;have HG2:=hid hgrow2;clear hown2))
   have hcv:bC W1 (aE (aC ⟨g1,0,aD⟩) xn cp1) x.Cap:=cG (base:=wr.heap.size) (e:=48) (by have h:=HO1.out;rw[HXN.out];simpa using h) HI2.out (by rw[HXN.out];omega);have hg1:wr.heap.size<=g1:=eU HO1.out g1 rfl;have hal:=HX1.out.al (.cells #[.string x.aQ,aA aB x.aR,aE (aC ⟨g1,0,aD⟩) xn cp1] 46);have HST:=hid (show yP bs w.heap.size l (k+1) (aE (aC ⟨g2,0,aD⟩) (k+1) cp2) W2 from
    yP.step HQ1.out.1 HQ1.out.2 (fun j y hj hy=>by
     obtain⟨cv,a1,a2,a3,a4,a5⟩:=HQ4.out j y hj hy;exact⟨cv,a1,a2.mono hal,a3,a4,a5⟩) HXK.out (hcv.mono ((Ext.rf W1).al _)) HNE.out (gK (fun hm=>by have:=HBS.out _ hm;omega)) (fun g hg=>gK (fun hm=>by have h1:=aCB.1 hm;have h2:=(HV.out g hg).2;omega)) HO2.out HG2.out (by rw[aCl];exact hlie2))
   clear hcv hg1 hal hgrow1 hgrow2 hlie2 hlt2 HG2 HO2 HO1 e0 e1 e2
   go_wp2_with fail
   go_roundw
   case rel=>exact⟨k+1,by go_num,by omega,HST,HX2.out⟩
   case measure=>simp[intOf];omega
  ·obtain rfl:k=n:=by omega
   have hlt':¬ (k:Int) < (k:Int):=by omega
   obtain⟨g,cap,he,h1,h2,h3,h4⟩:=(show yP bs w.heap.size l l.length _ wr from by rw[Hn.out];exact HQ.out).row (by rw[Hn.out];exact hn1) HI.out;rw[Hn.out] at he h1;subst he
   go_wp2_with fail
   go_ret;exact⟨g,cap,rfl,h1,h2,h3,h4,hx⟩
theorem An {α:Type} {sz:Nat} {E:World->Nat->Nat->α->Prop} {w:World} {v:Value} {l:List α} (hv:SV sz E w v l):∃ a cap,v=aE a l.length cap/\l.length<=cap/\cap<=9223372036854775807/\l.length<=17592186044416/\
  (1<=l.length->∃ b off,a=aC ⟨b,off,aD⟩/\b < w.heap.size/\∀ k x,l[k]?=aC x->E w b (off+k*sz) x):=by
 rcases hv with ⟨rfl,a,cap,rfl,h⟩ | ⟨b,off,cap,rfl,h1,h2,h3,⟨h4,_⟩,h5⟩
 ·exact⟨a,cap,rfl,by simp,h,by simp,fun h=>by simp at h⟩
 ·exact⟨_,cap,rfl,h1,h2,h3,fun _=>⟨b,off,rfl,h4,h5⟩⟩
theorem Gz (w:World) (vf vg:Value) (l:List Queue) (hf:aX w vf l) (hg:aX w vg l) :
  Calls prog 55 #[vf,vg] w fun e w'=>e=.returned (.bool true)/\Ext w w':=by
 obtain⟨fa,fc,rfl,_,_,_,hfE⟩:=An hf;obtain⟨ga,gc,rfl,_,_,_,hgE⟩:=An hg;have HF:=hid hfE;have HG:=hid hgE;clear hf hg hfE hgE;generalize hn:l.length=n at *;have Hn:=hid hn;clear hn;go_enter func55,ntmps55
 go_wp2_with fail
 go_loopw [5] (fun c wr=>∃ k:Nat,c=aA aB k/\k<=n/\Ext w wr) (fun c _=>n - (intOf c).toNat)
 case atStart=>exact⟨0,rfl,by omega,Ext.rf w⟩
 case round=>
  obtain⟨k,rfl,hk,hx⟩:=hrel;by_cases hlt:k < n
  ·have hlt':(k:Int) < (n:Int):=by omega
   obtain⟨x,hxk⟩:=bT (f:=l) (k:=k) (by rw[Hn.out];exact hlt);obtain⟨fb,fo,rfl,hfb,hfe⟩:=HF.out (by omega);obtain⟨gb,go,rfl,hgb,hge⟩:=HG.out (by omega);obtain⟨c0,_,c1,_,cv,c2,hu⟩:=dS.mono w wr fb _ x hx (hfe k x hxk);obtain⟨d0,_,d1,_,dv,d2,hv⟩:=dS.mono w wr gb _ x hx (hge k x hxk);replace c0:=fun p:bF wr=>p.cell c0;replace c1:=fun p:bF wr=>p.cell c1;replace c2:=fun p:bF wr=>p.cell c2;replace d0:=fun p:bF wr=>p.cell d0;replace d1:=fun p:bF wr=>p.cell d1;replace d2:=fun p:bF wr=>p.cell d2;have ML:=hid (fun p:bF wr=>fH p (v:=.bool true) (xD (hu.mono p.h) (hv.mono p.h)));obtain⟨ua,uc,rfl,_,_,_⟩:=hu.form;obtain⟨va,vc,rfl,_,_,_⟩:=hv.form;have t1:=deF (show ¬ (k:Int) < 0 by omega);have t2:=deF (show ¬ (n:Int)<=(k:Int) by omega);have t3:=deF (show ¬ n<=k by omega);clear hfe hge hu hv hxk;generalize x.Cap.length=xn at *
   go_wp2_with fail
   refine cJ (by kernel_rfl) (by kernel_rfl) ?_
   repeat (go_big_quiet_step (with_reducible exact ML.out _))
   refine wpQuiet_nil ?_;rintro w' ⟨p,rfl⟩;have HX:=hid (hx.tr p.h);clear ML c0 c1 c2 d0 d1 d2;generalize p.v=W at *
   go_wp2_with fail
   go_roundw
   case rel=>exact⟨k+1,by go_num,by omega,HX.out⟩
   case measure=>simp[intOf];omega
  ·obtain rfl:k=n:=by omega
   have hlt':¬ (k:Int) < (k:Int):=by omega
   go_wp2_with fail
   go_ret;exact⟨rfl,hx⟩
theorem Je {w W:World} {a b c d e:Value} {t:TypeId} (hx:Ext (w.alloc (.cells #[a,b,c,d,e] t)) W) :
  W.cell? ⟨w.heap.size,0,aD⟩=aC a/\W.cell? ⟨w.heap.size,1,aD⟩=aC b/\W.cell? ⟨w.heap.size,2,aD⟩=aC c/\W.cell? ⟨w.heap.size,3,aD⟩=aC d/\W.cell? ⟨w.heap.size,4,aD⟩=aC e:=by
 have h:=heap_alloc_new w (.cells #[a,b,c,d,e] t);have k:∀ j v,(#[a,b,c,d,e]:Array Value)[j]?=aC v->W.cell? ⟨w.heap.size,j,aD⟩=aC v:=fun j v hv=>hx.ce' (by rw[cell_of_row _ _ _ _ _ _ h];exact hv);exact⟨k 0 _ rfl,k 1 _ rfl,k 2 _ rfl,k 3 _ rfl,k 4 _ rfl⟩
theorem Le (w:World) (pv qv:Value) (r:aS) (hp:aU w pv r.aF) (hq:aU w qv r.aF) :
  Calls prog 62 #[.agg #[aA aB r.aG,aA aB r.aI,aA aB r.aH,aA aB r.aJ,pv],.agg #[aA aB r.aG,aA aB r.aI,aA aB r.aH,aA aB r.aJ,qv]] w fun e w'=>e=.returned (.bool true)/\Ext w w':=by
 obtain⟨fa,fc,rfl,_,_,_,hfE⟩:=An hp;obtain⟨ga,gc,rfl,_,_,_,hgE⟩:=An hq;have HF:=hid hfE;have HG:=hid hgE;clear hp hq hfE hgE;generalize hn:r.aF.length=n at *;have Hn:=hid hn;clear hn;have HX1:=hid ((Ext.rf w).al (.cells #[aA aB r.aG,aA aB r.aI,aA aB r.aH,aA aB r.aJ,(aE fa n fc)] 28));have HS1:=hid (fun(W:World) (h:Ext (w.alloc (.cells #[aA aB r.aG,aA aB r.aI,aA aB r.aH,aA aB r.aJ,(aE fa n fc)] 28)) W)=>(Je h).2.2.2.2);have HX2:=hid ((Ext.rf (w.alloc (.cells #[aA aB r.aG,aA aB r.aI,aA aB r.aH,aA aB r.aJ,(aE fa n fc)] 28))).al (.cells #[aA aB r.aG,aA aB r.aI,aA aB r.aH,aA aB r.aJ,(aE ga n gc)] 28));have HS2:=hid (fun(W:World) (h:Ext ((w.alloc (.cells #[aA aB r.aG,aA aB r.aI,aA aB r.aH,aA aB r.aJ,(aE fa n fc)] 28)).alloc (.cells #[aA aB r.aG,aA aB r.aI,aA aB r.aH,aA aB r.aJ,(aE ga n gc)] 28)) W)=>show W.cell? ⟨w.heap.size+1,4,aD⟩=aC (aE ga n gc) from by
  have:=(Je h).2.2.2.2
  rwa [aCl] at this)
 go_enter func62,ntmps62
 go_wp2_with fail
 generalize (w.alloc (.cells #[aA aB r.aG,aA aB r.aI,aA aB r.aH,aA aB r.aJ,(aE fa n fc)] 28)).alloc (.cells #[aA aB r.aG,aA aB r.aI,aA aB r.aH,aA aB r.aJ,(aE ga n gc)] 28)=w2 at *
 go_loopw [5] (fun c wr=>∃ k:Nat,c=aA aB k/\k<=n/\Ext w2 wr) (fun c _=>n - (intOf c).toNat)
 case atStart=>exact⟨0,rfl,by omega,Ext.rf w2⟩
 case round=>
  obtain⟨k,rfl,hk,hx⟩:=hrel;have e1:=HS1.out wr (HX2.out.tr hx);have e2:=HS2.out wr hx;by_cases hlt:k < n
  ·have hlt':(k:Int) < (n:Int):=by omega
   obtain⟨x,hxk⟩:=bT (f:=r.aF) (k:=k) (by rw[Hn.out];exact hlt);obtain⟨fb,fo,rfl,hfb,hfe⟩:=HF.out (by omega);obtain⟨gb,go,rfl,hgb,hge⟩:=HG.out (by omega);obtain⟨c0,c1,_,_⟩:=E2.mono w wr fb _ x ((HX1.out.tr HX2.out).tr hx) (hfe k x hxk);obtain⟨d0,d1,_,_⟩:=E2.mono w wr gb _ x ((HX1.out.tr HX2.out).tr hx) (hge k x hxk);have t1:=deF (show ¬ (k:Int) < 0 by omega);have t2:=deF (show ¬ (n:Int)<=(k:Int) by omega);have t3:=deF (show ¬ n<=k by omega);clear hfe hge hxk
   go_wp2_with fail
   go_quiet (fail)
   go_wp2_with fail
   go_roundw
   case rel=>exact⟨k+1,by go_num,by omega,hx.dn _⟩
   case measure=>simp[intOf];omega
  ·obtain rfl:k=n:=by omega
   have hlt':¬ (k:Int) < (k:Int):=by omega
   go_wp2_with fail
   go_ret;exact⟨rfl,(HX1.out.tr HX2.out).tr hx⟩
theorem vE {w:World} {vf vg:Value} {f:List bO} (hf:bJ w vf f) (hg:bJ w vg f) :
  Calls prog 18 #[vf,vg] w fun e w'=>e=.returned (.bool true)/\Ext w w':=by
 have:=Ii w vf vg f f hf hg;rw[deT rfl] at this;exact this
theorem Hh (w:World) (vf vg:Value) (l:List aT) (hf:bD w vf l) (hg:bD w vg l) :
  Calls prog 56 #[vf,vg] w fun e w'=>e=.returned (.bool true)/\Ext w w':=by
 obtain⟨fa,fc,rfl,_,_,_,hfE⟩:=An hf;obtain⟨ga,gc,rfl,_,_,_,hgE⟩:=An hg;have HF:=hid hfE;have HG:=hid hgE;clear hf hg hfE hgE;generalize hn:l.length=n at *;have Hn:=hid hn;clear hn;go_enter func56,ntmps56
 go_wp2_with fail
 go_loopw [5] (fun c wr=>∃ k:Nat,c=aA aB k/\k<=n/\Ext w wr) (fun c _=>n - (intOf c).toNat)
 case atStart=>exact⟨0,rfl,by omega,Ext.rf w⟩
 case round=>
  obtain⟨k,rfl,hk,hx⟩:=hrel;by_cases hlt:k < n
  ·have hlt':(k:Int) < (n:Int):=by omega
   obtain⟨x,hxk⟩:=bT (f:=l) (k:=k) (by rw[Hn.out];exact hlt);obtain⟨fb,fo,rfl,hfb,hfe⟩:=HF.out (by omega);obtain⟨gb,go,rfl,hgb,hge⟩:=HG.out (by omega);obtain⟨pv,bv,c0,c1,c2,c3,c4,c5,c6,hp,hb⟩:=cZ (iR.mono w wr fb _ x hx (hfe k x hxk));obtain⟨qv,dv,d0,d1,d2,d3,d4,d5,d6,hq,hd⟩:=cZ (iR.mono w wr gb _ x hx (hge k x hxk));have ML1:=hid (fun p:bF wr=>fH p (v:=.bool true) (Le p.v pv qv x.aP (hp.mono p.h) (hq.mono p.h)));have ML2:=hid (fun p:bF wr=>fH p (v:=.bool true) (vE (hb.mono p.h) (hd.mono p.h)));obtain⟨pa,pc,rfl,_,_,_⟩:=hp.form;obtain⟨qa,qc,rfl,_,_,_⟩:=hq.form;obtain⟨ba,bc,rfl,_,_,_⟩:=hb.form;obtain⟨da,dc,rfl,_,_,_⟩:=hd.form;have t1:=deF (show ¬ (k:Int) < 0 by omega);have t2:=deF (show ¬ (n:Int)<=(k:Int) by omega);have t3:=deF (show ¬ n<=k by omega);clear hfe hge hxk hp hq hb hd;generalize x.aP.aF.length=pn at *;generalize x.aO.length=bn at *;replace c0:=fun p:bF wr=>p.cell c0;replace c1:=fun p:bF wr=>p.cell c1;replace c2:=fun p:bF wr=>p.cell c2;replace c3:=fun p:bF wr=>p.cell c3;replace c4:=fun p:bF wr=>p.cell c4;replace c5:=fun p:bF wr=>p.cell c5;replace c6:=fun p:bF wr=>p.cell c6;replace d0:=fun p:bF wr=>p.cell d0;replace d1:=fun p:bF wr=>p.cell d1;replace d2:=fun p:bF wr=>p.cell d2;replace d3:=fun p:bF wr=>p.cell d3;replace d4:=fun p:bF wr=>p.cell d4;replace d5:=fun p:bF wr=>p.cell d5;replace d6:=fun p:bF wr=>p.cell d6
   go_wp2_with fail
   refine cJ (by kernel_rfl) (by kernel_rfl) ?_
   repeat (go_big_quiet_step (first | with_reducible exact ML1.out _ | with_reducible exact ML2.out _))
   refine wpQuiet_nil ?_;rintro w' ⟨p,rfl⟩;have HX:=hid (hx.tr p.h);clear ML1 ML2 c0 c1 c2 c3 c4 c5 c6 d0 d1 d2 d3 d4 d5 d6;generalize p.v=W at *
   go_wp2_with fail
   go_roundw
   case rel=>exact⟨k+1,by go_num,by omega,HX.out⟩
   case measure=>simp[intOf];omega
  ·obtain rfl:k=n:=by omega
   have hlt':¬ (k:Int) < (k:Int):=by omega
   go_wp2_with fail
   go_ret;exact⟨rfl,hx⟩
theorem sO (w:World) (c n:Int) (tv bv tu bu:Value) (l:List Queue) (b:List aT) (h1:aX w tv l) (h2:bD w bv b) (h3:aX w tu l) (h4:bD w bu b) :
  Calls prog 17 #[.agg #[aA aB c,aA aB n,tv,bv],.agg #[aA aB c,aA aB n,tu,bu]] w fun e w'=>e=.returned (.bool true)/\Ext w w':=by
 have ST:=hid (fun(W:World) (h:Ext w W)=>Gz W tv tu l (h1.mono h) (h3.mono h));have SB:=hid (fun(W:World) (h:Ext w W)=>Hh W bv bu b (h2.mono h) (h4.mono h));obtain⟨a1,c1,rfl,_,_,_⟩:=h1.form;obtain⟨a2,c2,rfl,_,_,_⟩:=h2.form;obtain⟨a3,c3,rfl,_,_,_⟩:=h3.form;obtain⟨a4,c4,rfl,_,_,_⟩:=h4.form;clear h1 h2 h3 h4;generalize l.length=ln at *;generalize b.length=bn at *;have HX1:=hid ((Ext.rf w).al (.cells #[aA aB c,aA aB n,aE a1 ln c1,aE a2 bn c2] 25));have HS1:=hid (fun(W:World) (h:Ext (w.alloc (.cells #[aA aB c,aA aB n,aE a1 ln c1,aE a2 bn c2] 25)) W)=>eR h);have HX2:=hid ((Ext.rf (w.alloc (.cells #[aA aB c,aA aB n,aE a1 ln c1,aE a2 bn c2] 25))).al (.cells #[aA aB c,aA aB n,aE a3 ln c3,aE a4 bn c4] 25));have HS2:=hid (fun(W:World) (h:Ext ((w.alloc (.cells #[aA aB c,aA aB n,aE a1 ln c1,aE a2 bn c2] 25)).alloc (.cells #[aA aB c,aA aB n,aE a3 ln c3,aE a4 bn c4] 25)) W)=>show W.cell? ⟨w.heap.size+1,3,aD⟩=aC (aE a4 bn c4) from by
  have:=(eR h).2.2.2
  rwa [aCl] at this)
 have hE:=hid (HX1.out.tr HX2.out);go_enter func17,ntmps17
 go_wp2_with fail
 refine(ST.out _ hE.out).mono ?_;rintro e w3 ⟨rfl,hx3⟩;obtain⟨_,_,_,k3⟩:=HS1.out w3 (HX2.out.tr hx3);have k4:=HS2.out w3 hx3
 go_wp2_with fail
 refine(SB.out _ (hE.out.tr hx3)).mono ?_;rintro e w4 ⟨rfl,hx4⟩
 go_wp2_with fail
 go_ret;exact⟨rfl,hE.out.tr (hx3.tr hx4)⟩
def Uf:List aT:=[⟨1,lM 3,[⟨0,8⟩,⟨1,13⟩]⟩,⟨4,⟨2,3,48,2,[⟨6,4⟩]⟩,[⟨0,9⟩]⟩]
def farmS (m:Int):aV:=⟨5,6,eJ m 0 6,Uf⟩
structure nV (W:World) (F B p1 b1 p2 b2:Nat) (m:Int):Prop where
 field:mY W F m 0 6
 row:gF 40 W B [aA aB 1,aA aB 3,aA aB 2,aA aB 30,aA aB 3,aE (aC ⟨p1,0,aD⟩) 2 2,aE (aC ⟨b1,0,aD⟩) 2 2,aA aB 4,aA aB 2,aA aB 3,aA aB 48,aA aB 2,aE (aC ⟨p2,0,aD⟩) 1 1,aE (aC ⟨b2,0,aD⟩) 1 1]
 ne:p1≠F/\b1≠F/\p2≠F/\b2≠F/\B≠F
 p1:aU W (aE (aC ⟨p1,0,aD⟩) 2 2) Ar
 b1:bJ W (aE (aC ⟨b1,0,aD⟩) 2 2) [⟨0,8⟩,⟨1,13⟩]
 p2:aU W (aE (aC ⟨p2,0,aD⟩) 1 1) [⟨6,4⟩]
 b2:bJ W (aE (aC ⟨b2,0,aD⟩) 1 1) [⟨0,9⟩]
theorem jC {α:Type} {f g:α->Int} {W W':World} {p n c r:Nat} {xs:List α} (h:SV 2 (E2 f g) W (aE (aC ⟨p,0,aD⟩) n c) xs) (hg:W.grownBy W' (aC r)) (hp:p≠r):SV 2 (E2 f g) W' (aE (aC ⟨p,0,aD⟩) n c) xs:=by
 rcases h with h | ⟨b,off,cap,e,h1,h2,hl,h3,h4⟩
 ·exact .inl h
 ·refine .inr ⟨b,off,cap,e,h1,h2,hl,(by cases e;exact h3.same hg.size (hg.block p h3.1 (fun e=>hp (Option.some.inj e)))),fun k x hk=>?_⟩;cases e;have hc:∀ o,W'.cell? ⟨p,o,aD⟩=W.cell? ⟨p,o,aD⟩:=fun o=>aCk (a:=⟨p,o,aD⟩) (hg.block p h3.1 (fun e=>hp (Option.some.inj e)));obtain⟨e1,e2,e3⟩:=h4 k x hk;exact⟨by rw[hc];exact e1,by rw[hc];exact e2,e3⟩
section
variable {W W':World} {F B p1 b1 p2 b2:Nat} {m:Int}
theorem nV.ext (h:nV W F B p1 b1 p2 b2 m) (hx:Ext W W'):nV W' F B p1 b1 p2 b2 m:=
 ⟨h.field.ext hx,h.row.ext hx,h.ne,h.p1.mono hx,h.b1.mono hx,h.p2.mono hx,h.b2.mono hx⟩
theorem nV.tree (h:nV W F B p1 b1 p2 b2 m) (hm:I64 m):aX W (aE (aC ⟨F+4,0,aD⟩) 4 4) (eJ m 0 6):=h.field.v hm (i64_small' (by decide) (by decide)) (i64_small' (by decide) (by decide))
theorem nV.books (h:nV W F B p1 b1 p2 b2 m):bD W (aE (aC ⟨B,0,aD⟩) 2 2) Uf:=by
 refine .inr ⟨B,0,2,rfl,by decide,by omega,by decide,mS.row h.row,fun k x hk=>?_⟩;rcases k with _ | _ | k
 ·cases hk;refine⟨[aA aB 1,aA aB 3,aA aB 2,aA aB 30,aA aB 3,aE (aC ⟨p1,0,aD⟩) 2 2,aE (aC ⟨b1,0,aD⟩) 2 2],⟨_,_,rfl,⟨_,rfl,h.p1,i64_small' (by decide) (by decide),i64_small' (by decide) (by decide),i64_small' (by decide) (by decide),i64_small' (by decide) (by decide)⟩,h.b1,i64_small' (by decide) (by decide)⟩,fun j u hj=>?_⟩;have hlt:=(aBD.1 hj).1;simp only[aBB,aCa] at hlt;refine h.row.cell ?_;rw[show 0+0*7+j=j by omega];rcases(by omega:j=0\/j=1\/j=2\/j=3\/j=4\/j=5\/j=6) with rfl | rfl | rfl | rfl | rfl | rfl | rfl <;> exact hj
 ·cases hk;refine⟨[aA aB 4,aA aB 2,aA aB 3,aA aB 48,aA aB 2,aE (aC ⟨p2,0,aD⟩) 1 1,aE (aC ⟨b2,0,aD⟩) 1 1],⟨_,_,rfl,⟨_,rfl,h.p2,i64_small' (by decide) (by decide),i64_small' (by decide) (by decide),i64_small' (by decide) (by decide),i64_small' (by decide) (by decide)⟩,h.b2,i64_small' (by decide) (by decide)⟩,fun j u hj=>?_⟩;have hlt:=(aBD.1 hj).1;simp only[aBB,aCa] at hlt;refine h.row.cell ?_;rw[show 0+(0+1)*7+j=7+j by omega];rcases(by omega:j=0\/j=1\/j=2\/j=3\/j=4\/j=5\/j=6) with rfl | rfl | rfl | rfl | rfl | rfl | rfl <;> exact hj
 ·simp[Uf] at hk
theorem nV.srow {r:Nat} (h:nV W F B p1 b1 p2 b2 m) (cs:Array Value) (h1:r < F) (h2:p1≠r/\b1≠r/\p2≠r/\b2≠r/\B≠r):nV (W.setRow r cs) F B p1 b1 p2 b2 m:=by
 have hg:=bS W r cs;have k:∀ {j:Nat} {o:Obj},j≠r->W.heap[j]?=aC o->(W.setRow r cs).heap[j]?=aC o:=fun hj ho=>by rw[setRow_other W r _ cs hj];exact ho
 exact⟨⟨k (by omega) h.field.r0,k (by omega) h.field.r1,k (by omega) h.field.r2,k (by omega) h.field.r3,k (by omega) h.field.q⟩,h.row.kept hg (fun e=>h2.2.2.2.2 (Option.some.inj e)),h.ne,
  jC h.p1 hg h2.1,jC h.b1 hg h2.2.1,jC h.p2 hg h2.2.2.1,jC h.b2 hg h2.2.2.2.1⟩
end
theorem Zg (w:World):Calls prog 34 #[] w fun e w'=>∃ F B p1 b1 p2 b2:Nat,e=.returned (.agg #[aA aB 5,aA aB 6,aE (aC ⟨F+4,0,aD⟩) 4 4,aE (aC ⟨B,0,aD⟩) 2 2])/\w.heap.size<=F/\nV w' F B p1 b1 p2 b2 10/\Ext w w':=by
 have H0:=hid (heap_alloc_new w (.cells #[aA aB 0,aA aB 0,aE aD 0 0,aE aD 0 0] 25));go_enter func34,ntmps34
 go_wp2_with fail
 refine(Kd _).mono ?_;rintro e w1 ⟨rfl,hF,hx1⟩;rw[aCl] at *;have HF:=hid hF;have X1:=hid (show Ext (w.alloc (.cells #[aA aB 0,aA aB 0,aE aD 0 0,aE aD 0 0] 25)) w1 from hx1);clear hF hx1
 go_wp2_with fail
 refine(Nv w1 3).mono ?_;rintro e w2 ⟨pb,rfl,hP,hx2⟩;have HP:=hid hP;have X2:=hid hx2;clear hP hx2;have hsz1:w.heap.size+1<=w1.heap.size:=by have:=X1.out.size;simpa using this
 have hF4:w.heap.size+1+4 < w1.heap.size:=(Array.getElem?_eq_some_iff.1 HF.out.q).1;have hsz2:=X2.out.size;have hp0:pb < w2.heap.size/\w2.cell? ⟨pb,0,aD⟩=aC (aA aB 4):=by
  rcases HP.out with ⟨h,_⟩ | ⟨b,off,cap,e,_,_,_,⟨h,_⟩,hE⟩
  ·cases h
  ·cases e;exact⟨h,by have:=(hE 0 _ rfl).1;simpa using this⟩
 have hpF:pb≠w.heap.size+1:=fun e=>by
  have h1:=cell_of_row w2 (w.heap.size+1) 0 _ _ _ (HF.out.ext X2.out).r0;have h2:=hp0.2;rw[e,h1] at h2;simp at h2
 have hz2:w2.heap[w.heap.size]?=aC (.cells #[aA aB 0,aA aB 0,aE aD 0 0,aE aD 0 0] 25 (0,0)):=(((X1.out.tr X2.out).block _ (by simp))).trans H0.out;have hpZ:pb≠w.heap.size:=fun e=>by
  have h1:=cell_of_row w2 w.heap.size 0 _ _ _ hz2;have h2:=hp0.2;rw[e,h1] at h2;simp at h2
 have e3:=(Ext.rf w2).al (.cells #[aA aB 0,aA aB 8,aA aB 1,aA aB 13] 42);have e4:=(Ext.rf (w2.alloc (.cells #[aA aB 0,aA aB 8,aA aB 1,aA aB 13] 42))).al (.cells #[aA aB 6,aA aB 4] 44);have e5:=(Ext.rf ((w2.alloc (.cells #[aA aB 0,aA aB 8,aA aB 1,aA aB 13] 42)).alloc (.cells #[aA aB 6,aA aB 4] 44))).al (.cells #[aA aB 0,aA aB 9] 42);have e6:=(Ext.rf (((w2.alloc (.cells #[aA aB 0,aA aB 8,aA aB 1,aA aB 13] 42)).alloc (.cells #[aA aB 6,aA aB 4] 44)).alloc (.cells #[aA aB 0,aA aB 9] 42))).al (.cells #[aA aB 1,aA aB 3,aA aB 2,aA aB 30,aA aB 3,aE (aC ⟨pb,0,aD⟩) 2 2,aE (aC ⟨w2.heap.size,0,aD⟩) 2 2,aA aB 4,aA aB 2,aA aB 3,aA aB 48,aA aB 2,aE (aC ⟨w2.heap.size+1,0,aD⟩) 1 1,aE (aC ⟨w2.heap.size+1+1,0,aD⟩) 1 1] 40);have vb1:bJ (w2.alloc (.cells #[aA aB 0,aA aB 8,aA aB 1,aA aB 13] 42)) (aE (aC ⟨w2.heap.size,0,aD⟩) 2 2) [⟨0,8⟩,⟨1,13⟩]:=Ki (w:=w2) [⟨0,8⟩,⟨1,13⟩] rfl rfl rfl (by decide) (by decide);have vp2:aU ((w2.alloc (.cells #[aA aB 0,aA aB 8,aA aB 1,aA aB 13] 42)).alloc (.cells #[aA aB 6,aA aB 4] 44)) (aE (aC ⟨w2.heap.size+1,0,aD⟩) 1 1) [⟨6,4⟩]:=qG (f:=Piece.Len) (g:=Piece.N) (w:=(w2.alloc (.cells #[aA aB 0,aA aB 8,aA aB 1,aA aB 13] 42))) [⟨6,4⟩] (by rw[aCl]) rfl rfl (by decide) (fun r hr=>by simp at hr;rcases hr with rfl;exact⟨i64_small' (by decide) (by decide),i64_small' (by decide) (by decide)⟩);have vb2:bJ (((w2.alloc (.cells #[aA aB 0,aA aB 8,aA aB 1,aA aB 13] 42)).alloc (.cells #[aA aB 6,aA aB 4] 44)).alloc (.cells #[aA aB 0,aA aB 9] 42)) (aE (aC ⟨w2.heap.size+1+1,0,aD⟩) 1 1) [⟨0,9⟩]:=Ki (w:=((w2.alloc (.cells #[aA aB 0,aA aB 8,aA aB 1,aA aB 13] 42)).alloc (.cells #[aA aB 6,aA aB 4] 44))) [⟨0,9⟩] (by rw[aCl,aCl]) rfl rfl (by decide) (by decide);have s5:(((w2.alloc (.cells #[aA aB 0,aA aB 8,aA aB 1,aA aB 13] 42)).alloc (.cells #[aA aB 6,aA aB 4] 44)).alloc (.cells #[aA aB 0,aA aB 9] 42)).heap.size=w2.heap.size+1+1+1:=by simp only[aCl]
 have hFA:=hid (show nV ((((w2.alloc (.cells #[aA aB 0,aA aB 8,aA aB 1,aA aB 13] 42)).alloc (.cells #[aA aB 6,aA aB 4] 44)).alloc (.cells #[aA aB 0,aA aB 9] 42)).alloc (.cells #[aA aB 1,aA aB 3,aA aB 2,aA aB 30,aA aB 3,aE (aC ⟨pb,0,aD⟩) 2 2,aE (aC ⟨w2.heap.size,0,aD⟩) 2 2,aA aB 4,aA aB 2,aA aB 3,aA aB 48,aA aB 2,aE (aC ⟨w2.heap.size+1,0,aD⟩) 1 1,aE (aC ⟨w2.heap.size+1+1,0,aD⟩) 1 1] 40)) (w.heap.size+1) (w2.heap.size+1+1+1) pb w2.heap.size (w2.heap.size+1) (w2.heap.size+1+1) 10 from
  ⟨HF.out.ext (X2.out.tr (e3.tr (e4.tr (e5.tr e6)))),by
   have:=gF.new (T:=40) (((w2.alloc (.cells #[aA aB 0,aA aB 8,aA aB 1,aA aB 13] 42)).alloc (.cells #[aA aB 6,aA aB 4] 44)).alloc (.cells #[aA aB 0,aA aB 9] 42)) #[aA aB 1,aA aB 3,aA aB 2,aA aB 30,aA aB 3,aE (aC ⟨pb,0,aD⟩) 2 2,aE (aC ⟨w2.heap.size,0,aD⟩) 2 2,aA aB 4,aA aB 2,aA aB 3,aA aB 48,aA aB 2,aE (aC ⟨w2.heap.size+1,0,aD⟩) 1 1,aE (aC ⟨w2.heap.size+1+1,0,aD⟩) 1 1].toList;rw[s5] at this;exact this,⟨hpF,by omega,by omega,by omega,by omega⟩,HP.out.mono (e3.tr (e4.tr (e5.tr e6))),vb1.mono (e4.tr (e5.tr e6)),aU.mono vp2 (e5.tr e6),vb2.mono e6⟩)
 have hX6:=hid (X1.out.tr (X2.out.tr (e3.tr (e4.tr (e5.tr e6)))));have HB:=hid (show ((((w2.alloc (.cells #[aA aB 0,aA aB 8,aA aB 1,aA aB 13] 42)).alloc (.cells #[aA aB 6,aA aB 4] 44)).alloc (.cells #[aA aB 0,aA aB 9] 42)).alloc (.cells #[aA aB 1,aA aB 3,aA aB 2,aA aB 30,aA aB 3,aE (aC ⟨pb,0,aD⟩) 2 2,aE (aC ⟨w2.heap.size,0,aD⟩) 2 2,aA aB 4,aA aB 2,aA aB 3,aA aB 48,aA aB 2,aE (aC ⟨w2.heap.size+1,0,aD⟩) 1 1,aE (aC ⟨w2.heap.size+1+1,0,aD⟩) 1 1] 40)).heap[w.heap.size]?=aC (.cells #[aA aB 0,aA aB 0,aE aD 0 0,aE aD 0 0] 25 (0,0)) from ((e3.tr (e4.tr (e5.tr e6))).block _ (by omega)).trans hz2);have hXX:=hid (((((Ext.rf w).al _).tr hX6.out)).sr (aBq w.heap.size) #[aA aB 5,aA aB 6,aE (aC ⟨w.heap.size+1+4,0,aD⟩) 4 4,aE (aC ⟨w2.heap.size+1+1+1,0,aD⟩) 2 2]);have hFF:=hid (hFA.out.srow (r:=w.heap.size) #[aA aB 5,aA aB 6,aE (aC ⟨w.heap.size+1+4,0,aD⟩) 4 4,aE (aC ⟨w2.heap.size+1+1+1,0,aD⟩) 2 2] (by omega) ⟨hpZ,by omega,by omega,by omega,by omega⟩);clear e3 e4 e5 e6 vb1 vp2 vb2 s5 hz2
 go_wp2_with (refine wpList_store_row rfl 25 _ _ rfl w.heap.size #[aA aB 5,aA aB 6,aE (aC ⟨w.heap.size+1+4,0,aD⟩) 4 4,aE (aC ⟨w2.heap.size+1+1+1,0,aD⟩) 2 2] rfl rfl 25 #[aA aB 0,aA aB 0,aE aD 0 0,aE aD 0 0] HB.out size25 rfl (by simp[aBz]) ?_)
 have HB2:=setRow_heap ((((w2.alloc (.cells #[aA aB 0,aA aB 8,aA aB 1,aA aB 13] 42)).alloc (.cells #[aA aB 6,aA aB 4] 44)).alloc (.cells #[aA aB 0,aA aB 9] 42)).alloc (.cells #[aA aB 1,aA aB 3,aA aB 2,aA aB 30,aA aB 3,aE (aC ⟨pb,0,aD⟩) 2 2,aE (aC ⟨w2.heap.size,0,aD⟩) 2 2,aA aB 4,aA aB 2,aA aB 3,aA aB 48,aA aB 2,aE (aC ⟨w2.heap.size+1,0,aD⟩) 1 1,aE (aC ⟨w2.heap.size+1+1,0,aD⟩) 1 1] 40)) w.heap.size _ #[aA aB 5,aA aB 6,aE (aC ⟨w.heap.size+1+4,0,aD⟩) 4 4,aE (aC ⟨w2.heap.size+1+1+1,0,aD⟩) 2 2] _ _ HB.out;exact bodyPost_ret (results_cell_row rfl _ _ w.heap.size 25 #[aA aB 5,aA aB 6,aE (aC ⟨w.heap.size+1+4,0,aD⟩) 4 4,aE (aC ⟨w2.heap.size+1+1+1,0,aD⟩) 2 2] (0,0) _ rfl HB2 underlying25 rfl size25) rfl ⟨_,_,_,_,_,_,rfl,by omega,hFF.out,hXX.out⟩
theorem aAm {l:List Queue} {x:aT} (h:cB l x):nD x.aP x.aO=(fY (fS x.aP x.aO) (x.aO.length - 1),0):=zT h.req h.many.1 (fun k hk=>(h.bites k hk).1)
theorem Ly {l:List Queue} {x:aT} (h:cB l x) (t:Int):fG t x=decide (fY (fS x.aP x.aO) (x.aO.length - 1)<=t):=by unfold fG;rw[aAm h]
theorem aB4:aZ ⟨0,0,eJ 10 0 6,[]⟩=0:=by
 have hb:eY (eJ 10 0 6) []=0:=by rw[fV Rx (by decide)];rfl
 exact uH (xY hb (by decide) (by decide) rfl) (Df (fun s h1 h2 p hp=>by
  have h3:∀ s,s < 48->∀ p,p < 4->0<=bV (eJ 10 0 6) [] p s:=by decide +kernel
  exact h3 s h2 p hp))
theorem gL.less {bs cs:List Nat} {W:World} {g:Nat} {l:List Queue} (h:gL bs W g l) (hs:∀ r∈cs,r∈bs):gL cs W g l:=by
 obtain⟨vs,h1,h2⟩:=h;refine⟨vs,h1,fun j x hj=>?_⟩;obtain⟨a,b,c,d,cv,e,f,i⟩:=h2 j x hj;refine⟨a,b,c,d,cv,e,f,fun ad n c he hm=>i ad n c he ?_⟩;rcases aC8.1 hm with h | h
 ·rw[h];exact aCw ..
 ·exact aBl _ (hs _ h)
open Go.RowKit Go.ChangeShapes Go.WideShapes Go.Deep
theorem Sf:prog.cellsOf 25=4:=by kernel_rfl
theorem Sh:prog.cellsOf 22=1:=by kernel_rfl
theorem Sg:prog.cellsOf 23=1:=by kernel_rfl
section
variable {H:Type} {P:Program} {enc:TypeId × Value->H} {w:World} {base:Nat} {spare:Nat->Bool} {held:Bool}
theorem vC {t:TypeId} {f0 f1 f2 f3:Field} {fuel:Nat} {cs:List Value} {x:DataW H × List MemPlace} (ht:P.underlying t=some (.struct #[f0,f1,f2,f3])) (h:DataW.trod enc P w base spare held fuel t cs=some x) :
  ∃ y0 y1 y2 y3 n,x=(.agg [y0.1,y1.1,y2.1,y3.1],y0.2++(y1.2++(y2.2++y3.2)))/\cs.length=P.cellsOf t/\DataW.trod enc P w base spare held n f0.type ((cs.drop f0.offset).take (P.cellsOf f0.type))=some y0/\
   DataW.trod enc P w base spare held n f1.type ((cs.drop f1.offset).take (P.cellsOf f1.type))=some y1/\DataW.trod enc P w base spare held n f2.type ((cs.drop f2.offset).take (P.cellsOf f2.type))=some y2/\
   DataW.trod enc P w base spare held n f3.type ((cs.drop f3.offset).take (P.cellsOf f3.type))=some y3:=by
 obtain⟨xs,n,_,rfl,hl,hlen,hf⟩:=DataW.trod_struct ht h
 match xs,hlen with
 | [y0,y1,y2,y3],_=>exact⟨y0,y1,y2,y3,n,by simp,hl,by simpa using hf 0 f0 rfl,by simpa using hf 1 f1 rfl,by simpa using hf 2 f2 rfl,by simpa using hf 3 f3 rfl⟩
end
section
variable {H:Type} {enc:TypeId × Value->H} {W:World} {base:Nat} {spare:Nat->Bool} {held:Bool}
theorem Nz {fuel:Nat} {cs:List Value} {x:DataW H × List MemPlace} (h:DataW.trod enc prog W base spare held fuel 25 cs=some x) (hw:∀ n∈x.1.weights prog 25,n<=reachBytes) (hz:W.noneFrozen x.2):∃ s,Ge W cs s:=by
 obtain⟨y0,y1,y2,y3,n,rfl,hl,h0,h1,h2,h3⟩:=vC underlying25 h;rw[Sf] at hl
 match cs,hl with
 | [c0,c1,c2,c3],_=>
  simp only[lE,Sh,Sg,List.drop_zero,List.drop_succ_cons,List.take_succ_cons,List.take_zero] at h0 h1 h2 h3;obtain⟨n0,e0,_,w0⟩:=DataW.trod_int underlying3 h0;obtain⟨n1,e1,_,w1⟩:=DataW.trod_int underlying3 h1;simp only[List.cons.injEq,and_true] at e0 e1;subst e0 e1;obtain⟨qs,hqs⟩:=Oa h2 (fun k hk=>hw k (by
   simp only[DataW.weights,underlying25,aCu,aCS,DataW.weightsEach,aBm];exact .inr (.inr (.inl hk)))) (sX hz fun p hp=>by simp[hp])
  obtain⟨bs,hbs⟩:=Qy h3 (fun k hk=>hw k (by
   simp only[DataW.weights,underlying25,aCu,aCS,DataW.weightsEach,aBm];exact .inr (.inr (.inr (.inl hk))))) (sX hz fun p hp=>by simp[hp])
  exact⟨⟨n0,n1,qs,bs⟩,_,_,rfl,hqs,hbs,I64.of_wf w0,I64.of_wf w1⟩
theorem Qx {r:Reach} {b0:Nat} {v:Value} {d:DataW H} {p:List MemPlace} (hv:Value.okWide prog W r b0 25 v) (h:DataW.Trod enc prog W base spare held 25 v d p) (hw:∀ n∈d.weights prog 25,n<=reachBytes) (hz:W.noneFrozen p):∃ x,Ag W v x:=by
 obtain⟨cs,rfl,hsz⟩:=okWide_struct underlying25 hv;obtain⟨fuel,hf⟩:=h;obtain⟨x,hx⟩:=Nz (cs:=cs.toList) (by simpa[Value.cells] using hf) hw hz;exact⟨x,cs.toList,by simp,hx⟩
end
theorem Ns {l:List Queue} {b:List aT} (ok:fB l) (hbok:∀ x∈b,cB l x) (h12:b.length<=12) {k:Nat} (hk:k < l.length) (t:Nat):kO (gX l b (k:Int) t):=by
 have:=Jn (g:=fun j=>bV l b j t) (a:=-1800) (b:=50) (cR l (k:Int)) (fun j hj=>tE ok hbok h12 j t (tD ok.pars l.length (k:Int) (by omega) (by omega) j hj).1) (by rw[gT ok.pars (by omega)];simp);rw[show gX l b (k:Int) t=nE (fun j=>bV l b j t) (cR l (k:Int)) from rfl];exact⟨by omega,by omega⟩
@[irreducible] noncomputable def lY (s:aV) (r:aS):Int:=
 if aZ s≠0 then aZ s else if fQ s.aN r≠0 then fQ s.aN r else if r.aI < s.aL then 9 else 0
theorem xQ {s:aV} {r:aS} (h:aZ s≠0):lY s r=aZ s:=by unfold lY;rw[if_pos h]
theorem xP {s:aV} {r:aS} (h:aZ s=0) (h2:fQ s.aN r≠0):lY s r=fQ s.aN r:=by unfold lY;rw[if_neg (by simp[h]),if_pos h2]
theorem uN {s:aV} {r:aS} (h:aZ s=0) (h2:fQ s.aN r=0) (h3:r.aI < s.aL):lY s r=9:=by unfold lY;rw[if_neg (by simp[h]),if_neg (by simp[h2]),if_pos h3]
theorem Cs {s:aV} {r:aS} (h:aZ s=0) (h2:fQ s.aN r=0) (h3:¬ r.aI < s.aL):lY s r=0:=by unfold lY;rw[if_neg (by simp[h]),if_neg (by simp[h2]),if_neg h3]
theorem zV {s:aV} {r:aS} (h:lY s r=0):aZ s=0/\fQ s.aN r=0/\¬ r.aI < s.aL:=by
 by_cases h0:aZ s=0
 ·by_cases h1:fQ s.aN r=0
  ·by_cases h2:r.aI < s.aL
   ·rw[uN h0 h1 h2] at h;exact absurd h (by decide)
   ·exact⟨h0,h1,h2⟩
  ·rw[xP h0 h1] at h;exact absurd h h1
 ·rw[xQ h0] at h;exact absurd h h0
def kB (s:aV) (r:aS):Nat->Int:=sp (bN (gX s.aN s.aK r.aG))
theorem Uw (w:World) (s:aV) (r:aS) (tv bv pv:Value):∃ w1:World,(w.alloc (.cells #[aA aB s.aL,aA aB s.aM,tv,bv] 25)).alloc (.cells #[aA aB r.aG,aA aB r.aI,aA aB r.aH,aA aB r.aJ,pv] 28)=w1/\Ext w w1/\(∀ W,Ext w1 W->(W.cell? ⟨w.heap.size,0,aD⟩=aC (aA aB s.aL)/\W.cell? ⟨w.heap.size,1,aD⟩=aC (aA aB s.aM)/\W.cell? ⟨w.heap.size,2,aD⟩=aC tv/\W.cell? ⟨w.heap.size,3,aD⟩=aC bv))/\
  (∀ W,Ext w1 W->(W.cell? ⟨w.heap.size+1,0,aD⟩=aC (aA aB r.aG)/\W.cell? ⟨w.heap.size+1,1,aD⟩=aC (aA aB r.aI)/\W.cell? ⟨w.heap.size+1,2,aD⟩=aC (aA aB r.aH)/\W.cell? ⟨w.heap.size+1,3,aD⟩=aC (aA aB r.aJ)/\W.cell? ⟨w.heap.size+1,4,aD⟩=aC pv))/\w1.heap.size=w.heap.size+2:=by
 refine⟨_,rfl,((Ext.rf w).al _).al _,fun W h=>eR (((Ext.rf _).al _).tr h),fun W h=>?_,by simp⟩;have:=bY h
 rwa [aCl] at this
theorem pZ (w:World) (tv bv pv:Value) (s:aV) (r:aS) (hl:aX w tv s.aN) (hb:bD w bv s.aK) (hp:aU w pv r.aF) :
  Calls prog 73 #[.agg #[aA aB s.aL,aA aB s.aM,tv,bv],.agg #[aA aB r.aG,aA aB r.aI,aA aB r.aH,aA aB r.aJ,pv]] w fun e w'=>e=.returned (aA aB (lY s r))/\Ext w w':=by
 have F:=hid (fun(W:World) (h:Ext w W)=>eQ W tv bv s (hl.mono h) (hb.mono h));have G:=hid (fun(W:World) (h:Ext w W)=>xI W tv pv s.aN r (hl.mono h) (hp.mono h));obtain⟨wb,hwb,HX,HSS,HRR,hszb⟩:=Uw w s r tv bv pv;have HX0:=hid HX;have HS0:=hid HSS;have HR0:=hid HRR;have HWB:=hid hwb;clear HX HSS HRR hwb;have HA:=hid (xQ (s:=s) (r:=r));have HB:=hid (xP (s:=s) (r:=r));have HC:=hid (uN (s:=s) (r:=r));have HD:=hid (Cs (s:=s) (r:=r));obtain⟨qa,qc,rfl,_,_,_⟩:=hl.form;obtain⟨ba,bc,rfl,_,_,_⟩:=hb.form;obtain⟨pa,pc,rfl,_,_,_⟩:=hp.form;clear hl hb hp;generalize lY s r=ae at *;generalize aZ s=se at *;generalize fQ s.aN r=re at *;generalize s.aN.length=n at *;generalize s.aK.length=z at *;generalize r.aF.length=pn at *;by_cases h0:se=0
 ·subst h0;by_cases h1:re=0
  ·subst h1;by_cases h2:r.aI < s.aL
   ·have HR:=hid (HC.out rfl rfl h2);clear HA HB HC HD;go_enter func73,ntmps73
    go_wp2_with fail
    rw[HWB.out];refine(F.out _ HX0.out).mono ?_;rintro e w2 ⟨rfl,hx2⟩;obtain⟨a0,a1,a2,a3⟩:=HS0.out w2 hx2;obtain⟨c0,c1,c2,c3,c4⟩:=HR0.out w2 hx2
    go_wp2_with fail
    refine(G.out _ (HX0.out.tr hx2)).mono ?_;rintro e w3 ⟨rfl,hx3⟩;clear a0 a1 a2 a3 c0 c1 c2 c3 c4;obtain⟨a0,a1,a2,a3⟩:=HS0.out w3 (hx2.tr hx3);obtain⟨c0,c1,c2,c3,c4⟩:=HR0.out w3 (hx2.tr hx3)
    go_wp2_with fail
    go_ret;exact⟨bB HR.out.symm,HX0.out.tr (hx2.tr hx3)⟩
   ·have HR:=hid (HD.out rfl rfl h2);clear HA HB HC HD;go_enter func73,ntmps73
    go_wp2_with fail
    rw[HWB.out];refine(F.out _ HX0.out).mono ?_;rintro e w2 ⟨rfl,hx2⟩;obtain⟨a0,a1,a2,a3⟩:=HS0.out w2 hx2;obtain⟨c0,c1,c2,c3,c4⟩:=HR0.out w2 hx2
    go_wp2_with fail
    refine(G.out _ (HX0.out.tr hx2)).mono ?_;rintro e w3 ⟨rfl,hx3⟩;clear a0 a1 a2 a3 c0 c1 c2 c3 c4;obtain⟨a0,a1,a2,a3⟩:=HS0.out w3 (hx2.tr hx3);obtain⟨c0,c1,c2,c3,c4⟩:=HR0.out w3 (hx2.tr hx3)
    go_wp2_with fail
    go_ret;exact⟨bB HR.out.symm,HX0.out.tr (hx2.tr hx3)⟩
  ·have HR:=hid (HB.out rfl h1);have hne:=neT h1;clear HA HB HC HD h1;go_enter func73,ntmps73
   go_wp2_with fail
   rw[HWB.out];refine(F.out _ HX0.out).mono ?_;rintro e w2 ⟨rfl,hx2⟩;obtain⟨a0,a1,a2,a3⟩:=HS0.out w2 hx2;obtain⟨c0,c1,c2,c3,c4⟩:=HR0.out w2 hx2
   go_wp2_with fail
   refine(G.out _ (HX0.out.tr hx2)).mono ?_;rintro e w3 ⟨rfl,hx3⟩;clear a0 a1 a2 a3 c0 c1 c2 c3 c4
   go_wp2_with fail
   go_ret;exact⟨bB HR.out.symm,HX0.out.tr (hx2.tr hx3)⟩
 ·have HR:=hid (HA.out h0);have hne:=neT h0;clear HA HB HC HD h0;go_enter func73,ntmps73
  go_wp2_with fail
  rw[HWB.out];refine(F.out _ HX0.out).mono ?_;rintro e w2 ⟨rfl,hx2⟩
  go_wp2_with fail
  go_ret;exact⟨bB HR.out.symm,HX0.out.tr hx2⟩
theorem iI {s:aV} (h:aZ s=0):fB s.aN/\s.aK.length<=12/\∀ x∈s.aK,cB s.aN x:=by
 obtain⟨ok,_,h12,hbok⟩:=eF (cS (cL h).1).1;exact⟨ok,h12,hbok⟩
theorem zO {s:aV} (h:aZ s=0) {k:Nat} (hk:k < s.aN.length):gM (bN (gX s.aN s.aK (k:Int))):=by
 obtain⟨ok,h12,hbok⟩:=iI h;exact uS fun t _=>Ns ok hbok h12 hk t
theorem aAr (W:World) (u:Value) (x:Nat->Int) (t:Nat) (h:t < 48) (hu:bC W u (bN x)) :
  Calls prog 177 #[u,aA aB (t:Int)] W fun e w'=>e=.returned (aA aB (x t))/\Ext W w':=by
 have:=aBg W u _ hu (eE _) (t:Int) (by omega) (by omega)
 rwa [Int.toNat_natCast,fL h] at this
theorem Rh {s:aV} {r:aS} (h:lY s r=0):aZ s=0/\bX r/\0<=r.aG/\r.aG < s.aN.length/\gM (bN (gX s.aN s.aK r.aG))/\¬ r.aI < s.aL:=by
 obtain⟨hs,hre,hc⟩:=zV h;obtain⟨_,hrq,g1,g2⟩:=zQ hre;obtain⟨k,hk⟩:∃ k:Nat,r.aG=k:=⟨r.aG.toNat,by omega⟩;refine⟨hs,hrq,g1,g2,?_,hc⟩;rw[hk];exact zO hs (by omega)
section
variable {P:Program} {ops:Array Oper} {Q:Exit->Act->World->Prop} {md:Region.Mode} {S:World->Prop} {t:Nat}
inductive Leads (md:Region.Mode) (ops:Array Oper) (listed:Array Bool) (i:Nat):Nat->Prop
 | one {k:Nat} {o:Oper} (ho:ops[k]?=aC o) (h:∃ e∈o.after,Region.binds md e=true/\e.on=i):Leads md ops listed i k
 | more {k j:Nat} {o:Oper} (ho:ops[k]?=aC o) (h:∃ e∈o.after,Region.binds md e=true/\e.on=j) (hu:listed.getD j true=false) (hl:Leads md ops listed i j):Leads md ops listed i k
def Ek (md:Region.Mode) (ops:Array Oper) (listed:Array Bool) (i:Nat):Nat->Nat->Bool
 | 0,_=>false
 | fuel+1,k=>match ops[k]? with
  | none=>false
  | some o=>o.after.toList.any fun e=>Region.binds md e && (e.on == i || (!(listed.getD e.on true) && Ek md ops listed i fuel e.on))
theorem Om {listed:Array Bool} {i:Nat}:∀ (fuel k:Nat),Ek md ops listed i fuel k=true->Leads md ops listed i k
 | 0,_,h=>by cases h
 | fuel+1,k,h=>by
  unfold Ek at h;cases ho:ops[k]? with
  | none=>rw[ho] at h;cases h
  | some o=>
   rw[ho] at h;obtain⟨e,he,h2⟩:=aC1.1 h;simp only[Bool.and_eq_true,Bool.or_eq_true,beq_iff_eq,Bool.not_eq_true'] at h2;obtain⟨hb,h3⟩:=h2;have he':e∈o.after:=by simpa using he
   rcases h3 with h3 | ⟨h3,h4⟩
   ·exact .one ho ⟨e,he',hb,h3⟩
   ·exact .more ho ⟨e,he',hb,rfl⟩ h3 (Om fuel e.on h4)
theorem qY {listed:Array Bool} {i:Nat} (h0:listed.getD i true=false) (h1:listed.getD i false=true):False:=by
 rcases Nat.lt_or_ge i listed.size with h' | h'
 ·simp[h'] at h0 h1;rw[h0] at h1;cases h1
 ·simp[Array.getElem?_eq_none h'] at h1
theorem Leads.not_ready {listed:Array Bool} {i k:Nat} (h:Leads md ops listed i k) (hi:listed.getD i true=false):k∉Region.ready md ops listed:=by
 intro hk;obtain⟨_,o,ho,hall⟩:=mem_ready.1 hk;cases h with
 | one ho' h=>
  rw[ho] at ho';cases ho';obtain⟨e,he,hb,rfl⟩:=h;exact qY hi (hall e he hb)
 | more ho' h hu hl=>
  rw[ho] at ho';cases ho';obtain⟨e,he,hb,rfl⟩:=h;exact qY hu (hall e he hb)
theorem Leads.set {listed:Array Bool} {i k j:Nat} (h:Leads md ops listed i k) (hi:listed.getD i true=false) (hj:j∈Region.ready md ops listed):Leads md ops (listed.setIfInBounds j true) i k:=by
 induction h with
 | one ho h=>exact .one ho h
 | @more k m o ho h hu hl ih=>
  refine .more ho h ?_ ih;rw[getD_set_ne true (fun e=>hl.not_ready hi (by rw[<- e];exact hj))];exact hu
def mH (P:Program) (md:Region.Mode) (ops:Array Oper) (Q:Exit->Act->World->Prop) (S:World->Prop) (t:Nat):Nat->Array Bool->Act->World->Prop
 | 0,listed,a,w=>Region.ready md ops listed=[]/\Q .normal a w
 | fuel+1,listed,a,w=>
  (Region.ready md ops listed=[]->Q .normal a w)/\
  ∀ i∈Region.ready md ops listed,wpOp P ops Q i (fun a' w'=>(i≠t->S w')/\mH P md ops Q S t fuel (listed.setIfInBounds i true) a' w') a w
theorem vB:∀ (fuel:Nat) (listed:Array Bool) (a:Act) (w:World),mH P md ops Q S t fuel listed a w->wpAny P md ops Q fuel listed a w
 | 0,_,_,_,h=>h
 | fuel+1,_,_,_,h=>⟨h.1,fun i hi=>wpOp_mono (fun a' w' h'=>vB fuel _ a' w' h'.2) (h.2 i hi)⟩
theorem Ks {i:Nat} {oi:Oper} {v:Value} (hi:ops[i]?=aC oi) (hsel:∀ (j:Nat) (o:Oper) cs b,ops[j]?=aC o->o.op≠.select cs b)
  (hQ:∀ c a w,Q (.panic c) (a.put oi.dst v) w->Q (.panic c) a w) :
  ∀ (fuel:Nat) (listed:Array Bool) (a:Act) (w:World),
   (∀ j oj,ops[j]?=aC oj->j≠i->listed.getD j true=false->(∀ e∈oj.after,Region.binds md e=true->e.on≠i)->oi.apart ops oj=true)->
   i∈Region.ready md ops listed->Leads md ops listed i t->YieldsIf P ops S oi v a->S w->
   mH P md ops Q S t fuel (listed.setIfInBounds i true) (a.put oi.dst v) w->mH P md ops Q S t (fuel+1) listed a w:=by
 intro fuel
 induction fuel with
 | zero=>
  intro listed a w _ hr hl hy hS H;refine⟨fun h=>(by rw[h] at hr;cases hr),fun j hj=>?_⟩;by_cases hji:j=i
  ·subst hji;exact hy.wpOp hi hS ⟨fun _=>hS,H⟩
  ·have:=ready_mono hj hji;rw[H.1] at this;cases this
 | succ fuel ih=>
  intro listed a w hfree hr hl hy hS H;refine⟨fun h=>(by rw[h] at hr;cases hr),fun j hj=>?_⟩;by_cases hji:j=i
  ·subst hji;exact hy.wpOp hi hS ⟨fun _=>hS,H⟩
  ·have h1:=H.2 j (ready_mono hj hji);have hun:=(mem_ready.1 hr).1;obtain⟨hjun,oj,hoj,hall⟩:=mem_ready.1 hj;have hjt:j≠t:=fun e=>hl.not_ready hun (e▸hj);have hnot:∀ e∈oj.after,Region.binds md e=true->e.on≠i:=fun e he hb heq=>qY hun (heq▸hall e he hb);have h2:=wpOp_putIf hoj (hfree j oj hoj hji hjun hnot) (fun cs b=>hsel i oi cs b hi) (fun cs b=>hsel j oj cs b hoj) hQ hy h1;have hfree':∀ k ok,ops[k]?=aC ok->k≠i->(listed.setIfInBounds j true).getD k true=false->
     (∀ e∈ok.after,Region.binds md e=true->e.on≠i)->oi.apart ops ok=true:=fun k ok hk hki hku hno=>by
    refine hfree k ok hk hki ?_ hno;by_cases hjk:j=k
    ·subst hjk;exact hjun
    ·rw[getD_set_ne true hjk] at hku;exact hku
   refine wpOp_mono (fun a' w' h3=>⟨h3.2.1,ih (listed.setIfInBounds j true) a' w' hfree' (ready_mono hr (Ne.symm hji)) (hl.set hun hj) h3.1 (h3.2.1 hjt) ?_⟩) h2;rw[Array.setIfInBounds_comm _ _ hji];exact h3.2.2
theorem Mz {i:Nat} {oi:Oper} {v:Value} {fuel:Nat} {listed:Array Bool} {a:Act} {w:World} (hi:ops[i]?=aC oi)
  (hs:(Region.noSelect ops && Region.free md ops listed i && (Region.ready md ops listed).contains i && Ek md ops listed i ops.size t)=true)
  (hQ:∀ c a w,Q (.panic c) (a.put oi.dst v) w->Q (.panic c) a w) (hy:YieldsIf P ops S oi v a) (hS:S w)
  (h:mH P md ops Q S t fuel (listed.setIfInBounds i true) (a.put oi.dst v) w):mH P md ops Q S t (fuel+1) listed a w:=by
 simp only[Bool.and_eq_true] at hs;obtain⟨⟨⟨h1,h2⟩,h3⟩,h4⟩:=hs;exact Ks hi (Region.noSelect_spec h1) hQ fuel listed a w (Region.free_spec hi h2) (by simpa using h3) (Om _ _ h4) hy hS h
theorem tkT {P:Program} {md:Region.Mode} {ops:Array Oper} {Q:Exit->Act->World->Prop} {S:World->Prop} {t:Nat} (i:Nat) {oi:Oper} {v:Value} {fuel:Nat} {listed:Array Bool} {a a':Act} {w:World} (h:mH P md ops Q S t fuel (listed.setIfInBounds i true) a' w) (hi:ops[i]?=some oi:=by rfl)
 (hs:(Region.noSelect ops && Region.free md ops listed i && (Region.ready md ops listed).contains i && Ek md ops listed i ops.size t)=true:=by kernel_rfl)
 (hw:Region.wanted oi (yielded ops a.tmps)=true:=by rfl)
 (hy:∀ W,S W->(execOp a.eval oi).run P W=.ok (.value v) W:=by intro W hSW;simp only[List.getElem_toArray,List.getElem_cons_zero,List.getElem_cons_succ];(try dsimp only at hSW);go_simp;(try with_reducible rfl))
 (hQ:∀ c a w,Q (.panic c) (a.put oi.dst v) w->Q (.panic c) a w:=by exact fun _ _ _ h=>h) (hS:S w:=by assumption)
 (ha:a.put oi.dst v=a':=by simp only[List.getElem_toArray,List.getElem_cons_zero,List.getElem_cons_succ,Act.put,List.setIfInBounds_toArray,List.set_cons_zero,List.set_cons_succ];rfl):mH P md ops Q S t (fuel+1) listed a w:=by
 subst ha;exact Mz hi hs hQ (Or.inl ⟨hw,hy⟩) hS h
theorem Na {listed:Array Bool} {a:Act} {w:World} (hr:Region.ready md ops listed=[]) (h:Q .normal a w) :
  ∀ fuel,mH P md ops Q S t fuel listed a w
 | 0=>⟨hr,h⟩
 | _+1=>⟨fun _=>h,by rw[hr];simp⟩
theorem dG {i:Nat} {o:Oper} {fuel:Nat} {listed:Array Bool} {a:Act} {w:World} (hr:Region.ready md ops listed=[i]) (ho:ops[i]?=aC o)
  (h:∀ K':Act->World->Prop,Shut (∀ a w,S w->(S w->mH P md ops Q S t fuel (listed.setIfInBounds i true) a w)->K' a w)->if Region.wanted o (yielded ops a.tmps)=true then Oper.wp P o a w K' Q else K' (a.put o.dst undef) w) :
  mH P md ops Q S t (fuel+1) listed a w:=
 ⟨fun h0=>(by rw[hr] at h0;cases h0),fun j hj=>by
  rw[hr] at hj;obtain rfl:=aCB.1 hj;exact wpOp_step ho (fun K' hK=>h K' (fun a w hS hW=>hK a w ⟨fun _=>hS,hW hS⟩))⟩
theorem eM {o:Oper} {fuel:Nat} {listed:Array Bool} {a:Act} {w:World} (hr:Region.ready md ops listed=[t]) (ho:ops[t]?=aC o) (hd:Region.ready md ops (listed.setIfInBounds t true)=[])
  (h:∀ K':Act->World->Prop,Shut (∀ a w,Q .normal a w->K' a w)->if Region.wanted o (yielded ops a.tmps)=true then Oper.wp P o a w K' Q else K' (a.put o.dst undef) w) :
  mH P md ops Q S t (fuel+1) listed a w:=
 ⟨fun h0=>(by rw[hr] at h0;cases h0),fun j hj=>by
  rw[hr] at hj;obtain rfl:=aCB.1 hj;exact wpOp_step ho (fun K' hK=>h K' (fun a w hW=>hK a w ⟨fun h=>absurd rfl h,Na hd hW _⟩))⟩
theorem dF {id:Nat} {a:Act} {w:World} (t:Nat) (S:World->Prop) (hm:P.follows .mixedOrders=true) (hS:S w.drew)
  (h:S w.drew->mH P .any ops Q S t ops.size (Array.replicate ops.size false) a w.drew):(Code.region id ops true).wp P Q a w:=
 wp_region_any hm (vB _ _ _ _ (h hS))
end
theorem nW {W:World} {b o:Nat} {v:Value} (h:W.cell? ⟨b,o,aD⟩=aC v):W.setCell ⟨b,o,aD⟩ v=W:=by
 have hb:=aBx W _ h;unfold aCX;have e:(W.heap.modify b fun| .cells c elem frozen=>.cells (if(none:Option Nat).isSome then c else c.setIfInBounds o v) elem frozen | o=>o)=W.heap:=by
  apply aD0
  ·simp
  ·intro i h1 h2;rw[Array.getElem_modify];split
   ·rename_i hbi
    subst hbi;unfold World.cell? at h;rw[aBT hb] at h;cases hob:W.heap[b] with
    | cells c elem fr=>
     rw[hob] at h;have hc:c[o]?=aC v:=by simpa using h
     have hs:c.setIfInBounds o v=c:=by
      apply aD0
      ·simp
      ·intro j h3 h4;rw[Array.getElem_setIfInBounds];split
       ·rename_i hoj
        subst hoj;rw[aBT h4] at hc;exact(Option.some.inj hc).symm
       ·rfl
     simp[hs]
    | _=>simp_all
   ·rfl
 exact congrArg (fun hp=>{ W with heap:=hp }) e
theorem Ac {α:Type}:∀ (css:List (List α)),(∀ cs∈css,cs.length=7)->∀ (k j:Nat) (cs:List α) (v:α),css[k]?=aC cs->j < 7->css.flatten.set (k*7+j) v=(css.set k (cs.set j v)).flatten
 | [],_,k,j,cs,v,h,_=>by simp at h
 | c::css,h7,k,j,cs,v,h,hj=>by
  have h1:=h7 c (aCw ..);cases k with
  | zero=>
   cases h;rw[aBR,aBE,aCT,List.set_append_left _ _ (by omega)];rfl
  | succ k=>
   rw[aCT,List.set_append_right _ _ (by omega),h1,show (k+1)*7+j - 7=k*7+j by omega,Ac css (fun d hd=>h7 d (aBl _ hd)) k j cs v h hj];rfl
theorem vG {W:World} {base T sz n g cap o:Nat} {xs:List Value} {v:Value} (h:W.ownsRow base T sz (aE (aC ⟨g,0,aD⟩) n cap) n xs) (ho:o < n*sz):(W.setCell ⟨g,o,aD⟩ v).ownsRow base T sz (aE (aC ⟨g,0,aD⟩) n cap) n (xs.set o v):=by
 obtain⟨h1,h2⟩:=h;refine⟨by simpa using h1,?_⟩;rcases h2 with ⟨h,_⟩ | ⟨g',cap',cur,he,hb,hg,hn,hm,hs,ht⟩
 ·cases h
 ·cases he;refine .inr ⟨g,cap,cur.setIfInBounds o v,rfl,hb,?_,hn,hm,by simpa using hs,?_⟩
  ·exact heap_setCell_same W g o cur T v hg
  ·rw[Array.toList_setIfInBounds,List.take_set,ht]
theorem jW {α:Type} {f g:α->Int} {W W':World} {v:Value} {xs:List α} {row:Option Nat} (h:SV 2 (E2 f g) W v xs) (hg:W.grownBy W' row) (ha:rY v row):SV 2 (E2 f g) W' v xs:=by
 rcases h with h | ⟨b,off,cap,rfl,h1,h2,hl,h3,h4⟩
 ·exact .inl h
 ·refine .inr ⟨b,off,cap,rfl,h1,h2,hl,h3.same hg.size (hg.block b h3.1 (ha _ _ _ rfl)),fun k x hk=>?_⟩;have hc:∀ o,W'.cell? ⟨b,o,aD⟩=W.cell? ⟨b,o,aD⟩:=fun o=>aCk (a:=⟨b,o,aD⟩) (hg.block b h3.1 (ha _ _ _ rfl));obtain⟨e1,e2,e3⟩:=h4 k x hk;exact⟨by rw[hc];exact e1,by rw[hc];exact e2,e3⟩
theorem Cp {α:Type} {f g:α->Int} {W:World} {v:Value} {xs:List α} (h:SV 2 (E2 f g) W v xs) (hne:xs≠[]):∀ a n c,v=aE (aC a) n c->a.block < W.heap.size:=by
 rcases h with ⟨h,_⟩ | ⟨b,off,cap,rfl,h1,h2,hl,⟨h3,_⟩,h4⟩
 ·exact absurd h hne
 ·intro a n c e;cases e;exact h3
def lX (bs:List Nat) (css:List (List Value)):Prop:=∀ cs∈css,∀ u∈cs,bU bs u
theorem eK (bs:List Nat) (k:IntKind) (n:Int):bU bs (.int k n):=fun a n c e=>by cases e
theorem gE {W W':World} {cs:List Value} {x:aT} {r:Nat} (h:fE W cs x) (hg:W.grownBy W' (aC r)) (ha:∀ u∈cs,bU [r] u):fE W' cs x:=by
 obtain⟨qs,bv,rfl,⟨pv,rfl,hp,i1,i2,i3,i4⟩,hb,i5⟩:=h;have ap:∀ u,bU [r] u->rY u (aC r):=fun u hu a n c e he=>hu a n c e (aCB.2 (Option.some.inj he));exact⟨_,bv,rfl,⟨pv,rfl,jW hp hg (ap _ (ha _ (by simp))),i1,i2,i3,i4⟩,jW hb hg (ap _ (ha _ (by simp))),i5⟩
theorem oA {W W':World} {css:List (List Value)} {b:List aT} {r:Nat} (h:fF W css b) (hg:W.grownBy W' (aC r)) (ha:lX [r] css):fF W' css b:=
 ⟨h.len,fun k cs x h1 h2=>gE (h.each k cs x h1 h2) hg (ha cs (aBJ h1))⟩
theorem jQ {W:World} {css:List (List Value)} {b:List aT} (h:fF W css b) (hne:∀ x∈b,x.aP.aF≠[]/\x.aO≠[]):∀ cs∈css,∀ u∈cs,∀ a n c,u=aE (aC a) n c->a.block < W.heap.size:=by
 intro cs hc u hu;obtain⟨k,hk⟩:=aCU.1 hc;have hkl:=(aBD.1 hk).1;obtain⟨x,hx⟩:=bT (f:=b) (k:=k) (by rw[<- h.len];exact hkl);obtain⟨n1,n2⟩:=hne x (aBJ hx);obtain⟨qs,bv,rfl,⟨pv,rfl,hp,i1,i2,i3,i4⟩,hb,i5⟩:=h.each k cs x hk hx;simp only[List.cons_append,List.nil_append,aC8,aCj,or_false] at hu;rcases hu with rfl | rfl | rfl | rfl | rfl | rfl | rfl
 ·intro a n c e;cases e
 ·intro a n c e;cases e
 ·intro a n c e;cases e
 ·intro a n c e;cases e
 ·intro a n c e;cases e
 ·exact Cp hp n1
 ·exact Cp hb n2
theorem Fo {W:World} {css:List (List Value)} {b:List aT} {k:Nat} {cs:List Value} {x:aT} (h:fF W css b) (hk:b[k]?=aC x) (hc:fE W cs x):fF W (css.set k cs) b:=by
 refine⟨by rw[List.length_set,h.len],fun j ds y h1 h2=>?_⟩;by_cases hj:k=j
 ·subst hj;have hkl:k < css.length:=by rw[h.len];exact(aBD.1 hk).1
  rw[aCz hkl] at h1;rw[hk] at h2;cases h1;cases h2;exact hc
 ·rw[aCA hj] at h1;exact h.each j ds y h1 h2
theorem wQ {bs:List Nat} {css:List (List Value)} {k:Nat} {cs:List Value} (h:lX bs css) (hc:∀ u∈cs,bU bs u):lX bs (css.set k cs):=fun ds hd u hu=>by
 rcases List.mem_or_eq_of_mem_set hd with h1 | h1
 ·exact h ds h1 u hu
 ·subst h1;exact hc u hu
def eP (bs:List Nat) (base:Nat) (W:World) (v:Value) (b:List aT):Prop:=
 ∃ css,W.ownsRow base 40 7 v b.length css.flatten/\fF W css b/\lX bs css/\∀ g,v.ownBlock=aC g->lX [g] css
theorem eP.v {bs:List Nat} {base:Nat} {W:World} {v:Value} {b:List aT} (h:eP bs base W v b) (h12:b.length<=12):bD W v b:=by
 obtain⟨css,h1,h2,_⟩:=h;exact Ie h1 h2 h12
theorem eP.ext {bs:List Nat} {base:Nat} {W W':World} {v:Value} {b:List aT} (h:eP bs base W v b) (hx:Ext W W'):eP bs base W' v b:=by
 obtain⟨css,h1,h2,h3,h4⟩:=h;exact⟨css,bE h1 hx,h2.mono hx,h3,h4⟩
theorem eP.kept {bs:List Nat} {base r:Nat} {W W':World} {v:Value} {b:List aT} (h:eP bs base W v b) (hg:W.grownBy W' (aC r)) (hr:r∈bs) (hb:r < base):eP bs base W' v b:=by
 obtain⟨css,h1,h2,h3,h4⟩:=h;exact⟨css,cD h1 hg hb,oA h2 hg (fun cs hc u hu a n c e hm=>h3 cs hc u hu a n c e (by rw[aCB.1 hm];exact hr)),h3,h4⟩
theorem eP.cells {bs:List Nat} {base g z cap:Nat} {W:World} {b:List aT} {k:Nat} {x:aT} (h:eP bs base W (aE (aC ⟨g,0,aD⟩) z cap) b) (hz:b.length=z) (hk:b[k]?=aC x) :
  ∃ pv bv,aU W pv x.aP.aF/\bJ W bv x.aO/\W.cell? ⟨g,k*7,aD⟩=aC (aA aB x.Id)/\W.cell? ⟨g,k*7+1,aD⟩=aC (aA aB x.aP.aG)/\W.cell? ⟨g,k*7+2,aD⟩=aC (aA aB x.aP.aI)/\W.cell? ⟨g,k*7+3,aD⟩=aC (aA aB x.aP.aH)/\W.cell? ⟨g,k*7+4,aD⟩=aC (aA aB x.aP.aJ)/\W.cell? ⟨g,k*7+5,aD⟩=aC pv/\W.cell? ⟨g,k*7+6,aD⟩=aC bv/\g < W.heap.size/\base<=g/\(∀ o,W.frozen? ⟨g,o,aD⟩=false):=by
 obtain⟨css,h1,h2,_⟩:=h;have hkb:=(aBD.1 hk).1;obtain⟨cs,hcs⟩:=bT (f:=css) (k:=k) (by rw[h2.len];exact hkb);obtain⟨qs,bv,rfl,⟨pv,rfl,hp,_⟩,hb,_⟩:=h2.each k cs x hcs hk;have get:∀ j u,j < 7->([aA aB x.Id,aA aB x.aP.aG,aA aB x.aP.aI,aA aB x.aP.aH,aA aB x.aP.aJ,pv,bv]:List Value)[j]?=aC u->W.cell? ⟨g,k*7+j,aD⟩=aC u:=fun j u hj hu=>by
  have e:css.flatten[k*7+j]?=aC u:=by rw[Bd css h2.seven k j hj,hcs];exact hu
  have:=h1.cells (g:=g) rfl (k*7+j) u e;rw[kN] at this
  rwa [aBE] at this
 obtain⟨hl1,hl2⟩:=h1.lt g rfl;refine⟨pv,bv,hp,hb,get 0 _ (by omega) rfl,get 1 _ (by omega) rfl,get 2 _ (by omega) rfl,get 3 _ (by omega) rfl,get 4 _ (by omega) rfl,get 5 _ (by omega) rfl,get 6 _ (by omega) rfl,hl2,hl1,fun o=>?_⟩;rcases h1.2 with ⟨h,_⟩ | ⟨g',cap',cur,he,_,hg,_⟩
 ·cases h
 ·cases he;exact frozen_of_row W g o _ _ hg
theorem eP.setP {bs:List Nat} {base g z cap:Nat} {W:World} {b:List aT} {k:Nat} {x:aT} {u:Value} (h:eP bs base W (aE (aC ⟨g,0,aD⟩) z cap) b) (hz:b.length=z) (hk:b[k]?=aC x) (hu:aU W u x.aP.aF) (ha:bU (g::bs) u) :
  eP bs base (W.setCell ⟨g,k*7+5,aD⟩ u) (aE (aC ⟨g,0,aD⟩) z cap) b:=by
 obtain⟨css,h1,h2,h3,h4⟩:=h;have hkb:=(aBD.1 hk).1;obtain⟨cs,hcs⟩:=bT (f:=css) (k:=k) (by rw[h2.len];exact hkb);obtain⟨qs,bv,rfl,⟨pv,rfl,hp,i1,i2,i3,i4⟩,hb,i5⟩:=h2.each k cs x hcs hk;have hmem:=aBJ hcs;have e:=Ac css h2.seven k 5 _ u hcs (by omega);have hg:=aY W g (k*7+5) u;have h4g:=h4 g rfl;have ap1:bU [g] u:=fun a n c e hm=>ha a n c e (by rw[aCB.1 hm];exact aCw ..);have ap2:bU bs u:=fun a n c e hm=>ha a n c e (aBl _ hm);have hA1:lX [g] (css.set k [aA aB x.Id,aA aB x.aP.aG,aA aB x.aP.aI,aA aB x.aP.aH,aA aB x.aP.aJ,u,bv]):=wQ h4g (fun w hw=>by
  simp only[aC8,aCj,or_false] at hw;rcases hw with rfl | rfl | rfl | rfl | rfl | rfl | rfl
  ·exact eK _ _ _
  ·exact eK _ _ _
  ·exact eK _ _ _
  ·exact eK _ _ _
  ·exact eK _ _ _
  ·exact ap1
  ·exact h4g _ hmem _ (by simp))
 have hA2:lX bs (css.set k [aA aB x.Id,aA aB x.aP.aG,aA aB x.aP.aI,aA aB x.aP.aH,aA aB x.aP.aJ,u,bv]):=wQ h3 (fun w hw=>by
  simp only[aC8,aCj,or_false] at hw;rcases hw with rfl | rfl | rfl | rfl | rfl | rfl | rfl
  ·exact eK _ _ _
  ·exact eK _ _ _
  ·exact eK _ _ _
  ·exact eK _ _ _
  ·exact eK _ _ _
  ·exact ap2
  ·exact h3 _ hmem _ (by simp))
 have hC:fF W (css.set k [aA aB x.Id,aA aB x.aP.aG,aA aB x.aP.aI,aA aB x.aP.aH,aA aB x.aP.aJ,u,bv]) b:=Fo h2 hk ⟨_,bv,rfl,⟨u,rfl,hu,i1,i2,i3,i4⟩,hb,i5⟩;refine⟨css.set k [aA aB x.Id,aA aB x.aP.aG,aA aB x.aP.aI,aA aB x.aP.aH,aA aB x.aP.aJ,u,bv],?_,oA hC hg hA1,hA2,fun g' hg'=>?_⟩
 ·rw[hz] at h1 ⊢;have:=vG (o:=k*7+5) (v:=u) h1 (by omega);rw[e] at this;exact this
 ·obtain rfl:g=g':=by simpa[aCZ] using hg'
  exact hA1
theorem eP.setB {bs:List Nat} {base g z cap:Nat} {W:World} {b:List aT} {k:Nat} {x:aT} {u:Value} (h:eP bs base W (aE (aC ⟨g,0,aD⟩) z cap) b) (hz:b.length=z) (hk:b[k]?=aC x) (hu:bJ W u x.aO) (ha:bU (g::bs) u) :
  eP bs base (W.setCell ⟨g,k*7+6,aD⟩ u) (aE (aC ⟨g,0,aD⟩) z cap) b:=by
 obtain⟨css,h1,h2,h3,h4⟩:=h;have hkb:=(aBD.1 hk).1;obtain⟨cs,hcs⟩:=bT (f:=css) (k:=k) (by rw[h2.len];exact hkb);obtain⟨qs,bv,rfl,⟨pv,rfl,hp,i1,i2,i3,i4⟩,hb,i5⟩:=h2.each k cs x hcs hk;have hmem:=aBJ hcs;have e:=Ac css h2.seven k 6 _ u hcs (by omega);have hg:=aY W g (k*7+6) u;have h4g:=h4 g rfl;have ap1:bU [g] u:=fun a n c e hm=>ha a n c e (by rw[aCB.1 hm];exact aCw ..);have ap2:bU bs u:=fun a n c e hm=>ha a n c e (aBl _ hm);have hA:∀ ds,lX ds css->bU ds u->lX ds (css.set k [aA aB x.Id,aA aB x.aP.aG,aA aB x.aP.aI,aA aB x.aP.aH,aA aB x.aP.aJ,pv,u]):=fun ds hds hdu=>wQ hds (fun w hw=>by
  simp only[aC8,aCj,or_false] at hw;rcases hw with rfl | rfl | rfl | rfl | rfl | rfl | rfl
  ·exact eK _ _ _
  ·exact eK _ _ _
  ·exact eK _ _ _
  ·exact eK _ _ _
  ·exact eK _ _ _
  ·exact hds _ hmem _ (by simp)
  ·exact hdu)
 have hA1:=hA [g] h4g ap1;have hA2:=hA bs h3 ap2;have hC:fF W (css.set k [aA aB x.Id,aA aB x.aP.aG,aA aB x.aP.aI,aA aB x.aP.aH,aA aB x.aP.aJ,pv,u]) b:=Fo h2 hk ⟨_,u,rfl,⟨pv,rfl,hp,i1,i2,i3,i4⟩,hu,i5⟩;refine⟨css.set k [aA aB x.Id,aA aB x.aP.aG,aA aB x.aP.aI,aA aB x.aP.aH,aA aB x.aP.aJ,pv,u],?_,oA hC hg hA1,hA2,fun g' hg'=>?_⟩
 ·rw[hz] at h1 ⊢;have:=vG (o:=k*7+6) (v:=u) h1 (by omega);rw[e] at this;exact this
 ·obtain rfl:g=g':=by simpa[aCZ] using hg'
  exact hA1
theorem eP.less {bs:List Nat} {base:Nat} {W:World} {v:Value} {b:List aT} (h:eP bs base W v b):eP [] base W v b:=by
 obtain⟨css,h1,h2,h3,h4⟩:=h;exact⟨css,h1,h2,fun cs hc u hu a n c e hm=>(by cases hm),h4⟩
theorem info44:(prog.info? 44).map (fun i=>(i.zero,i.size,i.bytes))=aC (aC (.agg #[aA aB 0,aA aB 0]),2,16):=by kernel_rfl
theorem Gu (w:World) (v:Value) (f:List Piece) (hv:aU w v f) (h1:1<=f.length) (hl:f.length<=3) :
  Calls prog 134 #[v] w fun e w'=>∃ g cap,e=.returned (aE (aC ⟨g,0,aD⟩) f.length cap)/\w.heap.size<=g/\aU w' (aE (aC ⟨g,0,aD⟩) f.length cap) f/\Ext w w':=by
 obtain⟨ir,ir1,ir2,ir3,ir4⟩:=info_parts info44;obtain⟨b,off,cap,rfl,_,_,hb,hE⟩:=eZ hv h1;have HN:=hid (mK hE);have HI:=hid (show ∀ r∈f,I64 r.Len/\I64 r.N from fun r hr=>by
  obtain⟨k,hk⟩:=aCU.1 hr;obtain⟨_,_,i1,i2⟩:=hE k r hk;exact⟨i1,i2⟩)
 have HL:=hid (gC Piece.Len Piece.N f);have hown:=jY w 44 2 (by omega);clear hv hE;generalize hn:f.length=n at *;have Hn:=hid hn;clear hn;have he:∀ W,Sem.run prog (binOp .eql 26 (aE (aC ⟨b,off,aD⟩) n cap) (aE aD 0 0)) W=.ok (.bool false) W:=fun W=>rfl;go_enter func134,ntmps134
 go_wp2_with (at_builtin;refine wpList_append_own _ rfl _ _ 26 rfl w.heap.size 44 ir _ 2 16 underlying26 ir1 ir2 ir3 ir4 rfl (by decide) _ _ _ rfl hown ⟨b,off,aD⟩ n cap (cF Piece.Len Piece.N f) rfl HL.out (fun j u hj=>eG ((Ext.rf w).al _) (HN.out j u hj)) (oN f) (by unfold maxLen;omega) (by omega) (by simp) ?_)
 intro v2 W2 hown2 hgrow2 hnil2;have HO:=hid hown2;have HX:=hid (((Ext.rf w).al (.cells #[] 44)).gr hgrow2 (fun k hk=>by cases hk;exact aBq _));clear hown2 hgrow2 hnil2 hown;obtain⟨g,c2,hvv⟩:=iK HO.out (by omega)
 try rw[aBE] at hvv
 subst hvv
 go_wp2_with fail
 go_ret;refine⟨g,c2,rfl,eU HO.out g rfl,cG (base:=w.heap.size) (e:=44) ?_ HI.out (by rw[Hn.out];omega),HX.out⟩;have h:=HO.out;rw[Hn.out];simpa using h
theorem In (w:World) (v:Value) (f:List bO) (hv:bJ w v f) (h1:1<=f.length) (hl:f.length<=3) :
  Calls prog 133 #[v] w fun e w'=>∃ g cap,e=.returned (aE (aC ⟨g,0,aD⟩) f.length cap)/\w.heap.size<=g/\bJ w' (aE (aC ⟨g,0,aD⟩) f.length cap) f/\Ext w w':=by
 obtain⟨ir,ir1,ir2,ir3,ir4⟩:=info_parts info42;obtain⟨va,cap,rfl,_,_,_,hE0⟩:=kM hv;obtain⟨b,off,rfl,hb,hE⟩:=hE0 h1;have HN:=hid (mK hE);have HI:=hid (show ∀ r∈f,I64 r.Piece/\I64 r.At from fun r hr=>by
  obtain⟨k,hk⟩:=aCU.1 hr;obtain⟨_,_,i1,i2⟩:=hE k r hk;exact⟨i1,i2⟩)
 have HL:=hid (gC bO.Piece bO.At f);have hown:=jY w 42 2 (by omega);clear hv hE hE0;generalize hn:f.length=n at *;have Hn:=hid hn;clear hn;have he:∀ W,Sem.run prog (binOp .eql 38 (aE (aC ⟨b,off,aD⟩) n cap) (aE aD 0 0)) W=.ok (.bool false) W:=fun W=>rfl;go_enter func133,ntmps133
 go_wp2_with (at_builtin;refine wpList_append_own _ rfl _ _ 38 rfl w.heap.size 42 ir _ 2 16 underlying38 ir1 ir2 ir3 ir4 rfl (by decide) _ _ _ rfl hown ⟨b,off,aD⟩ n cap (cF bO.Piece bO.At f) rfl HL.out (fun j u hj=>eG ((Ext.rf w).al _) (HN.out j u hj)) (oN f) (by unfold maxLen;omega) (by omega) (by simp) ?_)
 intro v2 W2 hown2 hgrow2 hnil2;have HO:=hid hown2;have HX:=hid (((Ext.rf w).al (.cells #[] 42)).gr hgrow2 (fun k hk=>by cases hk;exact aBq _));clear hown2 hgrow2 hnil2 hown;obtain⟨g,c2,hvv⟩:=iK HO.out (by omega)
 try rw[aBE] at hvv
 subst hvv
 go_wp2_with fail
 go_ret;refine⟨g,c2,rfl,eU HO.out g rfl,cG (base:=w.heap.size) (e:=42) ?_ HI.out (by rw[Hn.out];omega),HX.out⟩;have h:=HO.out;rw[Hn.out];simpa using h
def yQ (b:List aT):Prop:=∀ x∈b,(x.aP.aF≠[]/\x.aO≠[])/\(1<=x.aP.aF.length/\x.aP.aF.length<=3)/\1<=x.aO.length/\x.aO.length<=3
theorem Im (bs:List Nat) (w0 w:World) (v:Value) (b:List aT) (hv:bD w0 v b) (hw:Ext w0 w) (h12:b.length<=12) (hlive:yQ b) (hbs:∀ r∈bs,w0.heap.size<=r) :
  Calls prog 132 #[v] w fun e w'=>∃ u,e=.returned u/\eP bs w.heap.size w' u b/\Ext w w':=by
 obtain⟨ib,ib1,ib2,ib3,ib4⟩:=info_parts info40;obtain⟨a,cap,rfl,_,_,_⟩:=hv.form;cases a with
 | none=>
  have hf:b=[]:=by
   rcases hv with ⟨h,_⟩ | ⟨b',off,c,e,_⟩
   ·exact h
   ·cases e
  subst hf;clear hv;rw[aCa];have he:∀ W,Sem.run prog (binOp .eql 23 (aE aD 0 cap) (aE aD 0 0)) W=.ok (.bool true) W:=fun W=>rfl;go_enter func132,ntmps132
  go_wp2_with fail
  go_ret;exact⟨_,rfl,⟨[],aBV _ _ _ _,⟨rfl,fun k cs x h=>by simp at h⟩,fun cs h=>by simp at h,fun g h=>by cases h⟩,Ext.rf w⟩
 | some ad=>
  obtain⟨css,hC,hlen,hnews⟩:=Zm hv rfl;have HN:=hid hnews;have HL:=hid hlen;have HO1:=hid hC.one;have HC:=hid hC;have HLO:=hid (jQ hC (fun x hx=>(hlive x hx).1));have HBS:=hid hbs;have hown:=jY w 40 7 (by omega);clear hv hC hlen hnews hlive hbs;generalize hn:b.length=n at *;have Hn:=hid hn;clear hn;have he:∀ W,Sem.run prog (binOp .eql 23 (aE (aC ad) n cap) (aE aD 0 0)) W=.ok (.bool false) W:=fun W=>rfl;go_enter func132,ntmps132
  go_wp2_with (at_builtin;refine wpList_append_own _ rfl _ _ 23 rfl w.heap.size 40 ib _ 7 88 underlying23 ib1 ib2 ib3 ib4 rfl (by decide) _ _ _ rfl hown ad n cap css.flatten rfl HL.out (fun j u hj=>eG (hw.al _) (HN.out j u hj)) HO1.out (by unfold maxLen;omega) (by omega) (by simp) ?_)
  intro v2 W2 hown2 hgrow2 hnil2;have HO:=hid hown2;have HX:=hid (((Ext.rf w).al (.cells #[] 40)).gr hgrow2 (fun k hk=>by cases hk;exact aBq _));clear hown2 hgrow2 hnil2 hown
  go_wp2_with fail
  go_ret;refine⟨_,rfl,⟨css,?_,HC.out.mono (hw.tr HX.out),fun cs hc u hu a n' c e hm=>?_,fun g hg cs hc u hu a n' c e hm=>?_⟩,HX.out⟩
  ·have h:=HO.out;rw[Hn.out];simpa using h
  ·have h1:=HLO.out cs hc u hu a n' c e;have h2:=HBS.out _ hm;omega
  ·have h1:=HLO.out cs hc u hu a n' c e;have h2:=eU HO.out g hg;have h3:=hw.size;rw[aCB] at hm;omega
theorem size28:(prog.info? 28).map (·.size)=aC 5:=by kernel_rfl
theorem Gj (w:World) (pv:Value) (r:aS) (hp:aU w pv r.aF) (h1:1<=r.aF.length) (h3:r.aF.length<=3) :
  Calls prog 76 #[.agg #[aA aB r.aG,aA aB r.aI,aA aB r.aH,aA aB r.aJ,pv]] w fun e w'=>∃ g cap,e=.returned (.agg #[aA aB r.aG,aA aB r.aI,aA aB r.aH,aA aB r.aJ,aE (aC ⟨g,0,aD⟩) r.aF.length cap])/\w.heap.size<=g/\aU w' (aE (aC ⟨g,0,aD⟩) r.aF.length cap) r.aF/\Ext w w':=by
 have CP:=hid (fun(W:World) (h:Ext w W)=>Gu W pv r.aF (hp.mono h) h1 h3);obtain⟨pa,pc,rfl,_,_,_⟩:=hp.form;clear hp;generalize hpn:r.aF.length=pn at *;have Hpn:=hid hpn;clear hpn;go_enter func76,ntmps76;have H0:=hid (heap_alloc_new (w.alloc (.cells #[aA aB r.aG,aA aB r.aI,aA aB r.aH,aA aB r.aJ,aE pa pn pc] 28)) (.cells #[aA aB 0,aA aB 0,aA aB 0,aA aB 0,aE aD 0 0] 28));have HX1:=hid (((Ext.rf w).al (.cells #[aA aB r.aG,aA aB r.aI,aA aB r.aH,aA aB r.aJ,aE pa pn pc] 28)).al (.cells #[aA aB 0,aA aB 0,aA aB 0,aA aB 0,aE aD 0 0] 28));have HRQ:=hid (fun(W:World) (h:Ext ((w.alloc (.cells #[aA aB r.aG,aA aB r.aI,aA aB r.aH,aA aB r.aJ,aE pa pn pc] 28)).alloc (.cells #[aA aB 0,aA aB 0,aA aB 0,aA aB 0,aE aD 0 0] 28)) W)=>bY (((Ext.rf _).al _).tr h))
 go_wp2_with fail
 refine(CP.out _ HX1.out).mono ?_;rintro e w2 ⟨g,cap,rfl,hg,hpv,hx2⟩;obtain⟨c0,c1,c2,c3,c4⟩:=HRQ.out w2 hx2;simp only[aCl] at hg;have hs2:w.heap.size+1 < w2.heap.size:=by have:=hx2.size;simp at this;omega
 have hs1:w.heap.size < w2.heap.size:=by omega
 have HB0:w2.heap[w.heap.size]?=aC (.cells #[aA aB r.aG,aA aB r.aI,aA aB r.aH,aA aB r.aJ,aE pa pn pc] 28 (0,0)):=(hx2.block _ (by simp;omega)).trans ((((Ext.rf _).al _).block _ (by simp)).trans (heap_alloc_new w _));have HB1:w2.heap[w.heap.size+1]?=aC (.cells #[aA aB 0,aA aB 0,aA aB 0,aA aB 0,aE aD 0 0] 28 (0,0)):=by
  have h:=H0.out;rw[aCl] at h;exact(hx2.block (w.heap.size+1) (by simp)).trans h
 have f4:=frozen_of_row w2 w.heap.size 4 _ _ HB0;have HB3:=hid (show (w2.setCell ⟨w.heap.size,4,aD⟩ (aE (aC ⟨g,0,aD⟩) pn cap)).heap[w.heap.size+1]?=aC (.cells #[aA aB 0,aA aB 0,aA aB 0,aA aB 0,aE aD 0 0] 28 (0,0)) from (heap_setCell_other w2 ⟨w.heap.size,4,aD⟩ _ _ (by show w.heap.size+1≠w.heap.size;omega)).trans HB1);have HP3:=hid (jC (jC hpv (aY w2 w.heap.size 4 (aE (aC ⟨g,0,aD⟩) pn cap)) (by omega)) (bS (w2.setCell ⟨w.heap.size,4,aD⟩ (aE (aC ⟨g,0,aD⟩) pn cap)) (w.heap.size+1) #[aA aB r.aG,aA aB r.aI,aA aB r.aH,aA aB r.aJ,aE (aC ⟨g,0,aD⟩) pn cap]) (by omega));have HX3:=hid (show Ext w ((w2.setCell ⟨w.heap.size,4,aD⟩ (aE (aC ⟨g,0,aD⟩) pn cap)).setRow (w.heap.size+1) #[aA aB r.aG,aA aB r.aI,aA aB r.aH,aA aB r.aJ,aE (aC ⟨g,0,aD⟩) pn cap]) from ((HX1.out.tr hx2).se (aBq _) _).sr (by omega) _);have HR3:=hid (setRow_heap _ (w.heap.size+1) _ #[aA aB r.aG,aA aB r.aI,aA aB r.aH,aA aB r.aJ,aE (aC ⟨g,0,aD⟩) pn cap] _ _ HB3.out);have HG:=hid hg;clear hx2 hpv HB0 HB1 hg CP HRQ
 go_wp2_with (refine wpList_store_row rfl 28 _ _ rfl (w.heap.size+1) #[aA aB r.aG,aA aB r.aI,aA aB r.aH,aA aB r.aJ,aE (aC ⟨g,0,aD⟩) pn cap] rfl rfl 28 _ HB3.out size28 rfl (by simp[aBz]) ?_)
 exact bodyPost_ret (results_cell_row rfl _ _ (w.heap.size+1) 28 #[aA aB r.aG,aA aB r.aI,aA aB r.aH,aA aB r.aJ,aE (aC ⟨g,0,aD⟩) pn cap] (0,0) _ rfl HR3.out underlying28 rfl size28) rfl ⟨g,cap,rfl,by have:=HG.out;omega,HP3.out,HX3.out⟩
theorem gL.more {bs:List Nat} {W:World} {g r:Nat} {l:List Queue} (h:gL bs W g l) (hne:∀ x∈l,x.Cap≠[]) (hr:W.heap.size<=r):gL (r::bs) W g l:=by
 obtain⟨vs,h1,h2⟩:=h;refine⟨vs,h1,fun j x hj=>?_⟩;obtain⟨a,b,c,d,cv,e,f,i⟩:=h2 j x hj;obtain⟨b2,off,cap,rfl,hb,_⟩:=cX f (hne x (aBJ hj));refine⟨a,b,c,d,_,e,f,gK (fun hm=>?_)⟩;have hi:=i ⟨b2,off,aD⟩ _ _ rfl;rcases aC8.1 hm with h | h
 ·exact hi (by show b2∈g::bs;rw[h];exact aCw ..)
 ·rcases aC8.1 h with h | h
  ·omega
  ·exact hi (aBl _ h)
theorem kZ {l:List Queue} (ok:fB l):∀ x∈l,x.Cap≠[]:=fun x hx h0=>by
 obtain⟨k,hk⟩:=aCU.1 hx;have:=(ok.caps k (aBD.1 hk).1).1.1;rw[(fC hk).2.2,h0] at this;exact this
theorem nF {l:List Queue} {b:List aT} (h:∀ x∈b,cB l x):yQ b:=fun x hx=>by
 obtain⟨r1,r2⟩:=(h x hx).req.many;obtain⟨m1,m2⟩:=(h x hx).many;exact⟨⟨fun h0=>by rw[h0] at r1;exact absurd r1 (by decide),fun h0=>by rw[h0] at m1;exact absurd m1 (by decide)⟩,⟨r1,r2⟩,⟨m1,m2⟩⟩
structure By (w:World) (base g cap:Nat) (va:Option Addr) (vc:Nat) (s:aV) (k:Nat) (W:World):Prop where
 box:W.heap[w.heap.size]?=aC (.cells #[aA aB s.aL,aA aB s.aM,aE (aC ⟨g,0,aD⟩) s.aN.length cap,aE va s.aK.length vc] 25 (0,0))
 res:W.heap[w.heap.size+1]?=aC (.cells #[aA aB 0,aA aB 0,aE aD 0 0,aE aD 0 0] 25 (0,0))
 own:eP [w.heap.size,w.heap.size+1] base W (aE va s.aK.length vc) s.aK
 row:gL [w.heap.size,w.heap.size+1] W g s.aN
 apart:∀ r,(aE va s.aK.length vc).ownBlock=aC r->g≠r/\gL [r,w.heap.size,w.heap.size+1] W g s.aN
 size:base<=W.heap.size
 low:w.heap.size+2<=base
 ext:Ext w W
 gb:g < base
 nq:fJ 3 2 s.aN.length w.heap.size W g
 nb:∀ r,(aE va s.aK.length vc).ownBlock=aC r->fJ 7 5 k base W r/\fJ 7 6 k base W r
theorem By.later {w W W':World} {base g cap vc k:Nat} {va:Option Addr} {s:aV} (h:By w base g cap va vc s k W) (hx:Ext W W'):By w base g cap va vc s k W':=by
 have h0:w.heap.size+1 < W.heap.size:=by have:=h.low;have:=h.size;omega
 exact⟨(hx.block _ (by omega)).trans h.box,(hx.block _ h0).trans h.res,h.own.ext hx,h.row.ext hx,fun r hr=>⟨(h.apart r hr).1,(h.apart r hr).2.ext hx⟩,aC4 h.size hx.size,h.low,h.ext.tr hx,h.gb,h.nq.ext hx,fun r hr=>⟨(h.nb r hr).1.ext hx,(h.nb r hr).2.ext hx⟩⟩
theorem By.kept {w W W':World} {base g cap vc r k l:Nat} {ad:Addr} {s:aV} (h:By w base g cap (aC ad) vc s k W) (hr:ad.block=r) (hb:base<=r) (hg:W.grownBy W' (aC r)) (hx:Ext w W') (ho:eP [w.heap.size,w.heap.size+1] base W' (aE (aC ad) s.aK.length vc) s.aK) (hn:fJ 7 5 l base W' r/\fJ 7 6 l base W' r):By w base g cap (aC ad) vc s l W':=by
 have h0:w.heap.size+1 < W.heap.size:=by have:=h.low;have:=h.size;omega
 have h1:=h.low;obtain⟨a1,a2⟩:=h.apart r (by show aC ad.block=aC r;rw[hr]);have hq:=a2.kept hg (aCw ..) a1;refine⟨(hg.block _ (by omega) (fun e=>by cases e;omega)).trans h.box,(hg.block _ h0 (fun e=>by cases e;omega)).trans h.res,ho,hq.less (fun x hx=>aBl _ hx),fun r' hr'=>?_,aC4 h.size hg.size,h.low,hx,h.gb,h.nq.kept hg a1,fun r' hr'=>?_⟩
 ·obtain rfl:r=r':=by have h2:aC ad.block=aC r':=hr';rw[hr] at h2;exact Option.some.inj h2
  exact⟨a1,hq⟩
 ·obtain rfl:r=r':=by have h2:aC ad.block=aC r':=hr';rw[hr] at h2;exact Option.some.inj h2
  exact hn
theorem aAx (w:World) (tv bv:Value) (s:aV) (hl:aX w tv s.aN) (hb:bD w bv s.aK) (ok:fB s.aN) (h12:s.aK.length<=12) (hok:∀ x∈s.aK,cB s.aN x) :
  Calls prog 75 #[.agg #[aA aB s.aL,aA aB s.aM,tv,bv]] w fun e w'=>∃ base g cap va vc,e=.returned (.agg #[aA aB s.aL,aA aB s.aM,aE (aC ⟨g,0,aD⟩) s.aN.length cap,aE va s.aK.length vc])/\s.aN.length<=cap/\cap<=9223372036854775807/\w.heap.size<=g/\w.heap.size<=base/\base<=w'.heap.size/\
   gL [] w' g s.aN/\(∀ r,(aE va s.aK.length vc).ownBlock=aC r->g≠r/\gL [r] w' g s.aN/\fJ 7 5 s.aK.length base w' r/\fJ 7 6 s.aK.length base w' r)/\eP [] base w' (aE va s.aK.length vc) s.aK/\g < base/\fJ 3 2 s.aN.length w.heap.size w' g/\Ext w w':=by
 have OT:=hid (fun(W:World) (h:Ext w W) (hs:w.heap.size+1 < W.heap.size)=>sC [w.heap.size,w.heap.size+1] w W tv s.aN hl h ok (fun r hr=>by
  simp only[aC8,aCj,or_false] at hr;omega))
 have hlive:=nF hok;have CB:=hid (fun(W:World) (h:Ext w W)=>Im [w.heap.size,w.heap.size+1] w W bv s.aK hb h h12 hlive (fun r hr=>by
  simp only[aC8,aCj,or_false] at hr;omega))
 have HLV:=hid (fun(k:Nat) (x:aT) (h:s.aK[k]?=aC x)=>hlive x (aBJ h));have HCP:=hid (kZ ok);have hn5:=ok.n5;obtain⟨qa,qc,rfl,_,_,_⟩:=hl.form;obtain⟨ba,bc,rfl,_,_,_⟩:=hb.form;clear hl hb ok hok hlive;go_enter func75,ntmps75;have HX1:=hid (((Ext.rf w).al (.cells #[aA aB s.aL,aA aB s.aM,aE qa s.aN.length qc,aE ba s.aK.length bc] 25)).al (.cells #[aA aB 0,aA aB 0,aE aD 0 0,aE aD 0 0] 25));have H0:=hid (heap_alloc_new w (.cells #[aA aB s.aL,aA aB s.aM,aE qa s.aN.length qc,aE ba s.aK.length bc] 25));have H1:=hid (heap_alloc_new (w.alloc (.cells #[aA aB s.aL,aA aB s.aM,aE qa s.aN.length qc,aE ba s.aK.length bc] 25)) (.cells #[aA aB 0,aA aB 0,aE aD 0 0,aE aD 0 0] 25))
 go_wp2_with fail
 refine(OT.out _ HX1.out (by simp)).mono ?_;rintro e w2 ⟨g,cap,rfl,hc1,hc2,hg,hq2,hnq2,hx2⟩;rw[aCl,aCl] at hnq2;simp only[aCl] at hg;have hs2:w.heap.size+1 < w2.heap.size:=by have:=hx2.size;simp at this;omega
 have hb2:w2.heap[w.heap.size]?=aC (.cells #[aA aB s.aL,aA aB s.aM,aE qa s.aN.length qc,aE ba s.aK.length bc] 25 (0,0)):=(hx2.block _ (by simp;omega)).trans ((((Ext.rf _).al _).block _ (by simp)).trans H0.out);have hr2:w2.heap[w.heap.size+1]?=aC (.cells #[aA aB 0,aA aB 0,aE aD 0 0,aE aD 0 0] 25 (0,0)):=by
  have h:=H1.out;rw[aCl] at h;exact(hx2.block (w.heap.size+1) (by simp)).trans h
 have HX2:=hid (HX1.out.tr hx2);have hb3:=heap_setCell_same w2 w.heap.size 2 _ _ (aE (aC ⟨g,0,aD⟩) s.aN.length cap) hb2;have hr3:=(heap_setCell_other w2 ⟨w.heap.size,2,aD⟩ (w.heap.size+1) (aE (aC ⟨g,0,aD⟩) s.aN.length cap) (by show w.heap.size+1≠w.heap.size;omega)).trans hr2;have HQ3:=hid (hq2.kept (aY w2 w.heap.size 2 (aE (aC ⟨g,0,aD⟩) s.aN.length cap)) (aCw ..) (by omega));have HX3:=hid (HX2.out.se (aBq _) (o:=2) (aE (aC ⟨g,0,aD⟩) s.aN.length cap));have HNQ3:=hid ((hnq2.less (aBq _) (b2:=w.heap.size) (by omega)).kept (aY w2 w.heap.size 2 (aE (aC ⟨g,0,aD⟩) s.aN.length cap)) (by omega));have c2:=cell_of_row w2 w.heap.size 2 _ _ _ hb2;have f2:=frozen_of_row w2 w.heap.size 2 _ _ hb2;have hsz3:(w2.setCell ⟨w.heap.size,2,aD⟩ (aE (aC ⟨g,0,aD⟩) s.aN.length cap)).heap.size=w2.heap.size:=by simp[aCX]
 have HB3:=hid hb3;have HR3:=hid hr3;have HG:=hid hg;clear hx2 hq2 hb2 hr2 hb3 hr3 hg HX1 H0 H1 hnq2;have c3:(w2.setCell ⟨w.heap.size,2,aD⟩ (aE (aC ⟨g,0,aD⟩) s.aN.length cap)).cell? ⟨w.heap.size,3,aD⟩=aC (aE ba s.aK.length bc):=cell_of_row _ w.heap.size 3 _ _ _ HB3.out
 go_wp2_with fail
 refine(CB.out _ HX3.out).mono ?_;rintro e w4 ⟨v,rfl,hv,hx4⟩;obtain⟨va,vc,hvv,hvs⟩:∃ va vc,v=aE va s.aK.length vc/\(1<=s.aK.length->∃ gb,va=aC ⟨gb,0,aD⟩):=by
  obtain⟨css,h1,_⟩:=hv;rcases h1.2 with ⟨h,h0⟩ | ⟨gb,cb,_,h,_⟩
  ·exact⟨aD,0,by rw[h,h0],fun h1=>by omega⟩
  ·exact⟨_,cb,h,fun _=>⟨gb,rfl⟩⟩
 subst hvv;have hs4:w2.heap.size<=w4.heap.size:=by rw[<- hsz3];exact hx4.size
 have hb4:=(hx4.block w.heap.size (by rw[hsz3];omega)).trans HB3.out;have hr4:=(hx4.block (w.heap.size+1) (by rw[hsz3];omega)).trans HR3.out;have f4:=frozen_of_row w4 w.heap.size 3 _ _ hb4;have c4:w4.cell? ⟨w.heap.size,3,aD⟩=aC (aE ba s.aK.length bc):=cell_of_row _ w.heap.size 3 _ _ _ hb4;have hgl:g < w2.heap.size:=by
  obtain⟨vs,h1,_⟩:=HQ3.out;have:=h1.lt;omega
 have HAT:Hid (By w w2.heap.size g cap va vc s 0 (w4.setCell ⟨w.heap.size,3,aD⟩ (aE va s.aK.length vc))):=hid (by
  have hgr:=aY w4 w.heap.size 3 (aE va s.aK.length vc);have hge:=HG.out;refine⟨heap_setCell_same w4 w.heap.size 3 _ _ _ hb4,(heap_setCell_other w4 ⟨w.heap.size,3,aD⟩ (w.heap.size+1) _ (by show w.heap.size+1≠w.heap.size;omega)).trans hr4,?_,((HQ3.out.ext hx4).kept hgr (aCw ..) (by omega)),fun r hr=>?_,by simpa[aCX] using hs4,by omega,(HX3.out.tr hx4).se (aBq _) _,hgl,(HNQ3.out.ext hx4).kept hgr (by omega),fun r hr=>?_⟩
  ·have h:=hv;rw[hsz3] at h;exact h.kept hgr (aCw ..) (by omega)
  ·obtain⟨css,h1,_⟩:=hv;have hrb:=eU h1 r hr;rw[hsz3] at hrb;exact⟨by omega,((HQ3.out.more HCP.out (by rw[hsz3];exact hrb)).ext hx4).kept hgr (aBl _ (aCw ..)) (by omega)⟩
  ·obtain⟨css,h1,_⟩:=hv;have hrl:r < (w4.setCell ⟨w.heap.size,3,aD⟩ (aE va s.aK.length vc)).heap.size:=by
    have:=(h1.lt r hr).2;simpa[aCX] using this
   exact⟨fJ.zero hrl,fJ.zero hrl⟩)
 have HVS:=hid hvs;clear hv hvs hx4 hb4 hr4 HB3 HR3 HQ3 HX3 HX2 c2 f2 c3 OT CB HCP
 go_wp2_with fail
 have h5:(w4.setCell ⟨w.heap.size,3,aD⟩ (aE va s.aK.length vc)).heap.size=w4.heap.size:=by simp[aCX]
 generalize w4.setCell ⟨w.heap.size,3,aD⟩ (aE va s.aK.length vc)=w5 at *
 go_loopw [15] (fun c wr=>∃ k:Nat,c=aA aB k/\k<=s.aK.length/\Hid (By w w2.heap.size g cap va vc s k wr)) (fun c _=>s.aK.length - (intOf c).toNat)
 case atStart=>exact⟨0,rfl,by omega,HAT⟩
 case round=>
  obtain⟨k,rfl,hk,HA⟩:=hrel;have hbx:=cell_of_row wr w.heap.size 3 _ _ _ HA.out.box;have c3:wr.cell? ⟨w.heap.size,3,aD⟩=aC (aE va s.aK.length vc):=hbx;clear hbx;by_cases hlt:k < s.aK.length
  ·have hlt':(k:Int) < (s.aK.length:Int):=by omega
   obtain⟨x,hxk⟩:=bT (f:=s.aK) (k:=k) hlt;obtain⟨gb,hva⟩:=HVS.out (by omega);subst hva;obtain⟨hlv1,hlv2,hlv3⟩:=HLV.out k x hxk;obtain⟨pv,bw,hp,hbi,d0,d1,d2,d3,d4,d5,d6,hgl2,hgb,hfz⟩:=HA.out.own.cells rfl hxk;have HOR:=hid (fun(W:World) (h:Ext wr W)=>Gj W pv x.aP (hp.mono h) hlv2.1 hlv2.2);obtain⟨pa,pc,rfl,_,_,_⟩:=hp.form;obtain⟨ia,ic,rfl,_,_,_⟩:=hbi.form;have HXK:=hid hxk;clear hp hbi hxk hlv1
   go_wp2_with fail
   refine wp_region_held_drew (S:=fun W=>W.cell? ⟨w.heap.size,3,aD⟩=aC (aE (aC ⟨gb,0,aD⟩) s.aK.length vc)) (by kernel_rfl) (by simpa using c3) (fun hHeld=>?_);refine wpAnyH_take (i:=0) (v:=?_) rfl (by kernel_rfl) (by kernel_rfl) (by kernel_rfl) (fun _ _ _ h=>h) (Or.inl ⟨by rfl,?_⟩) (by assumption) ?_;rotate_left
   ·intro W hSW;simp only[zA,zB];go_simp
    (try with_reducible rfl)
   simp only[zA,zB,Act.put,zD,zE,zF];refine wpAnyH_take (i:=1) (v:=?_) rfl (by kernel_rfl) (by kernel_rfl) (by kernel_rfl) (fun _ _ _ h=>h) (Or.inl ⟨by rfl,?_⟩) (by assumption) ?_;rotate_left
   ·intro W hSW;simp only[zA,zB,zC];go_simp
    (try with_reducible rfl)
   simp only[zA,zB,zC,Act.put,zD,zE,zF];refine wpAnyH_take (i:=2) (v:=?_) rfl (by kernel_rfl) (by kernel_rfl) (by kernel_rfl) (fun _ _ _ h=>h) (Or.inl ⟨by rfl,?_⟩) (by assumption) ?_;rotate_left
   ·intro W hSW;simp only[zA,zB,zC];go_simp
    (try with_reducible rfl)
   simp only[zA,zB,zC,Act.put,zD,zE,zF];refine wpAnyH_take (i:=3) (v:=?_) rfl (by kernel_rfl) (by kernel_rfl) (by kernel_rfl) (fun _ _ _ h=>h) (Or.inl ⟨by rfl,?_⟩) (by assumption) ?_;rotate_left
   ·intro W hSW;simp only[zA,zB,zC];go_simp
    (try with_reducible rfl)
   simp only[zA,zB,zC,Act.put,zD,zE,zF];refine wpAnyH_take (i:=4) (v:=?_) rfl (by kernel_rfl) (by kernel_rfl) (by kernel_rfl) (fun _ _ _ h=>h) (Or.inl ⟨by rfl,?_⟩) (by assumption) ?_;rotate_left
   ·intro W hSW;simp only[zA,zB,zC];go_simp
    (try with_reducible rfl)
   simp only[zA,zB,zC,Act.put,zD,zE,zF];refine wpAnyH_take (i:=5) (v:=?_) rfl (by kernel_rfl) (by kernel_rfl) (by kernel_rfl) (fun _ _ _ h=>h) (Or.inl ⟨by rfl,?_⟩) (by assumption) ?_;rotate_left
   ·intro W hSW;simp only[zA,zB,zC];go_simp
    (try with_reducible rfl)
   simp only[zA,zB,zC,Act.put,zD,zE,zF];refine wpAnyH_take (i:=6) (v:=?_) rfl (by kernel_rfl) (by kernel_rfl) (by kernel_rfl) (fun _ _ _ h=>h) (Or.inl ⟨by rfl,?_⟩) (by assumption) ?_;rotate_left
   ·intro W hSW;simp only[zA,zB,zC];go_simp
    (try with_reducible rfl)
   simp only[zA,zB,zC,Act.put,zD,zE,zF];refine wpAnyH_take (i:=7) (v:=?_) rfl (by kernel_rfl) (by kernel_rfl) (by kernel_rfl) (fun _ _ _ h=>h) (Or.inl ⟨by rfl,?_⟩) (by assumption) ?_;rotate_left
   ·intro W hSW;simp only[zA,zB,zC];go_simp
    (try with_reducible rfl)
   simp only[zA,zB,zC,Act.put,zD,zE,zF];refine wpAnyH_ready (rs:=[8]) (by kernel_rfl) (by simp) ?_;refine AllReadyH.cons rfl (fun K hK=>?_) AllReadyH.nil;simp only[zA,zB,zC];go_simp;refine hK.out _ _ ?_ (fun hHeld=>?_)
   ·simpa using c3
   clear hK K;refine wpAnyH_ready (rs:=[9]) (by kernel_rfl) (by simp) ?_;refine AllReadyH.cons rfl (fun K hK=>?_) AllReadyH.nil;simp only[zA,zB,zC];go_simp;refine(HOR.out _ (Ext.rf wr).dr).mono ?_;rintro e W2 ⟨g2,cp2,rfl,hg2,hp2,hx2⟩;have HA2:=hid (HA.out.later ((Ext.rf wr).dr.tr hx2));have hg2':wr.heap.size<=g2:=hg2;clear d0 d1 d2 d3 d4 d5 d6 c3 hfz HOR hg2 hx2;obtain⟨pv2,bw2,_,_,d0,d1,d2,d3,d4,d5,d6,hgl3,_,hfz3⟩:=HA2.out.own.cells rfl HXK.out;have hth:W2.there gb (k*7+1) 5:=fun j hj=>by
    refine⟨?_,hfz3 _⟩;rcases(by omega:j=0\/j=1\/j=2\/j=3\/j=4) with rfl | rfl | rfl | rfl | rfl
    ·show (W2.cell? ⟨gb,k*7+1,aD⟩).isSome=true;rw[d1];rfl
    ·show (W2.cell? ⟨gb,k*7+2,aD⟩).isSome=true;rw[d2];rfl
    ·show (W2.cell? ⟨gb,k*7+3,aD⟩).isSome=true;rw[d3];rfl
    ·show (W2.cell? ⟨gb,k*7+4,aD⟩).isSome=true;rw[d4];rfl
    ·show (W2.cell? ⟨gb,k*7+5,aD⟩).isSome=true;rw[d5];rfl
   have HTH:=hid hth;have hW:W2.setCells gb (k*7+1) [aA aB x.aP.aG,aA aB x.aP.aI,aA aB x.aP.aH,aA aB x.aP.aJ,aE (aC ⟨g2,0,aD⟩) x.aP.aF.length cp2]=W2.setCell ⟨gb,k*7+5,aD⟩ (aE (aC ⟨g2,0,aD⟩) x.aP.aF.length cp2):=by
    show ((((W2.setCell ⟨gb,k*7+1,aD⟩ _).setCell ⟨gb,k*7+2,aD⟩ _).setCell ⟨gb,k*7+3,aD⟩ _).setCell ⟨gb,k*7+4,aD⟩ _).setCell ⟨gb,k*7+5,aD⟩ _=_;rw[nW d1,nW d2,nW d3,nW d4]
   have HW:=hid hW;have hlo:=HA2.out.low;have hap:bU (gb::[w.heap.size,w.heap.size+1]) (aE (aC ⟨g2,0,aD⟩) x.aP.aF.length cp2):=gK (fun hm=>by
    simp only[aC8,aCj,or_false] at hm;omega)
   have hnb:=HA2.out.nb gb rfl;have hlow2:=HA2.out.size;have hbs2:=HA.out.size;have HA3:=hid (HA2.out.kept (l:=k) rfl hgb (aY W2 gb (k*7+5) (aE (aC ⟨g2,0,aD⟩) x.aP.aF.length cp2)) (HA2.out.ext.se (by omega) _) (HA2.out.own.setP rfl HXK.out hp2 hap) ⟨(hnb.1.other (fun i hi e=>by omega) _),(hnb.2.other (fun i hi e=>by omega) _)⟩);have HN5:=hid (hnb.1.set (by omega) d5 (u:=aE (aC ⟨g2,0,aD⟩) x.aP.aF.length cp2) (fun a n' c' e2=>by cases e2;show w2.heap.size<=g2;omega));clear hth hW hap d0 d1 d2 d3 d4 d5 d6 hfz3 hp2 hnb hlow2 hbs2
   go_wp2_with fail
   refine hK.out _ _ ?_ (fun hHeld=>?_)
   ·exact cell_of_row W2 w.heap.size 3 _ _ _ HA2.out.box
   clear hK K;refine wpAnyH_take (i:=10) (v:=?_) rfl (by kernel_rfl) (by kernel_rfl) (by kernel_rfl) (fun _ _ _ h=>h) (Or.inl ⟨by rfl,?_⟩) (by assumption) ?_;rotate_left
   ·intro W hSW;simp only[zA,zB,zC];go_simp
    (try with_reducible rfl)
   simp only[zA,zB,zC,Act.put,zD,zE,zF];refine wpAnyH_take (i:=11) (v:=?_) rfl (by kernel_rfl) (by kernel_rfl) (by kernel_rfl) (fun _ _ _ h=>h) (Or.inl ⟨by rfl,?_⟩) (by assumption) ?_;rotate_left
   ·intro W hSW;simp only[zA,zB,zC];go_simp
    (try with_reducible rfl)
   simp only[zA,zB,zC,Act.put,zD,zE,zF];refine wpAnyH_ready (rs:=[12]) (by kernel_rfl) (by simp) ?_;refine AllReadyH.cons rfl (fun K hK=>?_) AllReadyH.nil;simp only[zA,zB,zC];rw[if_pos (by rfl)];refine wp_store_mid 28 _ _ rfl gb (k*7+1) #[aA aB x.aP.aG,aA aB x.aP.aI,aA aB x.aP.aH,aA aB x.aP.aJ,aE (aC ⟨g2,0,aD⟩) x.aP.aF.length cp2] rfl rfl HTH.out size28 (by simp[aBz]) ?_;rw[show W2.setCells gb (k*7+1) (#[aA aB x.aP.aG,aA aB x.aP.aI,aA aB x.aP.aH,aA aB x.aP.aJ,aE (aC ⟨g2,0,aD⟩) x.aP.aF.length cp2]:Array Value).toList=W2.setCell ⟨gb,k*7+5,aD⟩ (aE (aC ⟨g2,0,aD⟩) x.aP.aF.length cp2) from HW.out];refine hK.out _ _ ?_ (fun hHeld=>?_)
   ·exact cell_of_row _ w.heap.size 3 _ _ _ HA3.out.box
   clear hK K;refine wpAnyH_done (by kernel_rfl) ?_ _;generalize W2.setCell ⟨gb,k*7+5,aD⟩ (aE (aC ⟨g2,0,aD⟩) x.aP.aF.length cp2)=W3 at *;clear HW HTH HA2;have c3:W3.cell? ⟨w.heap.size,3,aD⟩=aC (aE (aC ⟨gb,0,aD⟩) s.aK.length vc):=cell_of_row W3 w.heap.size 3 _ _ _ HA3.out.box;obtain⟨pv3,bw3,_,hbi3,_,_,_,_,_,_,d6,_,_,_⟩:=HA3.out.own.cells rfl HXK.out;have HCB:=hid (fun(W:World) (h:Ext W3 W)=>In W bw3 x.aO (hbi3.mono h) hlv3.1 hlv3.2);obtain⟨ia3,ic3,rfl,_,_,_⟩:=hbi3.form;clear hbi3
   go_wp2_with fail
   refine wp_region_held_drew (S:=fun W=>W.cell? ⟨w.heap.size,3,aD⟩=aC (aE (aC ⟨gb,0,aD⟩) s.aK.length vc)) (by kernel_rfl) (by simpa using c3) (fun hHeld=>?_);refine wpAnyH_take (i:=0) (v:=?_) rfl (by kernel_rfl) (by kernel_rfl) (by kernel_rfl) (fun _ _ _ h=>h) (Or.inl ⟨by rfl,?_⟩) (by assumption) ?_;rotate_left
   ·intro W hSW;simp only[zA,zB];go_simp
    (try with_reducible rfl)
   simp only[zA,zB,Act.put,zD,zE,zF];refine wpAnyH_take (i:=1) (v:=?_) rfl (by kernel_rfl) (by kernel_rfl) (by kernel_rfl) (fun _ _ _ h=>h) (Or.inl ⟨by rfl,?_⟩) (by assumption) ?_;rotate_left
   ·intro W hSW;simp only[zA,zB,zC];go_simp
    (try with_reducible rfl)
   simp only[zA,zB,zC,Act.put,zD,zE,zF];refine wpAnyH_take (i:=2) (v:=?_) rfl (by kernel_rfl) (by kernel_rfl) (by kernel_rfl) (fun _ _ _ h=>h) (Or.inl ⟨by rfl,?_⟩) (by assumption) ?_;rotate_left
   ·intro W hSW;simp only[zA,zB,zC];go_simp
    (try with_reducible rfl)
   simp only[zA,zB,zC,Act.put,zD,zE,zF];refine wpAnyH_take (i:=3) (v:=?_) rfl (by kernel_rfl) (by kernel_rfl) (by kernel_rfl) (fun _ _ _ h=>h) (Or.inl ⟨by rfl,?_⟩) (by assumption) ?_;rotate_left
   ·intro W hSW;simp only[zA,zB,zC];go_simp
    (try with_reducible rfl)
   simp only[zA,zB,zC,Act.put,zD,zE,zF];refine wpAnyH_take (i:=4) (v:=?_) rfl (by kernel_rfl) (by kernel_rfl) (by kernel_rfl) (fun _ _ _ h=>h) (Or.inl ⟨by rfl,?_⟩) (by assumption) ?_;rotate_left
   ·intro W hSW;simp only[zA,zB,zC];go_simp
    (try with_reducible rfl)
   simp only[zA,zB,zC,Act.put,zD,zE,zF];refine wpAnyH_take (i:=5) (v:=?_) rfl (by kernel_rfl) (by kernel_rfl) (by kernel_rfl) (fun _ _ _ h=>h) (Or.inl ⟨by rfl,?_⟩) (by assumption) ?_;rotate_left
   ·intro W hSW;simp only[zA,zB,zC];go_simp
    (try with_reducible rfl)
   simp only[zA,zB,zC,Act.put,zD,zE,zF];refine wpAnyH_take (i:=6) (v:=?_) rfl (by kernel_rfl) (by kernel_rfl) (by kernel_rfl) (fun _ _ _ h=>h) (Or.inl ⟨by rfl,?_⟩) (by assumption) ?_;rotate_left
   ·intro W hSW;simp only[zA,zB,zC];go_simp
    (try with_reducible rfl)
   simp only[zA,zB,zC,Act.put,zD,zE,zF];refine wpAnyH_take (i:=7) (v:=?_) rfl (by kernel_rfl) (by kernel_rfl) (by kernel_rfl) (fun _ _ _ h=>h) (Or.inl ⟨by rfl,?_⟩) (by assumption) ?_;rotate_left
   ·intro W hSW;simp only[zA,zB,zC];go_simp
    (try with_reducible rfl)
   simp only[zA,zB,zC,Act.put,zD,zE,zF];refine wpAnyH_ready (rs:=[8]) (by kernel_rfl) (by simp) ?_;refine AllReadyH.cons rfl (fun K hK=>?_) AllReadyH.nil;simp only[zA,zB,zC];go_simp;refine hK.out _ _ ?_ (fun hHeld=>?_)
   ·simpa using c3
   clear hK K;refine wpAnyH_ready (rs:=[9]) (by kernel_rfl) (by simp) ?_;refine AllReadyH.cons rfl (fun K hK=>?_) AllReadyH.nil;simp only[zA,zB,zC];go_simp;refine(HCB.out _ (Ext.rf W3).dr).mono ?_;rintro e W4 ⟨g4,cp4,rfl,hg4,hb4,hx4⟩;have HA4:=hid (HA3.out.later ((Ext.rf W3).dr.tr hx4));have HN5':=hid (HN5.out.ext ((Ext.rf W3).dr.tr hx4));have hg4':W3.heap.size<=g4:=hg4;have hgb3:gb < W3.heap.size:=by
    obtain⟨_,_,_,_,_,_,_,_,_,_,_,h,_⟩:=HA3.out.own.cells rfl HXK.out;exact h
   have hsz3:=HA3.out.size;clear d6 c3 HCB hg4 hx4;obtain⟨pv4,bw4,_,_,_,_,_,_,_,_,d6,hgl4,_,hfz4⟩:=HA4.out.own.cells rfl HXK.out;have f6:=hfz4 (k*7+6);have hap:bU (gb::[w.heap.size,w.heap.size+1]) (aE (aC ⟨g4,0,aD⟩) x.aO.length cp4):=gK (fun hm=>by
    simp only[aC8,aCj,or_false] at hm;omega)
   have HA5:=hid (HA4.out.kept (l:=k+1) rfl hgb (aY W4 gb (k*7+6) (aE (aC ⟨g4,0,aD⟩) x.aO.length cp4)) (HA4.out.ext.se (by omega) _) (HA4.out.own.setB rfl HXK.out hb4 hap) ⟨HN5'.out.other (fun i hi e=>by omega) _,(HA4.out.nb gb rfl).2.set (by omega) d6 (fun a n' c' e2=>by cases e2;show w2.heap.size<=g4;omega)⟩)
   go_wp2_with fail
   refine hK.out _ _ ?_ (fun hHeld=>?_)
   ·exact cell_of_row W4 w.heap.size 3 _ _ _ HA4.out.box
   clear hK K;refine wpAnyH_take (i:=10) (v:=?_) rfl (by kernel_rfl) (by kernel_rfl) (by kernel_rfl) (fun _ _ _ h=>h) (Or.inl ⟨by rfl,?_⟩) (by assumption) ?_;rotate_left
   ·intro W hSW;simp only[zA,zB,zC];go_simp
    (try with_reducible rfl)
   simp only[zA,zB,zC,Act.put,zD,zE,zF];refine wpAnyH_take (i:=11) (v:=?_) rfl (by kernel_rfl) (by kernel_rfl) (by kernel_rfl) (fun _ _ _ h=>h) (Or.inl ⟨by rfl,?_⟩) (by assumption) ?_;rotate_left
   ·intro W hSW;simp only[zA,zB,zC];go_simp
    (try with_reducible rfl)
   simp only[zA,zB,zC,Act.put,zD,zE,zF];refine wpAnyH_ready (rs:=[12]) (by kernel_rfl) (by simp) ?_;refine AllReadyH.cons rfl (fun K hK=>?_) AllReadyH.nil;simp only[zA,zB,zC];go_simp;refine hK.out _ _ ?_ (fun hHeld=>?_)
   ·exact cell_of_row _ w.heap.size 3 _ _ _ HA5.out.box
   clear hK K;refine wpAnyH_done (by kernel_rfl) ?_ _;clear hap hfz4 hb4 HA4
   go_wp2_with fail
   go_roundw
   case rel=>exact⟨k+1,by go_num,by omega,HA5⟩
   case measure=>simp[intOf];omega
  ·obtain rfl:k=s.aK.length:=by omega
   have hlt':¬ (s.aK.length:Int) < (s.aK.length:Int):=by omega
   have k0:=cell_of_row wr w.heap.size 0 _ _ _ HA.out.box;have k1:=cell_of_row wr w.heap.size 1 _ _ _ HA.out.box;have k2:=cell_of_row wr w.heap.size 2 _ _ _ HA.out.box;have q0:wr.cell? ⟨w.heap.size,0,aD⟩=aC (aA aB s.aL):=k0;have q1:wr.cell? ⟨w.heap.size,1,aD⟩=aC (aA aB s.aM):=k1;have q2:wr.cell? ⟨w.heap.size,2,aD⟩=aC (aE (aC ⟨g,0,aD⟩) s.aN.length cap):=k2;clear k0 k1 k2;have HRS:=hid HA.out.res;have HR9:=hid (setRow_heap wr (w.heap.size+1) _ #[aA aB s.aL,aA aB s.aM,aE (aC ⟨g,0,aD⟩) s.aN.length cap,aE va s.aK.length vc] _ _ HA.out.res);have hgr:=bS wr (w.heap.size+1) #[aA aB s.aL,aA aB s.aM,aE (aC ⟨g,0,aD⟩) s.aN.length cap,aE va s.aK.length vc];have hge:=HG.out;have hlo:=HA.out.low;have hm:w.heap.size+1∈[w.heap.size,w.heap.size+1]:=aBl _ (aCw ..);have HO9:=hid (HA.out.own.kept hgr hm (by omega));have HQ9:=hid (HA.out.row.kept hgr hm (by omega));have HP9:=hid (fun r hr=>(⟨(HA.out.apart r hr).1,(HA.out.apart r hr).2.kept hgr (aBl _ hm) (by omega)⟩:g≠r/\gL [r,w.heap.size,w.heap.size+1] _ g s.aN));have HX9:=hid (HA.out.ext.sr (b:=w.heap.size+1) (by omega) #[aA aB s.aL,aA aB s.aM,aE (aC ⟨g,0,aD⟩) s.aN.length cap,aE va s.aK.length vc]);have HZ9:=hid (aC4 HA.out.size hgr.size);have HNQ9:=hid (HA.out.nq.kept hgr (by omega));have HGB9:=hid HA.out.gb;have HNB9:=hid (fun r hr=>(⟨(HA.out.nb r hr).1.kept hgr (by obtain⟨css,h1,_⟩:=HA.out.own;have:=eU h1 r hr;omega),(HA.out.nb r hr).2.kept hgr (by obtain⟨css,h1,_⟩:=HA.out.own;have:=eU h1 r hr;omega)⟩:fJ 7 5 s.aK.length w2.heap.size _ r/\fJ 7 6 s.aK.length w2.heap.size _ r));clear hgr hm
   go_wp2_with (refine wpList_store_row rfl 25 _ _ rfl (w.heap.size+1) #[aA aB s.aL,aA aB s.aM,aE (aC ⟨g,0,aD⟩) s.aN.length cap,aE va s.aK.length vc] rfl rfl 25 _ HRS.out size25 rfl (by simp[aBz]) ?_)
   exact bodyPost_ret (results_cell_row rfl _ _ (w.heap.size+1) 25 #[aA aB s.aL,aA aB s.aM,aE (aC ⟨g,0,aD⟩) s.aN.length cap,aE va s.aK.length vc] (0,0) _ rfl HR9.out underlying25 rfl size25) rfl
    ⟨w2.heap.size,g,cap,va,vc,rfl,hc1,hc2,by omega,by omega,HZ9.out,HQ9.out.less (fun x hx=>by cases hx),fun r hr=>⟨(HP9.out r hr).1,(HP9.out r hr).2.less (fun x hx=>by rw[aCB.1 hx];exact aCw ..),(HNB9.out r hr).1,(HNB9.out r hr).2⟩,HO9.out.less,HGB9.out,HNQ9.out,HX9.out⟩
end Go.Proofs.YtdcndkojmflhnaaGreat
