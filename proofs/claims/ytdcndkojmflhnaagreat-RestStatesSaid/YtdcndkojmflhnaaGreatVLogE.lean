import Derived.Test.YtdcndkojmflhnaaGreatVCutK
import Derived.Deep.MidRow
set_option linter.unusedVariables false
set_option linter.unusedSimpArgs false
set_option maxRecDepth 100000
set_option maxHeartbeats 8000000
namespace Go.Proofs.YtdcndkojmflhnaaGreat
open _root_.Go.Proofs.Tryz
open Go.RowKit
open List renaming getElem_toArray->zA,getElem_cons_zero->zB,getElem_cons_succ->zC
open _root_.Option renaming none->aD,some->aC,isSome_iff_exists->aDV
open Go.World renaming block_lt_of_cell?->aBx,frozen?_of_block->aDQ,cell?_setCell_same->aDP,frozen?_setCell->aDO,ownsRow_nil->aBV,cell?_of_block->aCk,cell?_setCell_other->aDN,size_alloc->aCl,there_setCells->aDU
open Go.Value renaming slice->aE,int->aA,oneCell'->aBz
open _root_.List renaming mem_cons->aC8,not_mem_nil->aCj,mem_cons_of_mem->aBl,mem_cons_self->aCw,length_cons->aBB,drop_eq_nil_of_le->aDI,drop_succ_cons->aCP,drop_drop->aDR,length_drop->aDc,take_succ_cons->aCQ,take_zero->aCR,drop_zero->aCO,getElem?_append_left->aCI,getElem?_append_right->aCJ,mem_append->aBm,mem_singleton->aCB,mem_of_getElem?->aBJ,getElem?_eq_some_iff->aBD,take_append_drop->aDT,length_append->aBk,mem_range->aC3,mem_append_right->aD2,map_cons->aCu,map_nil->aCS
open _root_.Nat renaming lt_of_lt_of_le->aBA,zero_le->aBO,zero_add->aBE,le_refl->aBq,div_add_mod'->aDW,le_of_not_lt->aDX
open Go.IntKind renaming i64->aB
open _root_.Array renaming getElem?_eq_some_iff->aBy,getElem?_setIfInBounds->aDS
theorem Vj (w:World) (X G B:Nat) (t:List UInt8) (hX:w.cell? ⟨X,0,aD⟩=aC (.pointer (aC ⟨G,0,aD⟩))) (hG:w.cell? ⟨G,0,aD⟩=aC (.string (str t))) (hGf:w.frozen? ⟨G,0,aD⟩=false)
  (hB0:∃ old,w.cell? ⟨B,0,aD⟩=aC old) (hB1:∃ old,w.cell? ⟨B,1,aD⟩=aC old) (hf0:w.frozen? ⟨B,0,aD⟩=false) (hf1:w.frozen? ⟨B,1,aD⟩=false) (hBG:B≠G) :
  Calls prog 107 #[.pointer (aC ⟨B,0,aD⟩),.pointer (aC ⟨X,0,aD⟩)] w fun e w'=>∃ w1,Ext w w1/\e=(if 2<=t.length then .returned (.tuple #[]) else .panicked pU)/\w'=iE G [⟨B,0,aD⟩,⟨B,1,aD⟩] t w1:=by
 go_enter func107,ntmps107;have HG:=hid hG;have HF:=hid (And.intro hGf (And.intro hf0 hf1));have HB:=hid (And.intro hB0 hB1);clear hG hGf hf0 hf1 hB0 hB1;refine dF 8 (fun W=>W.cell? ⟨X,0,aD⟩=aC (.pointer (aC ⟨G,0,aD⟩))) (by kernel_rfl) hX (fun hHeld=>?_);refine tkT 0 ?_;refine tkT 1 ?_;refine tkT 2 ?_;refine tkT 3 ?_;refine tkT 4 ?_;refine tkT 5 ?_;refine tkT 6 ?_;refine dG (i:=7) (by kernel_rfl) rfl (fun K hK=>?_);simp only[zA,zB,zC];go_simp;obtain⟨W9,hW9⟩:∃ W9,(w.alloc (.cells #[.pointer (aC ⟨B,0,aD⟩),.pointer (aC ⟨B,1,aD⟩)] 150)).drew=W9:=⟨_,rfl⟩;rw[hW9];have hx9:Ext w W9:=hW9▸((Ext.rf w).al _).dr;have hl9:W9.heap[w.heap.size]?=aC (.cells #[.pointer (aC ⟨B,0,aD⟩),.pointer (aC ⟨B,1,aD⟩)] 150 (0,0)):=hW9▸aW (heap_alloc_new w (.cells #[.pointer (aC ⟨B,0,aD⟩),.pointer (aC ⟨B,1,aD⟩)] 150)) (Ext.rf _).dr;have hfr:∀ a:Addr,(∃ old,w.cell? a=aC old)->w.frozen? a=false->(∃ old,W9.cell? a=aC old)/\W9.frozen? a=false/\a.block≠w.heap.size:=fun a ⟨old,h1⟩ h2=>by
  have hlt:=aBx w a h1;refine⟨⟨old,eG hx9 h1⟩,?_,by omega⟩;rw[aDQ (hx9.block a.block hlt)];exact h2
 have hG9:=hfr _ ⟨_,HG.out⟩ HF.out.1;have hB9:=hfr _ HB.out.1 HF.out.2.1;have hC9:=hfr _ HB.out.2 HF.out.2.2;have INTO:=hid (show Calls prog 105 #[.pointer (aC ⟨G,0,aD⟩),aE (aC ⟨w.heap.size,0,aD⟩) 2 2] W9 (fun e w'=>e=(if 2<=t.length then .returned (.tuple #[]) else .panicked pU)/\w'=iE G [⟨B,0,aD⟩,⟨B,1,aD⟩] t W9) from Ep W9 G w.heap.size [⟨B,0,aD⟩,⟨B,1,aD⟩] t (by simp) (eG hx9 HG.out) hG9.2.1 hl9 (fun e=>hG9.2.2 e.symm) (fun a ha=>by
  simp only[aC8,aCj,or_false] at ha;rcases ha with rfl | rfl
  ·exact⟨hBG,hB9.2.2,hB9.1,hB9.2.1⟩
  ·exact⟨hBG,hC9.2.2,hC9.1,hC9.2.1⟩))
 have HX9:=hid hx9;clear hG9 hB9 hC9 hfr hl9 hW9 HG HF HB;refine hK.out _ _ ?_ (fun hHeld=>?_)
 ·(exact hx9.ce' hHeld)
 clear hK K;refine eM (t:=8) (by kernel_rfl) rfl (by kernel_rfl) (fun K hK=>?_);simp only[zA,zB,zC];go_simp;by_cases h2:2<=t.length
 ·rw[if_pos h2] at INTO;refine INTO.out.mono ?_;rintro e w2 ⟨rfl,hw2⟩;refine hK.out _ _ ?_;clear hK K
  go_end0
  exact⟨W9,HX9.out,by rw[if_pos h2],hw2⟩
 ·rw[if_neg h2] at INTO;refine INTO.out.mono ?_;rintro e w2 ⟨rfl,hw2⟩;exact⟨rfl,W9,HX9.out,by rw[if_neg h2],hw2⟩
theorem Vi (w:World) (X G B:Nat) (t:List UInt8) (hX:w.cell? ⟨X,0,aD⟩=aC (.pointer (aC ⟨G,0,aD⟩))) (hG:w.cell? ⟨G,0,aD⟩=aC (.string (str t))) (hGf:w.frozen? ⟨G,0,aD⟩=false)
  (hB0:∃ old,w.cell? ⟨B,0,aD⟩=aC old) (hB1:∃ old,w.cell? ⟨B,1,aD⟩=aC old) (hf0:w.frozen? ⟨B,0,aD⟩=false) (hf1:w.frozen? ⟨B,1,aD⟩=false) (hBG:B≠G) :
  Calls prog 109 #[.pointer (aC ⟨B,0,aD⟩),.pointer (aC ⟨X,0,aD⟩)] w fun e w'=>∃ w1,Ext w w1/\e=(if 2<=t.length then .returned (.tuple #[]) else .panicked pU)/\w'=iE G [⟨B,0,aD⟩,⟨B,1,aD⟩] t w1:=by
 go_enter func109,ntmps109;have HG:=hid hG;have HF:=hid (And.intro hGf (And.intro hf0 hf1));have HB:=hid (And.intro hB0 hB1);clear hG hGf hf0 hf1 hB0 hB1;refine dF 8 (fun W=>W.cell? ⟨X,0,aD⟩=aC (.pointer (aC ⟨G,0,aD⟩))) (by kernel_rfl) hX (fun hHeld=>?_);refine tkT 0 ?_;refine tkT 1 ?_;refine tkT 2 ?_;refine tkT 3 ?_;refine tkT 4 ?_;refine tkT 5 ?_;refine tkT 6 ?_;refine dG (i:=7) (by kernel_rfl) rfl (fun K hK=>?_);simp only[zA,zB,zC];go_simp;obtain⟨W9,hW9⟩:∃ W9,(w.alloc (.cells #[.pointer (aC ⟨B,0,aD⟩),.pointer (aC ⟨B,1,aD⟩)] 150)).drew=W9:=⟨_,rfl⟩;rw[hW9];have hx9:Ext w W9:=hW9▸((Ext.rf w).al _).dr;have hl9:W9.heap[w.heap.size]?=aC (.cells #[.pointer (aC ⟨B,0,aD⟩),.pointer (aC ⟨B,1,aD⟩)] 150 (0,0)):=hW9▸aW (heap_alloc_new w (.cells #[.pointer (aC ⟨B,0,aD⟩),.pointer (aC ⟨B,1,aD⟩)] 150)) (Ext.rf _).dr;have hfr:∀ a:Addr,(∃ old,w.cell? a=aC old)->w.frozen? a=false->(∃ old,W9.cell? a=aC old)/\W9.frozen? a=false/\a.block≠w.heap.size:=fun a ⟨old,h1⟩ h2=>by
  have hlt:=aBx w a h1;refine⟨⟨old,eG hx9 h1⟩,?_,by omega⟩;rw[aDQ (hx9.block a.block hlt)];exact h2
 have hG9:=hfr _ ⟨_,HG.out⟩ HF.out.1;have hB9:=hfr _ HB.out.1 HF.out.2.1;have hC9:=hfr _ HB.out.2 HF.out.2.2;have INTO:=hid (show Calls prog 105 #[.pointer (aC ⟨G,0,aD⟩),aE (aC ⟨w.heap.size,0,aD⟩) 2 2] W9 (fun e w'=>e=(if 2<=t.length then .returned (.tuple #[]) else .panicked pU)/\w'=iE G [⟨B,0,aD⟩,⟨B,1,aD⟩] t W9) from Ep W9 G w.heap.size [⟨B,0,aD⟩,⟨B,1,aD⟩] t (by simp) (eG hx9 HG.out) hG9.2.1 hl9 (fun e=>hG9.2.2 e.symm) (fun a ha=>by
  simp only[aC8,aCj,or_false] at ha;rcases ha with rfl | rfl
  ·exact⟨hBG,hB9.2.2,hB9.1,hB9.2.1⟩
  ·exact⟨hBG,hC9.2.2,hC9.1,hC9.2.1⟩))
 have HX9:=hid hx9;clear hG9 hB9 hC9 hfr hl9 hW9 HG HF HB;refine hK.out _ _ ?_ (fun hHeld=>?_)
 ·(exact hx9.ce' hHeld)
 clear hK K;refine eM (t:=8) (by kernel_rfl) rfl (by kernel_rfl) (fun K hK=>?_);simp only[zA,zB,zC];go_simp;by_cases h2:2<=t.length
 ·rw[if_pos h2] at INTO;refine INTO.out.mono ?_;rintro e w2 ⟨rfl,hw2⟩;refine hK.out _ _ ?_;clear hK K
  go_end0
  exact⟨W9,HX9.out,by rw[if_pos h2],hw2⟩
 ·rw[if_neg h2] at INTO;refine INTO.out.mono ?_;rintro e w2 ⟨rfl,hw2⟩;exact⟨rfl,W9,HX9.out,by rw[if_neg h2],hw2⟩
theorem nG {w W:World} {G B o:Nat} {v:Value} (h:w.grownBy W (aC G)) (hB:w.heap.size<=B):w.grownBy (W.setCell ⟨B,o,aD⟩ v) (aC G):=
 ⟨h.os,h.tape,h.output,by have:=h.size;simpa[World.setCell] using this,fun k hk hne=>by
  rw[heap_setCell_other W ⟨B,o,aD⟩ _ _ (by show k≠B;omega)];exact h.block k hk hne⟩
theorem wI {G:Nat}:∀ (ps:List Addr) (t:List UInt8) {w W:World},w.grownBy W (aC G)->(∀ a∈ps,w.heap.size<=a.block/\a.spot=aD)->w.grownBy (iE G ps t W) (aC G)
 | [],_,_,_,h,_=>h
 | _::_,[],_,_,h,_=>h
 | a::ps,b::t,w,W,h,ha=>by
  refine wI ps t ?_ (fun c hc=>ha c (aBl _ hc));obtain⟨h1,h2⟩:=ha a (aCw ..);have e:a=⟨a.block,a.off,aD⟩:=by cases a;simp_all
  rw[e];exact nG (bG h (aY W G 0 _)) h1
theorem Jy {w W W5:World} {G:Nat} {row:Option Nat} (h:w.grownBy W (aC G)) (hg:W.grownBy W5 row) (hr:∀ r,row=aC r->w.heap.size<=r):w.grownBy W5 (aC G):=
 ⟨hg.os.trans h.os,hg.tape.trans h.tape,hg.output.trans h.output,Nat.le_trans h.size hg.size,fun k hk hne=>(hg.block k (aBA hk h.size) (fun e=>by have:=hr k e.symm;omega)).trans (h.block k hk hne)⟩
def gP:Nat->List UInt8->List Piece
 | 0,_=>[]
 | n+1,a::b::t=>⟨byI a,byI b⟩::gP n t
 | _+1,_=>[]
theorem lB:∀ (n:Nat) (t:List UInt8),2*n<=t.length->(gP n t).length=n
 | 0,_,_=>rfl
 | n+1,[],h=>by simp at h
 | n+1,[a],h=>by simp at h;omega
 | n+1,a::b::t,h=>by
  simp only[gP,aBB];rw[lB n t (by simp at h;omega)]
theorem xM:∀ (n:Nat) (t:List UInt8) (a b:UInt8) (r:List UInt8),t.drop (2*n)=a::b::r->gP (n+1) t=gP n t++[⟨byI a,byI b⟩]
 | 0,t,a,b,r,h=>by
  rw[show t=a::b::r from h];rfl
 | n+1,[],a,b,r,h=>by simp at h
 | n+1,[c],a,b,r,h=>by
  rw[aDI (by simp;omega)] at h;exact absurd h (by simp)
 | n+1,c::d::t,a,b,r,h=>by
  have h':t.drop (2*n)=a::b::r:=by
   rw[show 2*(n+1)=2*n+1+1 by omega,aCP,aCP] at h;exact h
  show ⟨byI c,byI d⟩::gP (n+1) t=⟨byI c,byI d⟩::gP n t++[⟨byI a,byI b⟩];rw[xM n t a b r h'];rfl
def Yf (w:World) (G most:Nat) (t:List UInt8) (e:Ending) (w':World):Prop:=
   (
    ∃ (n:UInt8) (r:List UInt8) (v:Value),t=n::r/\n.toNat<=most/\2*n.toNat<=r.length/\e=.returned v/\w'.ownsRow w.heap.size 44 2 v n.toNat (cF Piece.Len Piece.N (gP n.toNat r))/\w'.cell? ⟨G,0,aD⟩=aC (.string (str (r.drop (2*n.toNat))))/\w'.frozen? ⟨G,0,aD⟩=false)\/
    ((∀ (n:UInt8) (r:List UInt8),t=n::r->¬ (n.toNat<=most/\2*n.toNat<=r.length))/\e=.panicked pU)
theorem Ia (w:World) (X G most:Nat) (t:List UInt8) (hX:w.cell? ⟨X,0,aD⟩=aC (.pointer (aC ⟨G,0,aD⟩))) (hG:w.cell? ⟨G,0,aD⟩=aC (.string (str t))) (hGf:w.frozen? ⟨G,0,aD⟩=false) (hXG:X≠G) (hmost:most<=48) :
  Calls prog 106 #[.pointer (aC ⟨G,0,aD⟩),aA aB (most:Int),.func (.func 107) #[] #[.pointer (aC ⟨X,0,aD⟩)]] w fun e w'=>w.grownBy w' (aC G)/\
   Yf w G most t e w':=by
 have HX:=hid hX;have HF:=hid hGf;have hGlt:G < w.heap.size:=aBx w _ hG;have hXlt:X < w.heap.size:=aBx w _ hX;cases t with
 | nil=>
  have NUM:=hid (Ee w G hG);clear hX hG hGf;go_enter func106,ntmps106
  go_wp2_with fail
  refine NUM.out.mono ?_;rintro e w2 ⟨rfl,hw2⟩;obtain rfl:=hw2.symm
  go_wp2_with fail
  exact⟨rfl,bI (Ext.rf _),Or.inr ⟨fun n r h=>(by cases h),rfl⟩⟩
 | cons n r=>
  have NUM:=hid (Ed w G n r hG hGf);have hG1:(w.setCell ⟨G,0,aD⟩ (.string (str r))).cell? ⟨G,0,aD⟩=aC (.string (str r)):=aDP _ _ _ hG;have hF1:(w.setCell ⟨G,0,aD⟩ (.string (str r))).frozen? ⟨G,0,aD⟩=false:=by rw[aDO];exact hGf
  have HG1:=hid hG1;have HF1:=hid hF1;have hby:byI n=((n.toNat:Nat):Int):=rfl;rw[hby] at NUM;generalize hk:n.toNat=k at *;have HKN:=hid hk;clear hX hG hGf hG1 hF1 hby hk;go_enter func106,ntmps106
  go_wp2_with fail
  refine NUM.out.mono ?_;rintro e w2 ⟨rfl,hw2⟩;have HR2:=hid (show w.grownBy w2 (aC G) from hw2▸aY w G 0 _);rw[<- hw2] at HG1 HF1;clear hw2 NUM;by_cases hm:most < k
  ·have hm':(most:Int) < (k:Int):=by omega
   have hmd:=deT hm'
   go_wp2_with fail
   exact⟨rfl,HR2.out,Or.inr ⟨fun n' r' h=>by obtain⟨h1,h2⟩:=List.cons.inj h;rw[<- h1,<- h2,HKN.out];omega,rfl⟩⟩
  ·have hm':¬ (most:Int) < (k:Int):=by omega
   have hmd:=deF hm'
   go_wp2_with fail
   obtain⟨ir,ir1,ir2,ir3,ir4⟩:=info_parts info44;have hk255:k<=48:=by omega
   go_loopw [8,18] (fun v c wr=>∃ i:Nat,c=aA aB i/\i<=k/\2*i<=r.length/\Hid (w.grownBy wr (aC G))/\Hid (wr.cell? ⟨G,0,aD⟩=aC (.string (str (r.drop (2*i)))))/\Hid (wr.frozen? ⟨G,0,aD⟩=false)/\Hid (wr.ownsRow w.heap.size 44 2 v i (cF Piece.Len Piece.N (gP i r)))) (fun _ c _=>k - (intOf c).toNat)
   case atStart=>exact⟨0,rfl,aBO _,aBO _,HR2,HG1,HF1,hid (aBV _ _ _ _)⟩
   case round=>
    obtain⟨i,rfl,hi,hir,HRW,HGW,HFW,HOW⟩:=hrel;by_cases hlt:i < k
    ·have hlt':(i:Int) < (k:Int):=by omega
     have hGl:G < wr.heap.size:=aBx wr _ HGW.out;have hx1:=(Ext.rf wr).al (.cells #[aA aB 0,aA aB 0] 44);have hbx:=heap_alloc_new wr (.cells #[aA aB 0,aA aB 0] 44);have RD:=hid (Vj (wr.alloc (.cells #[aA aB 0,aA aB 0] 44)) X G wr.heap.size (r.drop (2*i)) (by
      have h1:wr.cell? ⟨X,0,aD⟩=w.cell? ⟨X,0,aD⟩:=aCk (a:=⟨X,0,aD⟩) (HRW.out.block X hXlt (fun e=>hXG (Option.some.inj e)));exact eG hx1 (h1.trans HX.out)) (eG hx1 HGW.out) (by rw[aDQ (hx1.block G hGl)];exact HFW.out) ⟨_,cell_of_row _ _ 0 _ _ _ hbx⟩ ⟨_,cell_of_row _ _ 1 _ _ _ hbx⟩ (frozen_of_row _ _ 0 _ _ hbx) (frozen_of_row _ _ 1 _ _ hbx) (by omega))
     have HBX:=hid hbx;clear hx1 hbx
     go_wp2_with fail
     refine RD.out.mono ?_;rintro e w3 ⟨w1,hx3,he,hw3⟩;by_cases h2:2<=(r.drop (2*i)).length
     ·rw[if_pos h2] at he;subst he;obtain⟨a,b,q,hq⟩:∃ a b q,r.drop (2*i)=a::b::q:=by
       cases hd:r.drop (2*i) with
       | nil=>rw[hd] at h2;simp at h2
       | cons a l=>
        cases l with
        | nil=>rw[hd] at h2;simp at h2
        | cons b q=>exact⟨a,b,q,rfl⟩
      have hq2:r.drop (2*(i+1))=q:=by
       have e:r.drop (2*(i+1))=(r.drop (2*i)).drop 2:=by rw[aDR];rfl
       rw[e,hq];rfl
      have hlen2:2*(i+1)<=r.length:=by
       rw[aDc] at h2;omega
      have hx13:=((Ext.rf wr).al (.cells #[aA aB 0,aA aB 0] 44)).tr hx3;have hw3':w3=(((w1.setCell ⟨G,0,aD⟩ (.string (str (b::q)))).setCell ⟨wr.heap.size,0,aD⟩ (aA aB (byI a))).setCell ⟨G,0,aD⟩ (.string (str q))).setCell ⟨wr.heap.size,1,aD⟩ (aA aB (byI b)):=by rw[hw3,hq];rfl
      have hBG:wr.heap.size≠G:=by omega
      have hb1:w1.heap[wr.heap.size]?=aC (.cells #[aA aB 0,aA aB 0] 44 (0,0)):=aW HBX.out hx3;have hb3:w3.heap[wr.heap.size]?=aC (.cells #[aA aB (byI a),aA aB (byI b)] 44 (0,0)):=by
       rw[hw3'];have e1:=heap_setCell_same (w1.setCell ⟨G,0,aD⟩ (.string (str (b::q)))) wr.heap.size 0 _ _ (aA aB (byI a)) ((heap_setCell_other w1 ⟨G,0,aD⟩ wr.heap.size (.string (str (b::q))) hBG).trans hb1);have e2:=(heap_setCell_other ((w1.setCell ⟨G,0,aD⟩ (.string (str (b::q)))).setCell ⟨wr.heap.size,0,aD⟩ (aA aB (byI a))) ⟨G,0,aD⟩ wr.heap.size (.string (str q)) hBG).trans e1;exact heap_setCell_same _ wr.heap.size 1 _ _ (aA aB (byI b)) e2
      have hR3:w.grownBy w3 (aC G):=by
       rw[hw3'];have hs:=HRW.out.size;exact nG (bG (nG (bG (bG HRW.out (bI hx13)) (aY w1 G 0 _)) hs) (aY _ G 0 _)) hs
      have hg1:w1.cell? ⟨G,0,aD⟩=aC (.string (str (r.drop (2*i)))):=eG hx13 HGW.out;have hg3:w3.cell? ⟨G,0,aD⟩=aC (.string (str q)):=by
       rw[hw3',aDN _ _ _ _ (fun e=>hBG (congrArg Addr.block e))];refine aDP _ _ _ (u:=.string (str (b::q))) ?_;rw[aDN _ _ _ _ (fun e=>hBG (congrArg Addr.block e))];exact aDP _ _ _ hg1
      have hf3:w3.frozen? ⟨G,0,aD⟩=false:=by
       rw[hw3',aDO,aDO,aDO,aDO,aDQ (hx13.block G hGl)];exact HFW.out
      have hfar:∀ rr,u8.ownBlock=aC rr->rr < wr.heap.size:=fun rr hr=>(HOW.out.lt rr hr).2;have ho3:w3.ownsRow w.heap.size 44 2 u8 i (cF Piece.Len Piece.N (gP i r)):=by
       rw[hw3'];have o1:=cD (bE HOW.out hx13) (aY w1 G 0 (.string (str (b::q)))) hGlt;have o2:=cY o1 (aY _ wr.heap.size 0 (aA aB (byI a))) (fun rr hr e=>by have h1:=hfar rr hr;have h2:=Option.some.inj e;omega);have o3:=cD o2 (aY _ G 0 (.string (str q))) hGlt;exact cY o3 (aY _ wr.heap.size 1 (aA aB (byI b))) (fun rr hr e=>by have h1:=hfar rr hr;have h2:=Option.some.inj e;omega)
      have k0:=cell_of_row w3 wr.heap.size 0 _ _ _ hb3;have k1:=cell_of_row w3 wr.heap.size 1 _ _ _ hb3;have HB0:=hid (fun rr hr=>(HOW.out.lt rr hr).1);have HO3:=hid (ho3.alloc (.cells #[aA aB (byI a),aA aB (byI b)] 44));have HN:=hid (Ch w3 rfl (aA aB (byI a)) (aA aB (byI b)) 44);have hsw:=hR3.size;have HSZ:=hid (show w.heap.size<=(w3.alloc (.cells #[aA aB (byI a),aA aB (byI b)] 44)).heap.size from by rw[aCl];omega);have HR3:=hid hR3;have HG3:=hid hg3;have HF3:=hid hf3;have HPS:=hid (xM i r a b q hq);have HQ2:=hid hq2;clear hw3 hw3' hb1 hb3 hR3 hg1 hg3 hf3 hfar ho3 hq hq2 hx3 hx13 h2 RD HBX HGW HFW HOW hBG
      go_wp2_with (at_builtin;refine wpList_append_own _ rfl _ _ 26 rfl w.heap.size 44 ir _ 2 16 underlying26 ir1 ir2 ir3 ir4 rfl (by decide) u8 i (cF Piece.Len Piece.N (gP i r)) rfl HO3.out ⟨w3.heap.size,0,aD⟩ 1 1 [aA aB (byI a),aA aB (byI b)] rfl rfl HN.out (Cf _ _ _ _) (by unfold maxLen;omega) (by omega) HSZ.out ?_;intro v5 W5 hown hgrow hnil)
      have hx4:=(Ext.rf w3).al (.cells #[aA aB (byI a),aA aB (byI b)] 44);have hgl3:G < w3.heap.size:=by omega
      have hkeep:W5.heap[G]?=w3.heap[G]?:=(hgrow.block G (by rw[aCl];omega) (fun e=>by have:=HB0.out G e.symm;omega)).trans (hx4.block G hgl3);go_roundw
      case rel=>exact⟨i+1,by go_num,by omega,hlen2,hid (Jy (bG HR3.out (bI hx4)) hgrow HB0.out),hid (by rw[HQ2.out,aCk (a:=⟨G,0,aD⟩) hkeep];exact HG3.out),hid (by rw[aDQ (a:=⟨G,0,aD⟩) hkeep];exact HF3.out),hid (by
       rw[HPS.out,nL];exact hown)⟩
      case measure=>simp[intOf];omega
     ·rw[if_neg h2] at he;subst he;have hR3:w.grownBy w3 (aC G):=by
       rw[hw3];have hs:=HRW.out.size;refine wI _ _ (bG (bG HRW.out (bI ((Ext.rf wr).al (.cells #[aA aB 0,aA aB 0] 44)))) (bI hx3)) (fun c hc=>?_);simp only[aC8,aCj,or_false] at hc;rcases hc with rfl | rfl
       ·exact⟨hs,rfl⟩
       ·exact⟨hs,rfl⟩
      rw[aDc] at h2;have HR3:=hid hR3;clear hR3 hw3 RD HBX HGW HFW HOW
      go_wp2_with fail
      exact⟨rfl,HR3.out,Or.inr ⟨fun n' r' h=>by obtain⟨h1,h2⟩:=List.cons.inj h;rw[<- h1,<- h2,HKN.out];omega,rfl⟩⟩
    ·obtain rfl:i=k:=by omega
     have hno:¬ (i:Int) < (i:Int):=by omega
     clear hlt
     go_wp2_with fail
     go_ret;refine⟨HRW.out,Or.inl ⟨n,r,u8,rfl,by rw[HKN.out];omega,by rw[HKN.out];exact hir,rfl,?_,?_,HFW.out⟩⟩
     ·rw[HKN.out];exact HOW.out
     ·rw[HKN.out];exact HGW.out
def nB:Nat->List UInt8->List Run
 | 0,_=>[]
 | n+1,a::b::t=>⟨byI a,byI b⟩::nB n t
 | _+1,_=>[]
theorem oB:∀ (n:Nat) (t:List UInt8),2*n<=t.length->(nB n t).length=n
 | 0,_,_=>rfl
 | n+1,[],h=>by simp at h
 | n+1,[a],h=>by simp at h;omega
 | n+1,a::b::t,h=>by
  simp only[nB,aBB];rw[oB n t (by simp at h;omega)]
theorem Dp:∀ (n:Nat) (t:List UInt8) (a b:UInt8) (r:List UInt8),t.drop (2*n)=a::b::r->nB (n+1) t=nB n t++[⟨byI a,byI b⟩]
 | 0,t,a,b,r,h=>by
  rw[show t=a::b::r from h];rfl
 | n+1,[],a,b,r,h=>by simp at h
 | n+1,[c],a,b,r,h=>by
  rw[aDI (by simp;omega)] at h;exact absurd h (by simp)
 | n+1,c::d::t,a,b,r,h=>by
  have h':t.drop (2*n)=a::b::r:=by
   rw[show 2*(n+1)=2*n+1+1 by omega,aCP,aCP] at h;exact h
  show ⟨byI c,byI d⟩::nB (n+1) t=⟨byI c,byI d⟩::nB n t++[⟨byI a,byI b⟩];rw[Dp n t a b r h'];rfl
def aAS (w:World) (G most:Nat) (t:List UInt8) (e:Ending) (w':World):Prop:=
   (
    ∃ (n:UInt8) (r:List UInt8) (v:Value),t=n::r/\n.toNat<=most/\2*n.toNat<=r.length/\e=.returned v/\w'.ownsRow w.heap.size 48 2 v n.toNat (cF Run.At Run.N (nB n.toNat r))/\w'.cell? ⟨G,0,aD⟩=aC (.string (str (r.drop (2*n.toNat))))/\w'.frozen? ⟨G,0,aD⟩=false)\/
    ((∀ (n:UInt8) (r:List UInt8),t=n::r->¬ (n.toNat<=most/\2*n.toNat<=r.length))/\e=.panicked pU)
theorem Nr (w:World) (X G most:Nat) (t:List UInt8) (hX:w.cell? ⟨X,0,aD⟩=aC (.pointer (aC ⟨G,0,aD⟩))) (hG:w.cell? ⟨G,0,aD⟩=aC (.string (str t))) (hGf:w.frozen? ⟨G,0,aD⟩=false) (hXG:X≠G) (hmost:most<=48) :
  Calls prog 108 #[.pointer (aC ⟨G,0,aD⟩),aA aB (most:Int),.func (.func 109) #[] #[.pointer (aC ⟨X,0,aD⟩)]] w fun e w'=>w.grownBy w' (aC G)/\
   aAS w G most t e w':=by
 have HX:=hid hX;have HF:=hid hGf;have hGlt:G < w.heap.size:=aBx w _ hG;have hXlt:X < w.heap.size:=aBx w _ hX;cases t with
 | nil=>
  have NUM:=hid (Ee w G hG);clear hX hG hGf;go_enter func108,ntmps108
  go_wp2_with fail
  refine NUM.out.mono ?_;rintro e w2 ⟨rfl,hw2⟩;obtain rfl:=hw2.symm
  go_wp2_with fail
  exact⟨rfl,bI (Ext.rf _),Or.inr ⟨fun n r h=>(by cases h),rfl⟩⟩
 | cons n r=>
  have NUM:=hid (Ed w G n r hG hGf);have hG1:(w.setCell ⟨G,0,aD⟩ (.string (str r))).cell? ⟨G,0,aD⟩=aC (.string (str r)):=aDP _ _ _ hG;have hF1:(w.setCell ⟨G,0,aD⟩ (.string (str r))).frozen? ⟨G,0,aD⟩=false:=by rw[aDO];exact hGf
  have HG1:=hid hG1;have HF1:=hid hF1;have hby:byI n=((n.toNat:Nat):Int):=rfl;rw[hby] at NUM;generalize hk:n.toNat=k at *;have HKN:=hid hk;clear hX hG hGf hG1 hF1 hby hk;go_enter func108,ntmps108
  go_wp2_with fail
  refine NUM.out.mono ?_;rintro e w2 ⟨rfl,hw2⟩;have HR2:=hid (show w.grownBy w2 (aC G) from hw2▸aY w G 0 _);rw[<- hw2] at HG1 HF1;clear hw2 NUM;by_cases hm:most < k
  ·have hm':(most:Int) < (k:Int):=by omega
   have hmd:=deT hm'
   go_wp2_with fail
   exact⟨rfl,HR2.out,Or.inr ⟨fun n' r' h=>by obtain⟨h1,h2⟩:=List.cons.inj h;rw[<- h1,<- h2,HKN.out];omega,rfl⟩⟩
  ·have hm':¬ (most:Int) < (k:Int):=by omega
   have hmd:=deF hm'
   go_wp2_with fail
   obtain⟨ir,ir1,ir2,ir3,ir4⟩:=info_parts info48;have hk255:k<=48:=by omega
   go_loopw [8,18] (fun v c wr=>∃ i:Nat,c=aA aB i/\i<=k/\2*i<=r.length/\Hid (w.grownBy wr (aC G))/\Hid (wr.cell? ⟨G,0,aD⟩=aC (.string (str (r.drop (2*i)))))/\Hid (wr.frozen? ⟨G,0,aD⟩=false)/\Hid (wr.ownsRow w.heap.size 48 2 v i (cF Run.At Run.N (nB i r)))) (fun _ c _=>k - (intOf c).toNat)
   case atStart=>exact⟨0,rfl,aBO _,aBO _,HR2,HG1,HF1,hid (aBV _ _ _ _)⟩
   case round=>
    obtain⟨i,rfl,hi,hir,HRW,HGW,HFW,HOW⟩:=hrel;by_cases hlt:i < k
    ·have hlt':(i:Int) < (k:Int):=by omega
     have hGl:G < wr.heap.size:=aBx wr _ HGW.out;have hx1:=(Ext.rf wr).al (.cells #[aA aB 0,aA aB 0] 48);have hbx:=heap_alloc_new wr (.cells #[aA aB 0,aA aB 0] 48);have RD:=hid (Vi (wr.alloc (.cells #[aA aB 0,aA aB 0] 48)) X G wr.heap.size (r.drop (2*i)) (by
      have h1:wr.cell? ⟨X,0,aD⟩=w.cell? ⟨X,0,aD⟩:=aCk (a:=⟨X,0,aD⟩) (HRW.out.block X hXlt (fun e=>hXG (Option.some.inj e)));exact eG hx1 (h1.trans HX.out)) (eG hx1 HGW.out) (by rw[aDQ (hx1.block G hGl)];exact HFW.out) ⟨_,cell_of_row _ _ 0 _ _ _ hbx⟩ ⟨_,cell_of_row _ _ 1 _ _ _ hbx⟩ (frozen_of_row _ _ 0 _ _ hbx) (frozen_of_row _ _ 1 _ _ hbx) (by omega))
     have HBX:=hid hbx;clear hx1 hbx
     go_wp2_with fail
     refine RD.out.mono ?_;rintro e w3 ⟨w1,hx3,he,hw3⟩;by_cases h2:2<=(r.drop (2*i)).length
     ·rw[if_pos h2] at he;subst he;obtain⟨a,b,q,hq⟩:∃ a b q,r.drop (2*i)=a::b::q:=by
       cases hd:r.drop (2*i) with
       | nil=>rw[hd] at h2;simp at h2
       | cons a l=>
        cases l with
        | nil=>rw[hd] at h2;simp at h2
        | cons b q=>exact⟨a,b,q,rfl⟩
      have hq2:r.drop (2*(i+1))=q:=by
       have e:r.drop (2*(i+1))=(r.drop (2*i)).drop 2:=by rw[aDR];rfl
       rw[e,hq];rfl
      have hlen2:2*(i+1)<=r.length:=by
       rw[aDc] at h2;omega
      have hx13:=((Ext.rf wr).al (.cells #[aA aB 0,aA aB 0] 48)).tr hx3;have hw3':w3=(((w1.setCell ⟨G,0,aD⟩ (.string (str (b::q)))).setCell ⟨wr.heap.size,0,aD⟩ (aA aB (byI a))).setCell ⟨G,0,aD⟩ (.string (str q))).setCell ⟨wr.heap.size,1,aD⟩ (aA aB (byI b)):=by rw[hw3,hq];rfl
      have hBG:wr.heap.size≠G:=by omega
      have hb1:w1.heap[wr.heap.size]?=aC (.cells #[aA aB 0,aA aB 0] 48 (0,0)):=aW HBX.out hx3;have hb3:w3.heap[wr.heap.size]?=aC (.cells #[aA aB (byI a),aA aB (byI b)] 48 (0,0)):=by
       rw[hw3'];have e1:=heap_setCell_same (w1.setCell ⟨G,0,aD⟩ (.string (str (b::q)))) wr.heap.size 0 _ _ (aA aB (byI a)) ((heap_setCell_other w1 ⟨G,0,aD⟩ wr.heap.size (.string (str (b::q))) hBG).trans hb1);have e2:=(heap_setCell_other ((w1.setCell ⟨G,0,aD⟩ (.string (str (b::q)))).setCell ⟨wr.heap.size,0,aD⟩ (aA aB (byI a))) ⟨G,0,aD⟩ wr.heap.size (.string (str q)) hBG).trans e1;exact heap_setCell_same _ wr.heap.size 1 _ _ (aA aB (byI b)) e2
      have hR3:w.grownBy w3 (aC G):=by
       rw[hw3'];have hs:=HRW.out.size;exact nG (bG (nG (bG (bG HRW.out (bI hx13)) (aY w1 G 0 _)) hs) (aY _ G 0 _)) hs
      have hg1:w1.cell? ⟨G,0,aD⟩=aC (.string (str (r.drop (2*i)))):=eG hx13 HGW.out;have hg3:w3.cell? ⟨G,0,aD⟩=aC (.string (str q)):=by
       rw[hw3',aDN _ _ _ _ (fun e=>hBG (congrArg Addr.block e))];refine aDP _ _ _ (u:=.string (str (b::q))) ?_;rw[aDN _ _ _ _ (fun e=>hBG (congrArg Addr.block e))];exact aDP _ _ _ hg1
      have hf3:w3.frozen? ⟨G,0,aD⟩=false:=by
       rw[hw3',aDO,aDO,aDO,aDO,aDQ (hx13.block G hGl)];exact HFW.out
      have hfar:∀ rr,u8.ownBlock=aC rr->rr < wr.heap.size:=fun rr hr=>(HOW.out.lt rr hr).2;have ho3:w3.ownsRow w.heap.size 48 2 u8 i (cF Run.At Run.N (nB i r)):=by
       rw[hw3'];have o1:=cD (bE HOW.out hx13) (aY w1 G 0 (.string (str (b::q)))) hGlt;have o2:=cY o1 (aY _ wr.heap.size 0 (aA aB (byI a))) (fun rr hr e=>by have h1:=hfar rr hr;have h2:=Option.some.inj e;omega);have o3:=cD o2 (aY _ G 0 (.string (str q))) hGlt;exact cY o3 (aY _ wr.heap.size 1 (aA aB (byI b))) (fun rr hr e=>by have h1:=hfar rr hr;have h2:=Option.some.inj e;omega)
      have k0:=cell_of_row w3 wr.heap.size 0 _ _ _ hb3;have k1:=cell_of_row w3 wr.heap.size 1 _ _ _ hb3;have HB0:=hid (fun rr hr=>(HOW.out.lt rr hr).1);have HO3:=hid (ho3.alloc (.cells #[aA aB (byI a),aA aB (byI b)] 48));have HN:=hid (Ch w3 rfl (aA aB (byI a)) (aA aB (byI b)) 48);have hsw:=hR3.size;have HSZ:=hid (show w.heap.size<=(w3.alloc (.cells #[aA aB (byI a),aA aB (byI b)] 48)).heap.size from by rw[aCl];omega);have HR3:=hid hR3;have HG3:=hid hg3;have HF3:=hid hf3;have HPS:=hid (Dp i r a b q hq);have HQ2:=hid hq2;clear hw3 hw3' hb1 hb3 hR3 hg1 hg3 hf3 hfar ho3 hq hq2 hx3 hx13 h2 RD HBX HGW HFW HOW hBG
      go_wp2_with (at_builtin;refine wpList_append_own _ rfl _ _ 29 rfl w.heap.size 48 ir _ 2 16 underlying29 ir1 ir2 ir3 ir4 rfl (by decide) u8 i (cF Run.At Run.N (nB i r)) rfl HO3.out ⟨w3.heap.size,0,aD⟩ 1 1 [aA aB (byI a),aA aB (byI b)] rfl rfl HN.out (Cf _ _ _ _) (by unfold maxLen;omega) (by omega) HSZ.out ?_;intro v5 W5 hown hgrow hnil)
      have hx4:=(Ext.rf w3).al (.cells #[aA aB (byI a),aA aB (byI b)] 48);have hgl3:G < w3.heap.size:=by omega
      have hkeep:W5.heap[G]?=w3.heap[G]?:=(hgrow.block G (by rw[aCl];omega) (fun e=>by have:=HB0.out G e.symm;omega)).trans (hx4.block G hgl3);go_roundw
      case rel=>exact⟨i+1,by go_num,by omega,hlen2,hid (Jy (bG HR3.out (bI hx4)) hgrow HB0.out),hid (by rw[HQ2.out,aCk (a:=⟨G,0,aD⟩) hkeep];exact HG3.out),hid (by rw[aDQ (a:=⟨G,0,aD⟩) hkeep];exact HF3.out),hid (by
       rw[HPS.out,nL];exact hown)⟩
      case measure=>simp[intOf];omega
     ·rw[if_neg h2] at he;subst he;have hR3:w.grownBy w3 (aC G):=by
       rw[hw3];have hs:=HRW.out.size;refine wI _ _ (bG (bG HRW.out (bI ((Ext.rf wr).al (.cells #[aA aB 0,aA aB 0] 48)))) (bI hx3)) (fun c hc=>?_);simp only[aC8,aCj,or_false] at hc;rcases hc with rfl | rfl
       ·exact⟨hs,rfl⟩
       ·exact⟨hs,rfl⟩
      rw[aDc] at h2;have HR3:=hid hR3;clear hR3 hw3 RD HBX HGW HFW HOW
      go_wp2_with fail
      exact⟨rfl,HR3.out,Or.inr ⟨fun n' r' h=>by obtain⟨h1,h2⟩:=List.cons.inj h;rw[<- h1,<- h2,HKN.out];omega,rfl⟩⟩
    ·obtain rfl:i=k:=by omega
     have hno:¬ (i:Int) < (i:Int):=by omega
     clear hlt
     go_wp2_with fail
     go_ret;refine⟨HRW.out,Or.inl ⟨n,r,u8,rfl,by rw[HKN.out];omega,by rw[HKN.out];exact hir,rfl,?_,?_,HFW.out⟩⟩
     ·rw[HKN.out];exact HOW.out
     ·rw[HKN.out];exact HGW.out
def tZ:List UInt8->Option (dE × List UInt8)
 | k::n::q::f::u::rk::n1::r1=>
  if n1.toNat<=3/\2*n1.toNat<=r1.length then
   match r1.drop (2*n1.toNat) with
   | n2::r2=>if n2.toNat<=48/\2*n2.toNat<=r2.length then aC (⟨byI k,byI n,⟨byI q,byI f,byI u,byI rk,gP n1.toNat r1⟩,nB n2.toNat r2⟩,r2.drop (2*n2.toNat)) else aD
   | []=>aD
  else aD
 | _=>aD
theorem Pi:(prog.info? 31).map (·.size)=aC 8:=by kernel_rfl
def jJ:Array Value:=#[aA aB 0,aA aB 0,aA aB 0,aA aB 0,aA aB 0,aA aB 0,aE aD 0 0,aE aD 0 0]
theorem Si (S X R I:Nat) (t:ByteArray) (u:TypeId) (pv:Value) (older:List PanicEntry) (w:World) (cs:Array Value) (h8:cs.size=8) (hS:w.cell? ⟨S,0,aD⟩=aC (.string t)) (hX:w.heap[X]?=aC (.cells cs 31 (0,0)))
  (hR:∃ old,w.cell? ⟨R,0,aD⟩=aC old) (hI:∃ old,w.cell? ⟨I,0,aD⟩=aC old) (fR:w.frozen? ⟨R,0,aD⟩=false) (fI:w.frozen? ⟨I,0,aD⟩=false) (hXR:X≠R) (hXI:X≠I) (hRI:R≠I) :
  CallsD prog 104 #[.pointer (aC ⟨S,0,aD⟩),.pointer (aC ⟨X,0,aD⟩),.pointer (aC ⟨R,0,aD⟩),.pointer (aC ⟨I,0,aD⟩)] (.panicking ({ v:=.iface u pv,recovered:=false }::older)) w fun e u' w'=>
   e=.returned (.tuple #[])/\u'=.panicking ({ v:=.iface u pv,recovered:=true }::older)/\w'=((w.setRow X jJ).setCell ⟨R,0,aD⟩ (.string t)).setCell ⟨I,0,aD⟩ (.bool false):=by
 refine callsD_of_wpS func104 rfl fun c₀ fs hu=>?_;apply wpS_seq;apply wpS_region;simp[wpOpsS,go_sem,recoverD,hu,ntmps104,Exit.thenS];refine wpS_cond (t:=true) (by simp[Act.eval,Array.replicate]) ?_;simp only[if_true];refine wpS_of_wp ?_;show Code.wp _ _ _ { tmps:=#[.pointer (aC ⟨S,0,aD⟩),.pointer (aC ⟨X,0,aD⟩),.pointer (aC ⟨R,0,aD⟩),.pointer (aC ⟨I,0,aD⟩),.iface u pv,.bool true,undef,undef],defers:=[]} w;obtain⟨oR,hR⟩:=hR;obtain⟨oI,hI⟩:=hI;have hXlt:=(aBy.1 hX).1;have r1:(w.setRow X #[aA aB 0,aA aB 0,aA aB 0,aA aB 0,aA aB 0,aA aB 0,aE aD 0 0,aE aD 0 0]).cell? ⟨R,0,aD⟩=aC oR:=by rw[aCk (a:=⟨R,0,aD⟩) (setRow_other w X _ _ (fun e=>hXR e.symm))];exact hR
 have r2:(w.setRow X #[aA aB 0,aA aB 0,aA aB 0,aA aB 0,aA aB 0,aA aB 0,aE aD 0 0,aE aD 0 0]).frozen? ⟨R,0,aD⟩=false:=by rw[aDQ (a:=⟨R,0,aD⟩) (setRow_other w X _ _ (fun e=>hXR e.symm))];exact fR
 have i1:(w.setRow X #[aA aB 0,aA aB 0,aA aB 0,aA aB 0,aA aB 0,aA aB 0,aE aD 0 0,aE aD 0 0]).cell? ⟨I,0,aD⟩=aC oI:=by rw[aCk (a:=⟨I,0,aD⟩) (setRow_other w X _ _ (fun e=>hXI e.symm))];exact hI
 have i2:(w.setRow X #[aA aB 0,aA aB 0,aA aB 0,aA aB 0,aA aB 0,aA aB 0,aE aD 0 0,aE aD 0 0]).frozen? ⟨I,0,aD⟩=false:=by rw[aDQ (a:=⟨I,0,aD⟩) (setRow_other w X _ _ (fun e=>hXI e.symm))];exact fI
 have j1:((w.setRow X #[aA aB 0,aA aB 0,aA aB 0,aA aB 0,aA aB 0,aA aB 0,aE aD 0 0,aE aD 0 0]).setCell ⟨R,0,aD⟩ (.string t)).cell? ⟨I,0,aD⟩=aC oI:=by rw[aDN _ _ _ _ (fun e=>hRI (congrArg Addr.block e))];exact i1
 have j2:((w.setRow X #[aA aB 0,aA aB 0,aA aB 0,aA aB 0,aA aB 0,aA aB 0,aE aD 0 0,aE aD 0 0]).setCell ⟨R,0,aD⟩ (.string t)).frozen? ⟨I,0,aD⟩=false:=by rw[aDO];exact i2
 go_wp2_with (refine wpList_store_row rfl 31 _ _ rfl X #[aA aB 0,aA aB 0,aA aB 0,aA aB 0,aA aB 0,aA aB 0,aE aD 0 0,aE aD 0 0] rfl rfl 31 _ hX Pi h8 (by simp[aBz]) ?_)
 simp[bodyPostS,results,results104,jJ]
theorem Sj (S X R I:Nat) (w:World) :
  CallsD prog 104 #[.pointer (aC ⟨S,0,aD⟩),.pointer (aC ⟨X,0,aD⟩),.pointer (aC ⟨R,0,aD⟩),.pointer (aC ⟨I,0,aD⟩)] .returning w fun e u' w'=>e=.returned (.tuple #[])/\u'=.returning/\w'=w:=by
 refine callsD_of_wpS func104 rfl fun c₀ fs hu=>?_;apply wpS_seq;apply wpS_region;simp[wpOpsS,go_sem,recoverD,hu,ntmps104,Exit.thenS];refine wpS_cond (t:=false) (by simp[Act.eval,Array.replicate]) ?_;simp only[Bool.false_eq_true,if_false];refine wpS_of_wp (wp_skip ?_);cases c₀;simp_all [bodyPostS,results,results104]
structure aB9 (t:List UInt8) (w:World) (s:Nat) (W:World):Prop where
 ext:Ext w W
 size:W.heap.size=s+6
 text:W.heap[s]?=aC (.cells #[.string (str t)] 9 (0,0))
 act:W.heap[s+1]?=aC (.cells #[aA aB 0,aA aB 0,aA aB 0,aA aB 0,aA aB 0,aA aB 0,aE aD 0 0,aE aD 0 0] 31 (0,0))
 rest:W.heap[s+1+1]?=aC (.cells #[.string ByteArray.empty] 9 (0,0))
 is:W.heap[s+1+1+1]?=aC (.cells #[.bool false] 4 (0,0))
 glass:W.heap[s+1+1+1+1]?=aC (.cells #[.string (str t)] 147 (0,0))
 ptr:W.cell? ⟨s+1+1+1+1+1,0,aD⟩=aC (.pointer (aC ⟨s+1+1+1+1,0,aD⟩))
def Ah (base:Nat) (w:World) (v:Value):Prop:=∀ a n c,v=aE (aC a) n c->base<=a.block/\a.block < w.heap.size
theorem Ah.owned {base b2:Nat} {w:World} {e:TypeId} {z n:Nat} {v:Value} {xs:List Value} (h:w.ownsRow base e z v n xs) (hb:b2<=base):Ah b2 w v:=by
 intro a m c e;rcases h.2 with ⟨rfl,_⟩ | ⟨b,cap,cur,rfl,h1,h2,_⟩
 ·cases e
 ·cases e;exact⟨by show b2<=b;omega,(aBy.1 h2).1⟩
theorem Ah.ext {base:Nat} {w w':World} {v:Value} (h:Ah base w v) (hx:Ext w w'):Ah base w' v:=fun a n c e=>⟨(h a n c e).1,aBA (h a n c e).2 hx.size⟩
def Gi (w:World) (t:List UInt8) (e:Ending) (w':World):Prop:=Ext w w'/\
   (
    (∃ x r pv cv,tZ t=aC (x,r)/\e=.returned (.tuple #[.agg #[aA aB x.aJ,aA aB x.N,aA aB x.aP.aG,aA aB x.aP.aI,aA aB x.aP.aH,aA aB x.aP.aJ,pv,cv],.string (str r),.bool true])/\aU w' pv x.aP.aF/\bC w' cv x.Cap/\Ah w.heap.size w' pv/\Ah w.heap.size w' cv)\/
    (tZ t=aD/\e=.returned (.tuple #[.agg jJ,.string (str t),.bool false])))
theorem rK {P:Program} {fn:Func} {tmps tmps':Array Value} {R:Ending->World->Prop} (h:∀ w,(results fn tmps).run P w=(results fn tmps').run P w):∀ (ds:List Deferred) (u:FrameMode) (w:World),Leaves P fn tmps R ds u w->Leaves P fn tmps' R ds u w
 | [],.returning,w,⟨v,h1,h2⟩=>⟨v,(h w).symm.trans h1,h2⟩
 | [],.panicking _,w,hl=>hl
 | [],.run,_,hl=>hl
 | d::ds,u,w,⟨h0,fv,cap,f,args,h1,h2,h3⟩=>⟨h0,fv,cap,f,args,h1,h2,h3.mono fun e u' w' hq=>by
   cases e with
   | returned v=>exact rK h ds _ _ hq
   | panicked chain=>exact rK h ds _ _ hq
   | outgrown=>exact hq⟩
theorem Lg {tmps tmps':Array Value} (h2:tmps[2]?.getD undef=tmps'[2]?.getD undef) (h3:tmps[3]?.getD undef=tmps'[3]?.getD undef) (h4:tmps[4]?.getD undef=tmps'[4]?.getD undef) (w:World) :
  (results f60 tmps).run prog w=(results f60 tmps').run prog w:=by
 simp[results,results60,h2,h3,h4]
theorem gI {R:Ending->World->Prop} {ch:List PanicEntry} {a:Act} {w:World} {d:Tmp} {v:Value} (hd:d≠2/\d≠3/\d≠4) (h:bodyPostD prog f60 R (.panic ch) (a.put (aC d) v) w):bodyPostD prog f60 R (.panic ch) a w:=by
 refine rK (fun w=>Lg ?_ ?_ ?_ w) _ _ _ h
 ·simp[Act.put,aDS,hd.1]
 ·simp[Act.put,aDS,hd.2.1]
 ·simp[Act.put,aDS,hd.2.2]
theorem sP (w W:World) (t:List UInt8) (s:Nat) (tmps cs:Array Value) (vr vi:Value) (h2:tmps[2]?.getD undef=.pointer (aC ⟨s+1,0,aD⟩)) (h3:tmps[3]?.getD undef=.pointer (aC ⟨s+1+1,0,aD⟩)) (h4:tmps[4]?.getD undef=.pointer (aC ⟨s+1+1+1,0,aD⟩)) (hs:w.heap.size=s) (hx:Ext w W)
  (text:W.heap[s]?=aC (.cells #[.string (str t)] 9 (0,0))) (h8:cs.size=8) (act:W.heap[s+1]?=aC (.cells cs 31 (0,0))) (rest:W.heap[s+1+1]?=aC (.cells #[vr] 9 (0,0))) (is:W.heap[s+1+1+1]?=aC (.cells #[vi] 4 (0,0))) (hn:tZ t=aD) :
  bodyPostD prog f60 (Gi w t) (.panic pU) { tmps:=tmps,defers:=[{ target:=.fn (.func 104) #[.pointer (aC ⟨s,0,aD⟩),.pointer (aC ⟨s+1,0,aD⟩),.pointer (aC ⟨s+1+1,0,aD⟩),.pointer (aC ⟨s+1+1+1,0,aD⟩)],args:=#[]}]} W:=by
 refine leaves_cons (f:=104) (args:=#[.pointer (aC ⟨s,0,aD⟩),.pointer (aC ⟨s+1,0,aD⟩),.pointer (aC ⟨s+1+1,0,aD⟩),.pointer (aC ⟨s+1+1+1,0,aD⟩)]) (by simp) (by simp[go_sem]) ?_;refine(Si s (s+1) (s+1+1) (s+1+1+1) (str t) 196 (.agg #[]) [] W cs h8 (cell_of_row _ _ 0 _ _ _ text) act ⟨_,cell_of_row _ _ 0 _ _ _ rest⟩ ⟨_,cell_of_row _ _ 0 _ _ _ is⟩ (frozen_of_row _ _ 0 _ _ rest) (frozen_of_row _ _ 0 _ _ is) (by omega) (by omega) (by omega)).mono ?_;rintro e u' w'' ⟨rfl,rfl,hw⟩;have hX':(W.setRow (s+1) jJ).heap[s+1]?=aC (.cells jJ 31 (0,0)):=setRow_heap W (s+1) _ jJ _ _ act;have hR':(W.setRow (s+1) jJ).heap[s+1+1]?=aC (.cells #[vr] 9 (0,0)):=by rw[setRow_other W (s+1) _ jJ (by omega)];exact rest
 have hI':(W.setRow (s+1) jJ).heap[s+1+1+1]?=aC (.cells #[vi] 4 (0,0)):=by rw[setRow_other W (s+1) _ jJ (by omega)];exact is
 have g1:w''.heap[s+1]?=aC (.cells jJ 31 (0,0)):=by
  rw[hw,heap_setCell_other _ ⟨s+1+1+1,0,aD⟩ _ _ (by show s+1≠s+1+1+1;omega),heap_setCell_other _ ⟨s+1+1,0,aD⟩ _ _ (by show s+1≠s+1+1;omega)];exact hX'
 have g2:w''.heap[s+1+1]?=aC (.cells #[.string (str t)] 9 (0,0)):=by
  rw[hw,heap_setCell_other _ ⟨s+1+1+1,0,aD⟩ _ _ (by show s+1+1≠s+1+1+1;omega)];exact heap_setCell_same _ _ 0 _ _ _ hR'
 have g3:w''.heap[s+1+1+1]?=aC (.cells #[.bool false] 4 (0,0)):=by
  rw[hw];exact heap_setCell_same _ _ 0 _ _ _ ((heap_setCell_other _ ⟨s+1+1,0,aD⟩ _ _ (by show s+1+1+1≠s+1+1;omega)).trans hI')
 have hx2:Ext w w'':=by
  rw[hw];exact((hx.sr (b:=s+1) (by omega) _).se (b:=s+1+1) (o:=0) (by omega) _).se (b:=s+1+1+1) (o:=0) (by omega) _
 have c2:=cell_of_row w'' (s+1+1) 0 _ _ _ g2;have c3:=cell_of_row w'' (s+1+1+1) 0 _ _ _ g3;have b0:w''.cell? ⟨s+1,0,aD⟩=aC (aA aB 0):=cell_of_row w'' (s+1) 0 _ _ _ g1;have b1:w''.cell? ⟨s+1,1,aD⟩=aC (aA aB 0):=cell_of_row w'' (s+1) 1 _ _ _ g1;have b2:w''.cell? ⟨s+1,2,aD⟩=aC (aA aB 0):=cell_of_row w'' (s+1) 2 _ _ _ g1;have b3:w''.cell? ⟨s+1,3,aD⟩=aC (aA aB 0):=cell_of_row w'' (s+1) 3 _ _ _ g1;have b4:w''.cell? ⟨s+1,4,aD⟩=aC (aA aB 0):=cell_of_row w'' (s+1) 4 _ _ _ g1;have b5:w''.cell? ⟨s+1,5,aD⟩=aC (aA aB 0):=cell_of_row w'' (s+1) 5 _ _ _ g1;have b6:w''.cell? ⟨s+1,6,aD⟩=aC (aE aD 0 0):=cell_of_row w'' (s+1) 6 _ _ _ g1;have b7:w''.cell? ⟨s+1,7,aD⟩=aC (aE aD 0 0):=cell_of_row w'' (s+1) 7 _ _ _ g1;show Leaves _ _ _ _ [] (settle _) w'';refine⟨.tuple #[.agg jJ,.string (str t),.bool false],?_,hx2,Or.inr ⟨hn,rfl⟩⟩;simp[results,results60,h2,h3,h4,asAddr,b0,b1,b2,b3,b4,b5,b6,b7,c2,c3,jJ,go_sem]
theorem tH {G k:Nat}:∀ (ps:List Addr) (t:List UInt8) (W:World),k≠G->(∀ a∈ps,k≠a.block)->(iE G ps t W).heap[k]?=W.heap[k]?
 | [],_,_,_,_=>rfl
 | _::_,[],_,_,_=>rfl
 | a::ps,b::t,W,h,ha=>by
  show (iE G ps t _).heap[k]?=_;rw[tH ps t _ h (fun c hc=>ha c (aBl _ hc)),heap_setCell_other _ a _ _ (ha a (aCw ..)),heap_setCell_other _ ⟨G,0,aD⟩ _ _ h]
theorem Js {G X:Nat} {T:TypeId} (hXG:X≠G):∀ (ps:List Addr) (t:List UInt8) (W:World) (cs:Array Value),(∀ a∈ps,∃ i,a=⟨X,i,aD⟩)->W.heap[X]?=aC (.cells cs T (0,0))->∃ cs',cs'.size=cs.size/\(iE G ps t W).heap[X]?=aC (.cells cs' T (0,0))
 | [],_,_,cs,_,h=>⟨cs,rfl,h⟩
 | _::_,[],_,cs,_,h=>⟨cs,rfl,h⟩
 | a::ps,b::t,W,cs,ha,h=>by
  obtain⟨i,rfl⟩:=ha a (aCw ..);have h1:=heap_setCell_same (W.setCell ⟨G,0,aD⟩ (.string (str t))) X i _ _ (aA aB (byI b)) ((heap_setCell_other W ⟨G,0,aD⟩ X (.string (str t)) hXG).trans h);obtain⟨cs',e1,e2⟩:=Js hXG ps t _ _ (fun c hc=>ha c (aBl _ hc)) h1;exact⟨cs',by rw[e1];simp,e2⟩
theorem zY {G:Nat} {w:World} (hG:w.heap.size<=G):∀ (ps:List Addr) (t:List UInt8) (W:World),Ext w W->(∀ a∈ps,w.heap.size<=a.block/\a.spot=aD)->Ext w (iE G ps t W)
 | [],_,_,h,_=>h
 | _::_,[],_,h,_=>h
 | a::ps,b::t,W,h,ha=>by
  obtain⟨h1,h2⟩:=ha a (aCw ..);have e:a=⟨a.block,a.off,aD⟩:=by cases a;simp_all
  refine zY hG ps t _ ?_ (fun c hc=>ha c (aBl _ hc));rw[e];exact(h.se (b:=G) (o:=0) hG _).se (b:=a.block) (o:=a.off) h1 _
theorem Sw {t:List UInt8} (h:¬ 6<=t.length):tZ t=none:=by
 match t with
 | [] | [_] | [_,_] | [_,_,_] | [_,_,_,_] | [_,_,_,_,_]=>rfl
 | _::_::_::_::_::_::t=>simp at h
def rowW:List Addr->List UInt8->Array Value->Array Value
 | a::ps,b::t,cs=>rowW ps t (cs.setIfInBounds a.off (aA aB (byI b)))
 | _,_,cs=>cs
theorem Et {G X:Nat} {T:TypeId} (hXG:X≠G):∀ (ps:List Addr) (t:List UInt8) (W:World) (cs:Array Value),(∀ a∈ps,∃ i,a=⟨X,i,aD⟩)->W.heap[X]?=aC (.cells cs T (0,0))->(iE G ps t W).heap[X]?=aC (.cells (rowW ps t cs) T (0,0))
 | [],t,_,cs,_,h=>by cases t <;> exact h
 | _::_,[],_,cs,_,h=>h
 | a::ps,b::t,W,cs,ha,h=>by
  obtain⟨i,rfl⟩:=ha a (aCw ..);have h1:=heap_setCell_same (W.setCell ⟨G,0,aD⟩ (.string (str t))) X i _ _ (aA aB (byI b)) ((heap_setCell_other W ⟨G,0,aD⟩ X (.string (str t)) hXG).trans h);exact Et hXG ps t _ _ (fun c hc=>ha c (aBl _ hc)) h1
theorem Az {G:Nat} {T:TypeId}:∀ (ps:List Addr) (t:List UInt8) (W:World),(∀ a∈ps,G≠a.block)->W.heap[G]?=aC (.cells #[.string (str t)] T (0,0))->(iE G ps t W).heap[G]?=aC (.cells #[.string (str (t.drop ps.length))] T (0,0))
 | [],t,W,_,h=>h
 | _::ps,[],W,_,h=>by simpa[iE] using h
 | a::ps,b::t,W,ha,h=>by
  have h1:((W.setCell ⟨G,0,aD⟩ (.string (str t))).setCell a (aA aB (byI b))).heap[G]?=aC (.cells #[.string (str t)] T (0,0)):=
   (heap_setCell_other _ a G _ (ha a (aCw ..))).trans (heap_setCell_same W G 0 _ _ _ h)
  exact Az ps t _ (fun c hc=>ha c (aBl _ hc)) h1
theorem Vc {t:List UInt8} (h:6<=t.length):∃ k n q f u rk t1,t=k::n::q::f::u::rk::t1:=by
 match t,h with
 | k::n::q::f::u::rk::t1,_=>exact⟨k,n,q,f,u,rk,t1,rfl⟩
 | [],h | [_],h | [_,_],h | [_,_,_],h | [_,_,_,_],h | [_,_,_,_,_],h=>simp at h
theorem mX (b:UInt8):I64 (byI b):=by
 have:=b.toNat_lt;unfold byI I64;omega
theorem sS:∀ (n:Nat) (t:List UInt8) (y:Piece),y∈gP n t->I64 y.Len/\I64 y.N
 | 0,_,_,h=>by cases h
 | n+1,[],_,h=>by cases h
 | n+1,[_],_,h=>by cases h
 | n+1,a::b::t,y,h=>by
  rcases aC8.1 h with rfl | h
  ·exact⟨mX a,mX b⟩
  ·exact sS n t y h
theorem zN:∀ (n:Nat) (t:List UInt8) (y:Run),y∈nB n t->I64 y.At/\I64 y.N
 | 0,_,_,h=>by cases h
 | n+1,[],_,h=>by cases h
 | n+1,[_],_,h=>by cases h
 | n+1,a::b::t,y,h=>by
  rcases aC8.1 h with rfl | h
  ·exact⟨mX a,mX b⟩
  ·exact zN n t y h
theorem Qs (w W:World) (t:List UInt8) (s:Nat) (tmps:Array Value) (x:dE) (r:List UInt8) (pv cv:Value) (h2:tmps[2]?.getD undef=.pointer (aC ⟨s+1,0,aD⟩)) (h3:tmps[3]?.getD undef=.pointer (aC ⟨s+1+1,0,aD⟩)) (h4:tmps[4]?.getD undef=.pointer (aC ⟨s+1+1+1,0,aD⟩))
  (row:W.heap[s+1]?=aC (.cells #[aA aB x.aJ,aA aB x.N,aA aB x.aP.aG,aA aB x.aP.aI,aA aB x.aP.aH,aA aB x.aP.aJ,pv,cv] 31 (0,0))) (rest:W.heap[s+1+1]?=aC (.cells #[.string (str r)] 9 (0,0))) (is:W.heap[s+1+1+1]?=aC (.cells #[.bool true] 4 (0,0))) (hx:Ext w W) (hact:tZ t=aC (x,r)) (hp:aU W pv x.aP.aF) (hc:bC W cv x.Cap) (np:Ah w.heap.size W pv) (nc:Ah w.heap.size W cv) :
  bodyPostD prog f60 (Gi w t) .ret { tmps:=tmps,defers:=[{ target:=.fn (.func 104) #[.pointer (aC ⟨s,0,aD⟩),.pointer (aC ⟨s+1,0,aD⟩),.pointer (aC ⟨s+1+1,0,aD⟩),.pointer (aC ⟨s+1+1+1,0,aD⟩)],args:=#[]}]} W:=by
 refine leaves_cons (f:=104) (args:=#[.pointer (aC ⟨s,0,aD⟩),.pointer (aC ⟨s+1,0,aD⟩),.pointer (aC ⟨s+1+1,0,aD⟩),.pointer (aC ⟨s+1+1+1,0,aD⟩)]) (by simp) (by simp[go_sem]) ?_;refine(Sj s (s+1) (s+1+1) (s+1+1+1) W).mono ?_;rintro e u' w'' ⟨rfl,rfl,hw⟩;obtain rfl:=hw.symm;have b0:W.cell? ⟨s+1,0,aD⟩=aC (aA aB x.aJ):=cell_of_row W (s+1) 0 _ _ _ row;have b1:W.cell? ⟨s+1,1,aD⟩=aC (aA aB x.N):=cell_of_row W (s+1) 1 _ _ _ row;have b2:W.cell? ⟨s+1,2,aD⟩=aC (aA aB x.aP.aG):=cell_of_row W (s+1) 2 _ _ _ row;have b3:W.cell? ⟨s+1,3,aD⟩=aC (aA aB x.aP.aI):=cell_of_row W (s+1) 3 _ _ _ row;have b4:W.cell? ⟨s+1,4,aD⟩=aC (aA aB x.aP.aH):=cell_of_row W (s+1) 4 _ _ _ row;have b5:W.cell? ⟨s+1,5,aD⟩=aC (aA aB x.aP.aJ):=cell_of_row W (s+1) 5 _ _ _ row;have b6:W.cell? ⟨s+1,6,aD⟩=aC (pv):=cell_of_row W (s+1) 6 _ _ _ row;have b7:W.cell? ⟨s+1,7,aD⟩=aC (cv):=cell_of_row W (s+1) 7 _ _ _ row;have c2:=cell_of_row W (s+1+1) 0 _ _ _ rest;have c3:=cell_of_row W (s+1+1+1) 0 _ _ _ is;show Leaves _ _ _ _ [] (settle _) W;refine⟨.tuple #[.agg #[aA aB x.aJ,aA aB x.N,aA aB x.aP.aG,aA aB x.aP.aI,aA aB x.aP.aH,aA aB x.aP.aJ,pv,cv],.string (str r),.bool true],?_,hx,Or.inl ⟨x,r,pv,cv,hact,rfl,hp,hc,np,nc⟩⟩;simp[results,results60,h2,h3,h4,asAddr,b0,b1,b2,b3,b4,b5,b6,b7,c2,c3,go_sem]
theorem Qt (t:List UInt8) (w:World) (s:Nat) (hs:w.heap.size=s):aB9 t w s ((((((w.alloc (.cells #[.string (str t)] 9)).alloc (.cells #[aA aB 0,aA aB 0,aA aB 0,aA aB 0,aA aB 0,aA aB 0,aE aD 0 0,aE aD 0 0] 31)).alloc (.cells #[.string ByteArray.empty] 9)).alloc (.cells #[.bool false] 4)).alloc (.cells #[.string (str t)] 147)).alloc (.cells #[.pointer (aC ⟨s+1+1+1+1,0,aD⟩)] 145)):=by
 obtain⟨w1,h1⟩:∃ x,w.alloc (.cells #[.string (str t)] 9)=x:=⟨_,rfl⟩;have e1:=heap_alloc_new w (.cells #[.string (str t)] 9);have s1:w1.heap.size=s+1:=by rw[<- h1,aCl,hs]
 have x1:Ext w w1:=h1▸(Ext.rf w).al _;rw[h1,hs] at e1;rw[h1];obtain⟨w2,h2⟩:∃ x,w1.alloc (.cells #[aA aB 0,aA aB 0,aA aB 0,aA aB 0,aA aB 0,aA aB 0,aE aD 0 0,aE aD 0 0] 31)=x:=⟨_,rfl⟩;have e2:=heap_alloc_new w1 (.cells #[aA aB 0,aA aB 0,aA aB 0,aA aB 0,aA aB 0,aA aB 0,aE aD 0 0,aE aD 0 0] 31);have s2:w2.heap.size=s+1+1:=by rw[<- h2,aCl,s1]
 have x2:Ext w1 w2:=h2▸(Ext.rf w1).al _;rw[h2,s1] at e2;rw[h2];obtain⟨w3,h3⟩:∃ x,w2.alloc (.cells #[.string ByteArray.empty] 9)=x:=⟨_,rfl⟩;have e3:=heap_alloc_new w2 (.cells #[.string ByteArray.empty] 9);have s3:w3.heap.size=s+1+1+1:=by rw[<- h3,aCl,s2]
 have x3:Ext w2 w3:=h3▸(Ext.rf w2).al _;rw[h3,s2] at e3;rw[h3];obtain⟨w4,h4⟩:∃ x,w3.alloc (.cells #[.bool false] 4)=x:=⟨_,rfl⟩;have e4:=heap_alloc_new w3 (.cells #[.bool false] 4);have s4:w4.heap.size=s+1+1+1+1:=by rw[<- h4,aCl,s3]
 have x4:Ext w3 w4:=h4▸(Ext.rf w3).al _;rw[h4,s3] at e4;rw[h4];obtain⟨w5,h5⟩:∃ x,w4.alloc (.cells #[.string (str t)] 147)=x:=⟨_,rfl⟩;have e5:=heap_alloc_new w4 (.cells #[.string (str t)] 147);have s5:w5.heap.size=s+1+1+1+1+1:=by rw[<- h5,aCl,s4]
 have x5:Ext w4 w5:=h5▸(Ext.rf w4).al _;rw[h5,s4] at e5;rw[h5];obtain⟨w6,h6⟩:∃ x,w5.alloc (.cells #[.pointer (aC ⟨s+1+1+1+1,0,aD⟩)] 145)=x:=⟨_,rfl⟩;have e6:=heap_alloc_new w5 (.cells #[.pointer (aC ⟨s+1+1+1+1,0,aD⟩)] 145);have s6:w6.heap.size=s+1+1+1+1+1+1:=by rw[<- h6,aCl,s5]
 have x6:Ext w5 w6:=h6▸(Ext.rf w5).al _;rw[h6,s5] at e6;rw[h6];have y5:=x6;have y4:=x5.tr y5;have y3:=x4.tr y4;have y2:=x3.tr y3;have y1:=x2.tr y2;exact⟨x1.tr y1,s6,aW e1 y1,aW e2 y2,aW e3 y3,aW e4 y4,aW e5 y5,cell_of_row _ _ 0 _ _ _ e6⟩
theorem Yc (w:World) (t:List UInt8) :
  Calls prog 60 #[.string (str t)] w (Gi w t):=by
 have hmf:∀ (fn:Fn) (first cap:Array Value) (w:World),(Instr.makeFunc fn first cap).run prog w=.ok (.func fn first cap) w:=fun _ _ _ _=>rfl
 go_enter_defers func60,ntmps60
 go_wp2_with fail
 obtain⟨s,hs⟩:∃ s,w.heap.size=s:=⟨_,rfl⟩;have RA:=Qt t w s hs;rw[show ByteArray.empty=(⟨#[]⟩:ByteArray) from rfl] at RA;rw[hs];generalize (((((w.alloc (.cells #[.string (str t)] 9)).alloc (.cells #[aA aB 0,aA aB 0,aA aB 0,aA aB 0,aA aB 0,aA aB 0,aE aD 0 0,aE aD 0 0] 31)).alloc (.cells #[.string (⟨#[]⟩:ByteArray)] 9)).alloc (.cells #[.bool false] 4)).alloc (.cells #[.string (str t)] 147)).alloc (.cells #[.pointer (aC ⟨s+1+1+1+1,0,aD⟩)] 145)=W6 at *;have k5:=RA.ptr;have HRA:=hid RA;obtain⟨W7,hW7⟩:∃ W7,(W6.alloc (.cells #[.pointer (aC ⟨s+1,0,aD⟩),.pointer (aC ⟨s+1,1,aD⟩),.pointer (aC ⟨s+1,2,aD⟩),.pointer (aC ⟨s+1,3,aD⟩),.pointer (aC ⟨s+1,4,aD⟩),.pointer (aC ⟨s+1,5,aD⟩)] 150)).drew=W7:=⟨_,rfl⟩;have hx7:Ext W6 W7:=hW7▸((Ext.rf W6).al _).dr;have hl7:W7.heap[W6.heap.size]?=aC (.cells #[.pointer (aC ⟨s+1,0,aD⟩),.pointer (aC ⟨s+1,1,aD⟩),.pointer (aC ⟨s+1,2,aD⟩),.pointer (aC ⟨s+1,3,aD⟩),.pointer (aC ⟨s+1,4,aD⟩),.pointer (aC ⟨s+1,5,aD⟩)] 150 (0,0)):=hW7▸aW (heap_alloc_new W6 (.cells #[.pointer (aC ⟨s+1,0,aD⟩),.pointer (aC ⟨s+1,1,aD⟩),.pointer (aC ⟨s+1,2,aD⟩),.pointer (aC ⟨s+1,3,aD⟩),.pointer (aC ⟨s+1,4,aD⟩),.pointer (aC ⟨s+1,5,aD⟩)] 150)) (Ext.rf _).dr;have hg7:=aW RA.glass hx7;have ha7:=aW RA.act hx7;have INTO:=hid (show Calls prog 105 #[.pointer (aC ⟨s+1+1+1+1,0,aD⟩),aE (aC ⟨W6.heap.size,0,aD⟩) 6 6] W7 (fun e w'=>e=(if 6<=t.length then .returned (.tuple #[]) else .panicked pU)/\w'=iE (s+1+1+1+1) [⟨s+1,0,aD⟩,⟨s+1,1,aD⟩,⟨s+1,2,aD⟩,⟨s+1,3,aD⟩,⟨s+1,4,aD⟩,⟨s+1,5,aD⟩] t W7) from Ep W7 (s+1+1+1+1) W6.heap.size [⟨s+1,0,aD⟩,⟨s+1,1,aD⟩,⟨s+1,2,aD⟩,⟨s+1,3,aD⟩,⟨s+1,4,aD⟩,⟨s+1,5,aD⟩] t (by simp) (cell_of_row _ _ 0 _ _ _ hg7) (frozen_of_row _ _ 0 _ _ hg7) hl7 (by rw[RA.size];omega) (fun a ha=>by
  simp only[aC8,aCj,or_false] at ha;have hsz:=RA.size;rcases ha with rfl | rfl | rfl | rfl | rfl | rfl
  ·exact⟨by show s+1≠_;omega,by show s+1≠_;omega,⟨_,cell_of_row _ _ 0 _ _ _ ha7⟩,frozen_of_row _ _ 0 _ _ ha7⟩
  ·exact⟨by show s+1≠_;omega,by show s+1≠_;omega,⟨_,cell_of_row _ _ 1 _ _ _ ha7⟩,frozen_of_row _ _ 1 _ _ ha7⟩
  ·exact⟨by show s+1≠_;omega,by show s+1≠_;omega,⟨_,cell_of_row _ _ 2 _ _ _ ha7⟩,frozen_of_row _ _ 2 _ _ ha7⟩
  ·exact⟨by show s+1≠_;omega,by show s+1≠_;omega,⟨_,cell_of_row _ _ 3 _ _ _ ha7⟩,frozen_of_row _ _ 3 _ _ ha7⟩
  ·exact⟨by show s+1≠_;omega,by show s+1≠_;omega,⟨_,cell_of_row _ _ 4 _ _ _ ha7⟩,frozen_of_row _ _ 4 _ _ ha7⟩
  ·exact⟨by show s+1≠_;omega,by show s+1≠_;omega,⟨_,cell_of_row _ _ 5 _ _ _ ha7⟩,frozen_of_row _ _ 5 _ _ ha7⟩))
 have HW7:=hid hW7;have HX7:=hid hx7;clear RA hW7 hl7 hg7 ha7 hx7;refine dF 16 (fun W=>W.cell? ⟨s+1+1+1+1+1,0,aD⟩=aC (.pointer (aC ⟨s+1+1+1+1,0,aD⟩))) (by kernel_rfl) k5 (fun hHeld=>?_);refine tkT 0 ?_ (hQ:=by exact fun _ _ _ h=>gI (by decide) h);refine tkT 1 ?_ (hQ:=by exact fun _ _ _ h=>gI (by decide) h);refine tkT 2 ?_ (hQ:=by exact fun _ _ _ h=>gI (by decide) h);refine tkT 3 ?_ (hQ:=by exact fun _ _ _ h=>gI (by decide) h);refine tkT 4 ?_ (hQ:=by exact fun _ _ _ h=>gI (by decide) h);refine tkT 5 ?_ (hQ:=by exact fun _ _ _ h=>gI (by decide) h);refine tkT 6 ?_ (hQ:=by exact fun _ _ _ h=>gI (by decide) h);refine tkT 7 ?_ (hQ:=by exact fun _ _ _ h=>gI (by decide) h);refine tkT 8 ?_ (hQ:=by exact fun _ _ _ h=>gI (by decide) h);refine tkT 9 ?_ (hQ:=by exact fun _ _ _ h=>gI (by decide) h);refine tkT 10 ?_ (hQ:=by exact fun _ _ _ h=>gI (by decide) h);refine tkT 11 ?_ (hQ:=by exact fun _ _ _ h=>gI (by decide) h);refine tkT 12 ?_ (hQ:=by exact fun _ _ _ h=>gI (by decide) h);refine tkT 13 ?_ (hQ:=by exact fun _ _ _ h=>gI (by decide) h);refine tkT 14 ?_ (hQ:=by exact fun _ _ _ h=>gI (by decide) h);refine dG (i:=15) (by kernel_rfl) rfl (fun K hK=>?_);simp only[zA,zB,zC];go_simp;rw[HW7.out];refine hK.out _ _ ?_ (fun hHeld=>?_)
 ·(exact HX7.out.ce' hHeld)
 clear hK K;refine eM (t:=16) (by kernel_rfl) rfl (by kernel_rfl) (fun K hK=>?_);simp only[zA,zB,zC];go_simp;have hps:∀ a∈([⟨s+1,0,aD⟩,⟨s+1,1,aD⟩,⟨s+1,2,aD⟩,⟨s+1,3,aD⟩,⟨s+1,4,aD⟩,⟨s+1,5,aD⟩]:List Addr),∃ i,a=⟨s+1,i,aD⟩:=fun a ha=>by
  simp only[aC8,aCj,or_false] at ha;rcases ha with rfl | rfl | rfl | rfl | rfl | rfl <;> exact⟨_,rfl⟩
 by_cases h6:6<=t.length
 ·rw[if_pos h6] at INTO;refine INTO.out.mono ?_;rintro e W8 ⟨rfl,hW8⟩;refine hK.out _ _ ?_;clear hK K;have hbk:∀ k,k≠s+1+1+1+1->k≠s+1->W8.heap[k]?=W7.heap[k]?:=fun k h1 h2=>by
   rw[hW8];exact tH _ _ _ h1 (fun a ha=>by obtain⟨i,rfl⟩:=hps a ha;exact h2)
  have hx8:Ext w W8:=by
   rw[hW8];exact zY (by omega) _ _ _ (HRA.out.ext.tr HX7.out) (fun a ha=>by obtain⟨i,rfl⟩:=hps a ha;exact⟨by show w.heap.size<=s+1;omega,rfl⟩)
  have hr8:=Et (G:=s+1+1+1+1) (X:=s+1) (by omega) [⟨s+1,0,aD⟩,⟨s+1,1,aD⟩,⟨s+1,2,aD⟩,⟨s+1,3,aD⟩,⟨s+1,4,aD⟩,⟨s+1,5,aD⟩] t W7 _ hps (aW HRA.out.act HX7.out);have hg8:=Az (G:=s+1+1+1+1) [⟨s+1,0,aD⟩,⟨s+1,1,aD⟩,⟨s+1,2,aD⟩,⟨s+1,3,aD⟩,⟨s+1,4,aD⟩,⟨s+1,5,aD⟩] t W7 (fun a ha=>by obtain⟨i,rfl⟩:=hps a ha;show s+1+1+1+1≠s+1;omega) (aW HRA.out.glass HX7.out);rw[<- hW8] at hr8 hg8;have ht8:=(hbk s (by omega) (by omega)).trans (aW HRA.out.text HX7.out);have he8:=(hbk (s+1+1) (by omega) (by omega)).trans (aW HRA.out.rest HX7.out);have hi8:=(hbk (s+1+1+1) (by omega) (by omega)).trans (aW HRA.out.is HX7.out);have hp8:W8.cell? ⟨s+1+1+1+1+1,0,aD⟩=aC (.pointer (aC ⟨s+1+1+1+1,0,aD⟩)):=by
   rw[aCk (a:=⟨s+1+1+1+1+1,0,aD⟩) (hbk (s+1+1+1+1+1) (by omega) (by omega))];exact HX7.out.ce' HRA.out.ptr
  obtain⟨k,n,q,f,u,rk,t1,rfl⟩:∃ k n q f u rk t1,t=k::n::q::f::u::rk::t1:=Vc h6;have hr8':W8.heap[s+1]?=aC (.cells #[aA aB (byI k),aA aB (byI n),aA aB (byI q),aA aB (byI f),aA aB (byI u),aA aB (byI rk),aE aD 0 0,aE aD 0 0] 31 (0,0)):=hr8;have hg8':W8.heap[s+1+1+1+1]?=aC (.cells #[.string (str t1)] 147 (0,0)):=hg8;have PL:=hid (Ia W8 (s+1+1+1+1+1) (s+1+1+1+1) 3 t1 hp8 (cell_of_row _ _ 0 _ _ _ hg8') (frozen_of_row _ _ 0 _ _ hg8') (by omega) (by omega));rw[show ((3:Nat):Int)=3 from rfl] at PL;have HR8:=hid hr8';have HT8:=hid ht8;have HE8:=hid he8;have HI8:=hid hi8;have HX8:=hid hx8;have HP8:=hid hp8;clear hr8 hg8 hr8' hg8' ht8 he8 hi8 hx8 hbk hW8 INTO h6
  go_wp2_with fail
  refine PL.out.mono ?_;rintro e W9 ⟨hR9,hgot⟩;have hsz8:s+1+1+1+1+1 < W8.heap.size:=aBx _ _ HP8.out;have hk9:∀ j,j < W8.heap.size->j≠s+1+1+1+1->W9.heap[j]?=W8.heap[j]?:=fun j h1 h2=>hR9.block j h1 (fun e=>h2 (Option.some.inj e));have hx9:Ext w W9:=HX8.out.gr (v:=aE (aC ⟨s+1+1+1+1,0,aD⟩) 0 0) hR9 (fun j hj=>by have e:=Option.some.inj hj;have e2:s+1+1+1+1=j:=e;omega);have hr9:=(hk9 (s+1) (by omega) (by omega)).trans HR8.out;have ht9:=(hk9 s (by omega) (by omega)).trans HT8.out;have he9:=(hk9 (s+1+1) (by omega) (by omega)).trans HE8.out;have hi9:=(hk9 (s+1+1+1) (by omega) (by omega)).trans HI8.out;have hp9:W9.cell? ⟨s+1+1+1+1+1,0,aD⟩=aC (.pointer (aC ⟨s+1+1+1+1,0,aD⟩)):=by
   rw[aCk (a:=⟨s+1+1+1+1+1,0,aD⟩) (hk9 _ (by omega) (by show s+1+1+1+1+1≠s+1+1+1+1;omega))];exact HP8.out
  rcases hgot with ⟨n1,r1,v,rfl,hn1,hr1,rfl,hown,hg9,hf9⟩ | ⟨hno,rfl⟩
  ·have hpv:aU W9 v (gP n1.toNat r1):=cG (base:=W8.heap.size) (e:=44) (by rw[lB _ _ hr1];exact hown) (fun y hy=>sS _ _ y hy) (by rw[lB _ _ hr1];omega);obtain⟨va,vc,hvf,_⟩:=hpv.form;rw[lB _ _ hr1] at hvf;subst hvf;have hfar:∀ j,(Value.slice va n1.toNat vc).ownBlock=aC j->W8.heap.size<=j:=fun j hj=>(hown.lt j hj).1;have k6:=cell_of_row W9 (s+1) 6 _ _ _ hr9;have f6:=frozen_of_row W9 (s+1) 6 _ _ hr9;have PLW:=hid PL;clear PL hR9 hk9
   go_wp2_with fail
   obtain⟨W10,hW10⟩:∃ W10,W9.setCell ⟨s+1,6,aD⟩ (aE va n1.toNat vc)=W10:=⟨_,rfl⟩;have hr10:W10.heap[s+1]?=aC (.cells #[aA aB (byI k),aA aB (byI n),aA aB (byI q),aA aB (byI f),aA aB (byI u),aA aB (byI rk),aE va n1.toNat vc,aE aD 0 0] 31 (0,0)):=by rw[<- hW10];exact heap_setCell_same W9 (s+1) 6 _ _ _ hr9
   have hb10:∀ j,j≠s+1->W10.heap[j]?=W9.heap[j]?:=fun j h=>by rw[<- hW10];exact heap_setCell_other W9 ⟨s+1,6,aD⟩ j _ h
   have ht10:=(hb10 s (by omega)).trans ht9;have he10:=(hb10 (s+1+1) (by omega)).trans he9;have hi10:=(hb10 (s+1+1+1) (by omega)).trans hi9;have hx10:Ext w W10:=by rw[<- hW10];exact hx9.se (b:=s+1) (o:=6) (by omega) _
   have hp10:W10.cell? ⟨s+1+1+1+1+1,0,aD⟩=aC (.pointer (aC ⟨s+1+1+1+1,0,aD⟩)):=by
    rw[aCk (a:=⟨s+1+1+1+1+1,0,aD⟩) (hb10 _ (by show s+1+1+1+1+1≠s+1;omega))];exact hp9
   have hg10:W10.cell? ⟨s+1+1+1+1,0,aD⟩=aC (.string (str (r1.drop (2*n1.toNat)))):=by
    rw[aCk (a:=⟨s+1+1+1+1,0,aD⟩) (hb10 _ (by show s+1+1+1+1≠s+1;omega))];exact hg9
   have hf10:W10.frozen? ⟨s+1+1+1+1,0,aD⟩=false:=by
    rw[aDQ (a:=⟨s+1+1+1+1,0,aD⟩) (hb10 _ (by show s+1+1+1+1≠s+1;omega))];exact hf9
   have hown10:W10.ownsRow W8.heap.size 44 2 (aE va n1.toNat vc) n1.toNat (cF Piece.Len Piece.N (gP n1.toNat r1)):=by
    rw[<- hW10];exact cD hown (aY W9 (s+1) 6 _) (by omega)
   rw[hW10];have RL:=hid (Nr W10 (s+1+1+1+1+1) (s+1+1+1+1) 48 (r1.drop (2*n1.toNat)) hp10 hg10 hf10 (by omega) (by omega));rw[show ((48:Nat):Int)=48 from rfl] at RL;have HR10:=hid hr10;have HT10:=hid ht10;have HE10:=hid he10;have HI10:=hid hi10;have HX10:=hid hx10;have HP10:=hid hp10;have HOW10:=hid hown10;clear hr10 hb10 ht10 he10 hi10 hx10 hp10 hg10 hf10 hown10 hW10 hown hg9 hf9 hr9 ht9 he9 hi9 hx9 hp9 hpv k6 f6 PLW;refine RL.out.mono ?_;rintro e W11 ⟨hR11,hgot⟩;have hsz10:s+1+1+1+1+1 < W10.heap.size:=aBx _ _ HP10.out;have hk11:∀ j,j < W10.heap.size->j≠s+1+1+1+1->W11.heap[j]?=W10.heap[j]?:=fun j h1 h2=>hR11.block j h1 (fun e=>h2 (Option.some.inj e));have hx11:Ext w W11:=HX10.out.gr (v:=aE (aC ⟨s+1+1+1+1,0,aD⟩) 0 0) hR11 (fun j hj=>by have e:=Option.some.inj hj;have e2:s+1+1+1+1=j:=e;omega);have hr11:=(hk11 (s+1) (by omega) (by omega)).trans HR10.out;have ht11:=(hk11 s (by omega) (by omega)).trans HT10.out;have he11:=(hk11 (s+1+1) (by omega) (by omega)).trans HE10.out;have hi11:=(hk11 (s+1+1+1) (by omega) (by omega)).trans HI10.out;rcases hgot with ⟨n2,r2,v2,hn2e,hn2,hr2,rfl,hown2,hg11,hf11⟩ | ⟨hno,rfl⟩
   ·have hcv:bC W11 v2 (nB n2.toNat r2):=cG (base:=W10.heap.size) (e:=48) (by rw[oB _ _ hr2];exact hown2) (fun y hy=>zN _ _ y hy) (by rw[oB _ _ hr2];omega);obtain⟨ca,cc,hvf,_⟩:=hcv.form;rw[oB _ _ hr2] at hvf;subst hvf;have k7:=cell_of_row W11 (s+1) 7 _ _ _ hr11;have f7:=frozen_of_row W11 (s+1) 7 _ _ hr11;clear RL
    go_wp2_with fail
    obtain⟨W12,hW12⟩:∃ W12,W11.setCell ⟨s+1,7,aD⟩ (aE ca n2.toNat cc)=W12:=⟨_,rfl⟩;rw[hW12];have hr12:W12.heap[s+1]?=aC (.cells #[aA aB (byI k),aA aB (byI n),aA aB (byI q),aA aB (byI f),aA aB (byI u),aA aB (byI rk),aE va n1.toNat vc,aE ca n2.toNat cc] 31 (0,0)):=by rw[<- hW12];exact heap_setCell_same W11 (s+1) 7 _ _ _ hr11
    have hb12:∀ j,j≠s+1->W12.heap[j]?=W11.heap[j]?:=fun j h=>by rw[<- hW12];exact heap_setCell_other W11 ⟨s+1,7,aD⟩ j _ h
    have b0:W12.cell? ⟨s+1,0,aD⟩=aC (aA aB (byI k)):=cell_of_row W12 (s+1) 0 _ _ _ hr12;have b1:W12.cell? ⟨s+1,1,aD⟩=aC (aA aB (byI n)):=cell_of_row W12 (s+1) 1 _ _ _ hr12;have b2:W12.cell? ⟨s+1,2,aD⟩=aC (aA aB (byI q)):=cell_of_row W12 (s+1) 2 _ _ _ hr12;have b3:W12.cell? ⟨s+1,3,aD⟩=aC (aA aB (byI f)):=cell_of_row W12 (s+1) 3 _ _ _ hr12;have b4:W12.cell? ⟨s+1,4,aD⟩=aC (aA aB (byI u)):=cell_of_row W12 (s+1) 4 _ _ _ hr12;have b5:W12.cell? ⟨s+1,5,aD⟩=aC (aA aB (byI rk)):=cell_of_row W12 (s+1) 5 _ _ _ hr12;have b6:W12.cell? ⟨s+1,6,aD⟩=aC (aE va n1.toNat vc):=cell_of_row W12 (s+1) 6 _ _ _ hr12;have b7:W12.cell? ⟨s+1,7,aD⟩=aC (aE ca n2.toNat cc):=cell_of_row W12 (s+1) 7 _ _ _ hr12;have g4:W12.cell? ⟨s+1+1+1+1,0,aD⟩=aC (.string (str (r2.drop (2*n2.toNat)))):=by
     rw[aCk (a:=⟨s+1+1+1+1,0,aD⟩) (hb12 _ (by show s+1+1+1+1≠s+1;omega))];exact hg11
    have g5:W12.cell? ⟨s+1+1+1+1+1,0,aD⟩=aC (.pointer (aC ⟨s+1+1+1+1,0,aD⟩)):=by
     rw[aCk (a:=⟨s+1+1+1+1+1,0,aD⟩) (hb12 _ (by show s+1+1+1+1+1≠s+1;omega)),aCk (a:=⟨s+1+1+1+1+1,0,aD⟩) (hk11 _ (by show s+1+1+1+1+1 < _;omega) (by show s+1+1+1+1+1≠s+1+1+1+1;omega))];exact HP10.out
    replace b0:=fun p:bF W12=>p.cell b0;replace b1:=fun p:bF W12=>p.cell b1;replace b2:=fun p:bF W12=>p.cell b2;replace b3:=fun p:bF W12=>p.cell b3;replace b4:=fun p:bF W12=>p.cell b4;replace b5:=fun p:bF W12=>p.cell b5;replace b6:=fun p:bF W12=>p.cell b6;replace b7:=fun p:bF W12=>p.cell b7;replace g4:=fun p:bF W12=>p.cell g4;replace g5:=fun p:bF W12=>p.cell g5;refine pH 5 (by kernel_rfl) (by kernel_rfl) ?_;simp only[aCQ,aCR,aCP,aCO]
    repeat (go_big_quiet_step (fail))
    refine wpQuiet_nil ?_;rintro w' ⟨p,rfl⟩;have hx13:=p.h;clear b0 b1 b2 b3 b4 b5 b6 b7 g4 g5;generalize p.v=W13 at *;have hr13:=aW hr12 hx13;have he13:=aW ((hb12 (s+1+1) (by omega)).trans he11) hx13;have hi13:=aW ((hb12 (s+1+1+1) (by omega)).trans hi11) hx13;have rr1:(W13.setRow (s+1) #[aA aB (byI k),aA aB (byI n),aA aB (byI q),aA aB (byI f),aA aB (byI u),aA aB (byI rk),aE va n1.toNat vc,aE ca n2.toNat cc]).heap[s+1+1]?=aC (.cells #[.string ByteArray.empty] 9 (0,0)):=by rw[setRow_other W13 (s+1) _ _ (by omega)];exact he13
    have i1:(W13.setRow (s+1) #[aA aB (byI k),aA aB (byI n),aA aB (byI q),aA aB (byI f),aA aB (byI u),aA aB (byI rk),aE va n1.toNat vc,aE ca n2.toNat cc]).heap[s+1+1+1]?=aC (.cells #[.bool false] 4 (0,0)):=by rw[setRow_other W13 (s+1) _ _ (by omega)];exact hi13
    have r2c:=cell_of_row _ (s+1+1) 0 _ _ _ rr1;have r2f:=frozen_of_row _ (s+1+1) 0 _ _ rr1;have i2h:((W13.setRow (s+1) #[aA aB (byI k),aA aB (byI n),aA aB (byI q),aA aB (byI f),aA aB (byI u),aA aB (byI rk),aE va n1.toNat vc,aE ca n2.toNat cc]).setCell ⟨s+1+1,0,aD⟩ (.string (str (r2.drop (2*n2.toNat))))).heap[s+1+1+1]?=aC (.cells #[.bool false] 4 (0,0)):=(heap_setCell_other _ ⟨s+1+1,0,aD⟩ _ _ (by show s+1+1+1≠s+1+1;omega)).trans i1;have i2c:=cell_of_row _ (s+1+1+1) 0 _ _ _ i2h;have i2f:=frozen_of_row _ (s+1+1+1) 0 _ _ i2h
    go_wp2_with (refine wpList_store_row rfl 31 _ _ rfl (s+1) #[aA aB (byI k),aA aB (byI n),aA aB (byI q),aA aB (byI f),aA aB (byI u),aA aB (byI rk),aE va n1.toNat vc,aE ca n2.toNat cc] rfl rfl 31 _ hr13 Pi rfl (by simp[aBz]) ?_)
    have hsz8:s+1+1+1+1+1 < W8.heap.size:=aBx _ _ HP8.out;have keep:∀ (base:Nat) (T:TypeId) (v:Value) (m:Nat) (xs:List Value),s+6<=base->W13.ownsRow base T 2 v m xs->(((W13.setRow (s+1) #[aA aB (byI k),aA aB (byI n),aA aB (byI q),aA aB (byI f),aA aB (byI u),aA aB (byI rk),aE va n1.toNat vc,aE ca n2.toNat cc]).setCell ⟨s+1+1,0,aD⟩ (.string (str (r2.drop (2*n2.toNat))))).setCell ⟨s+1+1+1,0,aD⟩ (.bool true)).ownsRow base T 2 v m xs:=fun base T v m xs hb h=>
     cD (cD (cD h (bS W13 (s+1) _) (by omega)) (aY _ (s+1+1) 0 _) (by omega)) (aY _ (s+1+1+1) 0 _) (by omega)
    have to13:∀ (base:Nat) (T:TypeId) (v:Value) (m:Nat) (xs:List Value),s+6<=base->W11.ownsRow base T 2 v m xs->W13.ownsRow base T 2 v m xs:=fun base T v m xs hb h=>by
     refine bE ?_ hx13;rw[<- hW12];exact cD h (aY W11 (s+1) 7 _) (by omega)
    have hpo:=keep _ _ _ _ _ (by omega) (to13 _ _ _ _ _ (by omega) (cD HOW10.out hR11 (by omega)));have hco:=keep _ _ _ _ _ (by omega) (to13 _ _ _ _ _ (by omega) hown2);have hpv:=cG (f:=Piece.Len) (g:=Piece.N) (xs:=gP n1.toNat r1) (by rw[lB _ _ hr1];exact hpo) (fun y hy=>sS _ _ y hy) (by rw[lB _ _ hr1];omega);have hcv2:=cG (f:=Run.At) (g:=Run.N) (xs:=nB n2.toNat r2) (by rw[oB _ _ hr2];exact hco) (fun y hy=>zN _ _ y hy) (by rw[oB _ _ hr2];omega);have hxe:Ext w (((W13.setRow (s+1) #[aA aB (byI k),aA aB (byI n),aA aB (byI q),aA aB (byI f),aA aB (byI u),aA aB (byI rk),aE va n1.toNat vc,aE ca n2.toNat cc]).setCell ⟨s+1+1,0,aD⟩ (.string (str (r2.drop (2*n2.toNat))))).setCell ⟨s+1+1+1,0,aD⟩ (.bool true)):=((((by rw[<- hW12];exact hx11.se (b:=s+1) (o:=7) (by omega) _:Ext w W12).tr hx13).sr (b:=s+1) (by omega) _).se (b:=s+1+1) (o:=0) (by omega) _).se (b:=s+1+1+1) (o:=0) (by omega) _;have hrow:(((W13.setRow (s+1) #[aA aB (byI k),aA aB (byI n),aA aB (byI q),aA aB (byI f),aA aB (byI u),aA aB (byI rk),aE va n1.toNat vc,aE ca n2.toNat cc]).setCell ⟨s+1+1,0,aD⟩ (.string (str (r2.drop (2*n2.toNat))))).setCell ⟨s+1+1+1,0,aD⟩ (.bool true)).heap[s+1]?=aC (.cells #[aA aB (byI k),aA aB (byI n),aA aB (byI q),aA aB (byI f),aA aB (byI u),aA aB (byI rk),aE va n1.toNat vc,aE ca n2.toNat cc] 31 (0,0)):=(heap_setCell_other _ ⟨s+1+1+1,0,aD⟩ _ _ (by show s+1≠s+1+1+1;omega)).trans ((heap_setCell_other _ ⟨s+1+1,0,aD⟩ _ _ (by show s+1≠s+1+1;omega)).trans (setRow_heap W13 (s+1) _ _ _ _ hr13));have hrest:(((W13.setRow (s+1) #[aA aB (byI k),aA aB (byI n),aA aB (byI q),aA aB (byI f),aA aB (byI u),aA aB (byI rk),aE va n1.toNat vc,aE ca n2.toNat cc]).setCell ⟨s+1+1,0,aD⟩ (.string (str (r2.drop (2*n2.toNat))))).setCell ⟨s+1+1+1,0,aD⟩ (.bool true)).heap[s+1+1]?=aC (.cells #[.string (str (r2.drop (2*n2.toNat)))] 9 (0,0)):=(heap_setCell_other _ ⟨s+1+1+1,0,aD⟩ _ _ (by show s+1+1≠s+1+1+1;omega)).trans (heap_setCell_same _ (s+1+1) 0 _ _ _ rr1);have his:=heap_setCell_same _ (s+1+1+1) 0 _ _ (.bool true) i2h;have hact:tZ (k::n::q::f::u::rk::n1::r1)=aC (⟨byI k,byI n,⟨byI q,byI f,byI u,byI rk,gP n1.toNat r1⟩,nB n2.toNat r2⟩,r2.drop (2*n2.toNat)):=by
     show (if n1.toNat<=3/\2*n1.toNat<=r1.length then _ else aD)=_;rw[if_pos ⟨hn1,hr1⟩,hn2e];exact if_pos ⟨hn2,hr2⟩
    exact Qs w _ _ s _ ⟨byI k,byI n,⟨byI q,byI f,byI u,byI rk,gP n1.toNat r1⟩,nB n2.toNat r2⟩ (r2.drop (2*n2.toNat)) _ _ rfl rfl rfl hrow hrest his hxe hact hpv hcv2 (Ah.owned hpo (by omega)) (Ah.owned hco (by omega))
   ·have hnone:tZ (k::n::q::f::u::rk::n1::r1)=none:=by
     show (if n1.toNat<=3/\2*n1.toNat<=r1.length then _ else aD)=aD;rw[if_pos ⟨hn1,hr1⟩];cases hd:r1.drop (2*n1.toNat) with
     | nil=>rfl
     | cons n2 r2=>exact if_neg (hno n2 r2 hd)
    have CG:=hid (fun tm h2 h3 h4=>sP w W11 (k::n::q::f::u::rk::n1::r1) s tm _ _ _ h2 h3 h4 hs hx11 ht11 rfl hr11 he11 hi11 hnone);clear hR11 hk11 hx11 hr11 ht11 he11 hi11 hno hnone RL
    go_wp2_with fail
    exact CG.out _ rfl rfl rfl
  ·have hnone:tZ (k::n::q::f::u::rk::t1)=none:=by
    cases t1 with
    | nil=>rfl
    | cons n1 r1=>exact if_neg (hno n1 r1 rfl)
   have CG:=hid (fun tm h2 h3 h4=>sP w W9 (k::n::q::f::u::rk::t1) s tm _ _ _ h2 h3 h4 hs hx9 ht9 rfl hr9 he9 hi9 hnone);clear hR9 hk9 hx9 hr9 ht9 he9 hi9 hp9 hno hnone PL
   go_wp2_with fail
   exact CG.out _ rfl rfl rfl
 ·rw[if_neg h6] at INTO;refine INTO.out.mono ?_;rintro e W8 ⟨rfl,hW8⟩;have hbk:∀ k,k≠s+1+1+1+1->k≠s+1->W8.heap[k]?=W7.heap[k]?:=fun k h1 h2=>by
   rw[hW8];exact tH _ _ _ h1 (fun a ha=>by obtain⟨i,rfl⟩:=hps a ha;exact h2)
  obtain⟨cs',c1,c2⟩:=Js (G:=s+1+1+1+1) (X:=s+1) (by omega) [⟨s+1,0,aD⟩,⟨s+1,1,aD⟩,⟨s+1,2,aD⟩,⟨s+1,3,aD⟩,⟨s+1,4,aD⟩,⟨s+1,5,aD⟩] t W7 _ hps (aW HRA.out.act HX7.out);rw[<- hW8] at c2;exact sP w W8 t s _ cs' _ _ rfl rfl rfl hs (by
   rw[hW8];exact zY (by omega) _ _ _ (HRA.out.ext.tr HX7.out) (fun a ha=>by obtain⟨i,rfl⟩:=hps a ha;exact⟨by show w.heap.size<=s+1;omega,rfl⟩)) ((hbk s (by omega) (by omega)).trans (aW HRA.out.text HX7.out)) c1 c2 ((hbk (s+1+1) (by omega) (by omega)).trans (aW HRA.out.rest HX7.out)) ((hbk (s+1+1+1) (by omega) (by omega)).trans (aW HRA.out.is HX7.out)) (Sw h6)
def uE (w:World) (cs:List Value) (x:dE):Prop:=
 ∃ pv cv,cs=[aA aB x.aJ,aA aB x.N,aA aB x.aP.aG,aA aB x.aP.aI,aA aB x.aP.aH,aA aB x.aP.aJ,pv,cv]/\aU w pv x.aP.aF/\bC w cv x.Cap/\(I64 x.aP.aG/\I64 x.aP.aI/\I64 x.aP.aH/\I64 x.aP.aJ)/\I64 x.aJ/\I64 x.N
theorem uE.mono {w w':World} {cs:List Value} {x:dE} (h:uE w cs x) (hx:Ext w w'):uE w' cs x:=by
 obtain⟨pv,cv,h1,h2,h3,h4⟩:=h;exact⟨pv,cv,h1,h2.mono hx,h3.mono hx,h4⟩
theorem uE.eight {w:World} {cs:List Value} {x:dE} (h:uE w cs x):cs.length=8:=by
 obtain⟨pv,cv,rfl,_⟩:=h;rfl
theorem uE.one {w:World} {cs:List Value} {x:dE} (h:uE w cs x):∀ u∈cs,u.oneCell'=true:=by
 obtain⟨pv,cv,rfl,hp,hc,_⟩:=h;obtain⟨a,c,rfl,_⟩:=hp.form;obtain⟨a2,c2,rfl,_⟩:=hc.form;simp[aBz]
theorem uE.grown {W W':World} {cs:List Value} {x:dE} {row:Option Nat} (h:uE W cs x) (hg:W.grownBy W' row) (ha:∀ u∈cs,rY u row):uE W' cs x:=by
 obtain⟨pv,cv,rfl,hp,hc,hi⟩:=h;exact⟨pv,cv,rfl,jW hp hg (ha _ (by simp)),jW hc hg (ha _ (by simp)),hi⟩
def aA7 (w:World) (b o:Nat) (x:dE):Prop:=∃ cs,uE w cs x/\∀ (j:Nat) u,cs[j]?=aC u->w.cell? ⟨b,o+j,aD⟩=aC u
theorem aA7.mono (w w':World) (b o:Nat) (x:dE) (hx:Ext w w') (h:aA7 w b o x):aA7 w' b o x:=by
 obtain⟨cs,h1,h2⟩:=h;exact⟨cs,h1.mono hx,fun j u hu=>hx.ce' (h2 j u hu)⟩
abbrev Ca:=SV 8 aA7
theorem Ca.mono {w w':World} {v:Value} {xs:List dE} (h:Ca w v xs) (hx:Ext w w'):Ca w' v xs:=SV.mono aA7.mono h hx
theorem aAJ {α:Type}:∀ (css:List (List α)),(∀ cs∈css,cs.length=8)->∀ k j,j < 8->css.flatten[k*8+j]?=(css[k]?).bind (fun cs=>cs[j]?)
 | [],_,k,j,_=>by simp
 | cs::css,h,k,j,hj=>by
  have h1:=h cs (aCw ..);rw[List.flatten_cons];cases k with
  | zero=>
   rw[Nat.zero_mul,aBE,aCI (by omega)];rfl
  | succ k=>
   rw[aCJ (by omega),h1,show (k+1)*8+j - 8=k*8+j by omega,aAJ css (fun c hc=>h c (aBl _ hc)) k j hj];rfl
structure Qe (base:Nat) (W:World) (v:Value) (l:List dE) (css:List (List Value)):Prop where
 row:W.ownsRow base 31 8 v l.length css.flatten
 len:css.length=l.length
 each:∀ (k:Nat) (cs:List Value) (x:dE),css[k]?=aC cs->l[k]?=aC x->uE W cs x
 low:∀ cs∈css,∀ u∈cs,∀ a n c,u=aE (aC a) n c->a.block < W.heap.size/\∀ g,v.ownBlock=aC g->a.block≠g
def Cj (base:Nat) (W:World) (v:Value) (l:List dE):Prop:=∃ css,Qe base W v l css
theorem Cj.none (base:Nat) (W:World):Cj base W (aE aD 0 0) []:=
 ⟨[],aBV _ _ _ _,rfl,fun k cs x h=>by simp at h,fun cs h=>by simp at h⟩
theorem Qe.snoc {base g cap:Nat} {W W3 W5:World} {v:Value} {l:List dE} {x:dE} {css:List (List Value)} {cs:List Value} (h:Qe base W v l css) (hx:Ext W W3) (hc:uE W3 cs x) (hn:∀ u∈cs,Ah W.heap.size W3 u)
  (hown:W5.ownsRow base 31 8 (aE (aC ⟨g,0,aD⟩) (l.length+1) cap) (l.length+1) (css.flatten++cs)) (hg:W3.grownBy W5 v.ownBlock) (hgg:v.ownBlock=aC g\/g=W3.heap.size) :
  Cj base W5 (aE (aC ⟨g,0,aD⟩) (l++[x]).length cap) (l++[x]):=by
 have hlen:(l++[x]).length=l.length+1:=by simp
 have hlt:∀ r,v.ownBlock=aC r->r < W.heap.size:=fun r hr=>(h.row.lt r hr).2;have hA:∀ ds∈css++[cs],∀ u∈ds,∀ a n c,u=aE (aC a) n c->a.block < W3.heap.size/\∀ r,v.ownBlock=aC r->a.block≠r:=fun ds hd u hu a n c e=>by
  rcases aBm.1 hd with h1 | h1
  ·have:=h.low ds h1 u hu a n c e;exact⟨aBA this.1 hx.size,this.2⟩
  ·rw[aCB.1 h1] at hu;have:=hn u hu a n c e;exact⟨this.2,fun r hr e'=>by have:=hlt r hr;omega⟩
 refine⟨css++[cs],by rw[hlen,List.flatten_append];simpa using hown,by simp[h.len],fun k ds y hk hy=>?_,fun ds hd u hu a n c e=>⟨aBA (hA ds hd u hu a n c e).1 hg.size,fun g' hg'=>?_⟩⟩
 ·refine uE.grown (W:=W3) ?_ hg (fun u hu a n c e he=>(hA ds (aBJ hk) u hu a n c e).2 a.block he.symm rfl);by_cases hkb:k < l.length
  ·rw[aCI (by rw[h.len];exact hkb)] at hk;rw[aCI hkb] at hy;exact(h.each k ds y hk hy).mono hx
  ·have hkl:=(aBD.1 hy).1;have hkk:k=l.length:=by simp at hkl;omega
   subst hkk;rw[aCJ (by rw[h.len];omega),h.len] at hk;rw[aCJ (by omega)] at hy;simp at hk hy;subst hk;subst hy;exact hc
 ·obtain rfl:g=g':=by simpa[Value.ownBlock] using hg'
  rcases hgg with h1 | h1
  ·exact(hA ds hd u hu a n c e).2 g h1
  ·have:=(hA ds hd u hu a n c e).1;omega
theorem Qe.eight {base:Nat} {W:World} {v:Value} {l:List dE} {css:List (List Value)} (h:Qe base W v l css):∀ cs∈css,cs.length=8:=fun cs hc=>by
 obtain⟨k,hk⟩:=List.mem_iff_getElem?.1 hc;have hkl:=(aBD.1 hk).1;obtain⟨x,hx⟩:=bT (f:=l) (k:=k) (by rw[<- h.len];exact hkl);exact(h.each k cs x hk hx).eight
theorem Cj.v {base:Nat} {W:World} {v:Value} {l:List dE} (h:Cj base W v l) (h60:l.length<=60):Ca W v l:=by
 obtain⟨css,h⟩:=h;rcases h.row.2 with ⟨rfl,h0⟩ | ⟨g,cap,cur,rfl,hb,hg,hcp,hm,hcs,htk⟩
 ·exact .inl ⟨List.eq_nil_of_length_eq_zero h0,Option.none,0,rfl,by omega⟩
 ·refine .inr ⟨g,0,cap,rfl,hcp,by unfold maxLen at hm;omega,by omega,mS.row hg,fun k x hk=>?_⟩;have hkb:=(aBD.1 hk).1;obtain⟨cs,hcs'⟩:=bT (f:=css) (k:=k) (by rw[h.len];exact hkb);refine⟨cs,h.each k cs x hcs' hk,fun j u hj=>?_⟩;have h7:=h.eight cs (aBJ hcs');have hj7:j < 8:=by have:=(aBD.1 hj).1;omega
  have e:css.flatten[k*8+j]?=aC u:=by rw[aAJ css h.eight k j hj7,hcs'];exact hj
  have:=h.row.cells (g:=g) rfl (k*8+j) u e;rw[kN] at this
  rwa [show 0+(k*8+j)=0+k*8+j by omega] at this
theorem Cj.ext {base:Nat} {W W':World} {v:Value} {l:List dE} (h:Cj base W v l) (hx:Ext W W'):Cj base W' v l:=by
 obtain⟨css,h⟩:=h;exact⟨css,bE h.row hx,h.len,fun k cs x h1 h2=>(h.each k cs x h1 h2).mono hx,fun cs hc u hu a n c e=>⟨aBA (h.low cs hc u hu a n c e).1 hx.size,(h.low cs hc u hu a n c e).2⟩⟩
theorem Cj.form {base:Nat} {W:World} {v:Value} {l:List dE} (h:Cj base W v l):∃ a c,v=aE a l.length c:=by
 obtain⟨css,h⟩:=h;rcases h.row.2 with ⟨rfl,h0⟩ | ⟨g,cap,cur,rfl,_⟩
 ·exact⟨Option.none,0,by rw[h0]⟩
 ·exact⟨_,cap,rfl⟩
def nN:Nat->List UInt8->List dE × List UInt8
 | 0,t=>([],t)
 | n+1,t=>match tZ t with
  | none=>([],t)
  | some (x,r)=>(x::(nN n r).1,(nN n r).2)
theorem Sv {n:Nat} {t:List UInt8} (h:tZ t=aD):nN n t=([],t):=by
 cases n with
 | zero=>rfl
 | succ n=>simp only[nN,h]
theorem Su {n:Nat} {t r:List UInt8} {x:dE} (h:tZ t=aC (x,r)):nN (n+1) t=(x::(nN n r).1,(nN n r).2):=by simp only[nN,h]
theorem Xa {t r:List UInt8} {x:dE} (h:tZ t=aC (x,r)):∃ d,t=d++r/\8<=d.length:=by
 match t,h with
 | k::n::q::f::u::rk::n1::r1,h=>
  simp only[tZ] at h;split at h
  ·next h1=>
   cases hd:r1.drop (2*n1.toNat) with
   | nil=>rw[hd] at h;simp at h
   | cons n2 r2=>
    rw[hd] at h;simp only at h;split at h
    ·next h2=>
     simp only[Option.some.injEq,Prod.mk.injEq] at h;have e1:r1=r1.take (2*n1.toNat)++(n2::(r2.take (2*n2.toNat)++r2.drop (2*n2.toNat))):=by rw[aDT,<- hd,aDT]
     refine⟨k::n::q::f::u::rk::n1::(r1.take (2*n1.toNat)++(n2::r2.take (2*n2.toNat))),?_,by simp;omega⟩;rw[<- h.2];simpa using e1
    ·cases h
  ·cases h
theorem Zq {t r:List UInt8} {x:dE} (h:tZ t=aC (x,r)):(I64 x.aP.aG/\I64 x.aP.aI/\I64 x.aP.aH/\I64 x.aP.aJ)/\I64 x.aJ/\I64 x.N:=by
 match t,h with
 | k::n::q::f::u::rk::n1::r1,h=>
  simp only[tZ] at h;split at h
  ·split at h
   ·split at h
    ·simp only[Option.some.injEq,Prod.mk.injEq] at h;rw[<- h.1];exact⟨⟨mX _,mX _,mX _,mX _⟩,mX _,mX _⟩
    ·cases h
   ·cases h
  ·cases h
@[irreducible] def gO (t:List UInt8):List dE × Int × Int:=if 4096 < t.length then([],0,2) else((nN 60 t).1,(t.length:Int) - ((nN 60 t).2.length:Int),0)
theorem Li {t:List UInt8} (h:4096 < t.length):gO t=([],0,2):=by unfold gO;rw[if_pos h]
theorem vW {t:List UInt8} (h:¬ 4096 < t.length):gO t=((nN 60 t).1,(t.length:Int) - ((nN 60 t).2.length:Int),0):=by unfold gO;rw[if_neg h]
structure rV (t:List UInt8) (l:List dE) (r:List UInt8):Prop where
 eq:nN 60 t=(l++(nN (60 - l.length) r).1,(nN (60 - l.length) r).2)
 behind:∃ d,t=d++r
theorem rV.begin (t:List UInt8):rV t [] t:=⟨rfl,[],rfl⟩
theorem rV.step {t r r':List UInt8} {l:List dE} {x:dE} (h:rV t l r) (h60:l.length < 60) (ha:tZ r=aC (x,r')):rV t (l++[x]) r':=by
 obtain⟨d,hd⟩:=h.behind;obtain⟨d',hd',_⟩:=Xa ha;refine⟨?_,d++d',by rw[hd,hd',List.append_assoc]⟩;rw[h.eq,show 60 - l.length=(60 - (l++[x]).length)+1 by simp;omega,Su ha];simp
theorem rV.stop {t r:List UInt8} {l:List dE} (h:rV t l r) (ha:tZ r=aD\/¬ l.length < 60):nN 60 t=(l,r):=by
 rw[h.eq];rcases ha with ha | ha
 ·rw[Sv ha,List.append_nil]
 ·rw[show 60 - l.length=0 by omega];simp[nN]
def Uo (w:World) (q:List dE × Int × Int) (e:Ending) (w':World):Prop:=∃ v,e=.returned (.tuple #[v,aA aB q.2.1,aA aB q.2.2])/\Ca w' v q.1/\Ext w w'
theorem vU {w w':World} {q:List dE × Int × Int} {l:List dE} {a b:Int} {v:Value} (h:q=(l,a,b)) (hv:Ca w' v l) (hx:Ext w w'):Uo w q (.returned (.tuple #[v,aA aB a,aA aB b])) w':=by
 subst h;exact⟨v,rfl,hv,hx⟩
def lenV:Value->Nat
 | aE _ n _=>n
 | _=>0
theorem news8 (W:World) (cs:List Value) (T:TypeId) (h:cs.length=8):∀ (j:Nat) u,cs[j]?=aC u->(W.alloc (.cells cs.toArray T)).cell? ((⟨W.heap.size,0,aD⟩:Addr).add j)=aC u:=by
 have h0:(W.alloc (.cells cs.toArray T)).ownsRow W.heap.size T 8 (aE (aC ⟨W.heap.size,0,aD⟩) 1 1) 1 cs:=
  ⟨by rw[h],.inr ⟨W.heap.size,1,cs.toArray,rfl,aBq _,heap_alloc_new W _,aBq _,by decide,by simp[h],by rw[List.toList_toArray,List.take_of_length_le (by omega)]⟩⟩
 exact h0.cells (g:=W.heap.size) rfl
theorem w64 {n:Int} (h:-9223372036854775808<=n/\n<=9223372036854775807):wrap64 n=n:=by unfold wrap64;omega
theorem info31:(prog.info? 31).map (fun i=>(i.zero,i.size,i.bytes))=aC (aC (.agg #[aA aB 0,aA aB 0,aA aB 0,aA aB 0,aA aB 0,aA aB 0,aE aD 0 0,aE aD 0 0]),8,96):=by kernel_rfl
theorem Gh (w:World) (t:List UInt8) :
  Calls prog 22 #[.string (str t)] w (Uo w (gO t)):=by
 obtain⟨T,hT⟩:∃ T,str t=T:=⟨_,rfl⟩;have hsz:T.size=t.length:=by rw[<- hT,lG]
 by_cases hm:4096 < t.length
 ·have hm':(4096:Int) < (T.size:Int):=by omega
  have hd:=deT hm';have HR:=hid (Li hm);clear hm hsz;rw[hT];clear hT;go_enter func22,ntmps22
  go_wp2_with fail
  go_ret3
  exact vU HR.out SV.nil (Ext.rf w)
 ·have hm':¬ (4096:Int) < (T.size:Int):=by omega
  have hd:=deF hm';obtain⟨ia,ia1,ia2,ia3,ia4⟩:=info_parts info31;have HR:=hid (vW hm);have HSZ:=hid hsz;have HT:=hid hT;have HM:=hid hm;rw[hT];clear hm hsz hT;go_enter func22,ntmps22
  go_wp2_with fail
  go_loopw [5,6] (fun v c wr=>∃ (l:List dE) (r:List UInt8) (a:Option Addr) (cp:Nat),v=aE a l.length cp/\c=.string (str r)/\l.length<=60/\Hid (rV t l r)/\Hid (Cj w.heap.size wr v l)/\Hid (Ext w wr)) (fun v _ _=>60 - lenV v)
  case atStart=>exact⟨[],t,aD,0,rfl,by rw[HT.out],aBO _,hid (rV.begin t),hid (Cj.none _ _),hid (Ext.rf w)⟩
  case round=>
   obtain⟨l,r,a,cp,rfl,rfl,h60,HRT,HOW,HX⟩:=hrel;by_cases hlt:l.length < 60
   ·have hlt':(l.length:Int) < (60:Int):=by omega
    have hdl:=deT hlt';have RD:=hid (Yc wr r)
    go_wp2_with fail
    refine RD.out.mono ?_;rintro e w1 ⟨hx1,hor⟩;rcases hor with ⟨x,r',pv,cv,hact,rfl,hp,hc,np,nc⟩ | ⟨hact,rfl⟩
    ·obtain⟨hi4,hik,hin⟩:=Zq hact;have hbox:=heap_alloc_new w1 (.cells #[aA aB x.aJ,aA aB x.N,aA aB x.aP.aG,aA aB x.aP.aI,aA aB x.aP.aH,aA aB x.aP.aJ,pv,cv] 31);have hxb:=(Ext.rf w1).al (.cells #[aA aB x.aJ,aA aB x.N,aA aB x.aP.aG,aA aB x.aP.aI,aA aB x.aP.aH,aA aB x.aP.aJ,pv,cv] 31);have hxc:=hxb.al (.cells #[aA aB x.aJ,aA aB x.N,aA aB x.aP.aG,aA aB x.aP.aI,aA aB x.aP.aH,aA aB x.aP.aJ,pv,cv] 31);have hac:uE w1 [aA aB x.aJ,aA aB x.N,aA aB x.aP.aG,aA aB x.aP.aI,aA aB x.aP.aH,aA aB x.aP.aJ,pv,cv] x:=⟨pv,cv,rfl,hp,hc,hi4,hik,hin⟩;have hnew:∀ u∈([aA aB x.aJ,aA aB x.N,aA aB x.aP.aG,aA aB x.aP.aI,aA aB x.aP.aH,aA aB x.aP.aJ,pv,cv]:List Value),Ah wr.heap.size w1 u:=fun u hu=>by
      simp only[aC8,aCj,or_false] at hu;rcases hu with rfl | rfl | rfl | rfl | rfl | rfl | rfl | rfl
      ·intro a n c e;cases e
      ·intro a n c e;cases e
      ·intro a n c e;cases e
      ·intro a n c e;cases e
      ·intro a n c e;cases e
      ·intro a n c e;cases e
      ·exact np
      ·exact nc
     have hn8:=news8 (w1.alloc (.cells #[aA aB x.aJ,aA aB x.N,aA aB x.aP.aG,aA aB x.aP.aI,aA aB x.aP.aH,aA aB x.aP.aJ,pv,cv] 31)) [aA aB x.aJ,aA aB x.N,aA aB x.aP.aG,aA aB x.aP.aI,aA aB x.aP.aH,aA aB x.aP.aJ,pv,cv] 31 rfl;rw[aCl] at hn8;have hone:=hac.one;obtain⟨css,hA⟩:=HOW.out;have HO1:=hid (bE hA.row (hx1.tr hxc));have hsz0:=(HX.out.tr (hx1.tr hxc)).size;have HSZ0:=hid hsz0;have HSN:=hid (fun(g cap:Nat) (W5:World)=>hA.snoc (g:=g) (cap:=cap) (W5:=W5) (hx1.tr hxc) (hac.mono hxc) (fun u hu=>(hnew u hu).ext hxc));have HX1:=hid (HX.out.tr (hx1.tr hxc));have HOWN:=hid (fun rr hr=>(HOW.out.choose_spec.row.lt rr hr).1);have HRT2:=hid (HRT.out.step hlt hact);have HN8:=hid hn8;have HONE:=hid hone;have k0:=cell_of_row _ _ 0 _ _ _ hbox;have k1:=cell_of_row _ _ 1 _ _ _ hbox;have k2:=cell_of_row _ _ 2 _ _ _ hbox;have k3:=cell_of_row _ _ 3 _ _ _ hbox;have k4:=cell_of_row _ _ 4 _ _ _ hbox;have k5:=cell_of_row _ _ 5 _ _ _ hbox;have k6:=cell_of_row _ _ 6 _ _ _ hbox;have k7:=cell_of_row _ _ 7 _ _ _ hbox;obtain⟨pa,pc,rfl,_,_,_⟩:=hp.form;obtain⟨ca,cc,rfl,_,_,_⟩:=hc.form;generalize x.aP.aF.length=pn at *;generalize x.Cap.length=cn at *;clear hact hp hc np nc hi4 hik hin hbox hxb hxc hac hnew hn8 hone hA hsz0 hx1 RD HOW HX
     go_wp2_with (at_builtin;refine wpList_append_lies _ rfl _ _ 57 rfl w.heap.size 31 ia _ 8 96 underlying57 ia1 ia2 ia3 ia4 rfl (by decide) (aE a l.length cp) l.length css.flatten rfl HO1.out ⟨w1.heap.size+1,0,aD⟩ 1 1 [aA aB x.aJ,aA aB x.N,aA aB x.aP.aG,aA aB x.aP.aI,aA aB x.aP.aH,aA aB x.aP.aJ,aE pa pn pc,aE ca cn cc] rfl rfl HN8.out HONE.out (by omega) (by unfold maxLen;omega) (by omega) HSZ0.out (w1.heap.size+2) (by simp) ?_;intro g2 cap2 W2 hown hgrow hlie hlt2;have HO2:=hid (HSN.out g2 cap2 W2 hown hgrow (hlie.imp_right fun e=>e.trans (by simp only[aCl])));have HX2:=hid (HX1.out.gr (v:=aE a l.length cp) hgrow HOWN.out);clear hown hgrow hlie hlt2)
     go_roundw
     case rel=>
      have e:(l++[x]).length=l.length+1:=by simp
      exact⟨l++[x],r',_,_,by rw[e],rfl,by rw[e];omega,HRT2,by rw[e] at HO2;exact HO2,HX2⟩
     case measure=>simp[lenV];omega
    ·have HEND:=hid (vU (q:=gO t) (w:=w) (w':=w1.alloc (.cells #[aA aB 0,aA aB 0,aA aB 0,aA aB 0,aA aB 0,aA aB 0,aE aD 0 0,aE aD 0 0] 31)) (l:=l) (a:=(t.length:Int) - (r.length:Int)) (b:=0) (v:=aE a l.length cp) (by
      have e:=HRT.out.stop (.inl hact);rw[HR.out,e]) ((HOW.out.ext (hx1.al _)).v h60) (HX.out.tr (hx1.al _)))
     rw[<- HSZ.out,<- lG r] at HEND;have hwr:wrap64 ((T.size:Int) - ((str r).size:Int))=(T.size:Int) - ((str r).size:Int):=w64 ⟨by rw[HSZ.out,lG];obtain⟨d,hd'⟩:=HRT.out.behind;have:=congrArg List.length hd';rw[aBk] at this;have:=HM.out;omega,by rw[HSZ.out,lG];have:=HM.out;omega⟩;rw[<- hwr] at HEND;unfold jJ;clear hwr;clear hact hx1 RD HOW HX HRT
     go_wp2_with fail
     go_ret3
     exact HEND.out
   ·have hlt':¬ (l.length:Int) < (60:Int):=by omega
    have hdl:=deF hlt';have HEND:=hid (vU (q:=gO t) (w:=w) (w':=wr) (l:=l) (a:=(t.length:Int) - (r.length:Int)) (b:=0) (v:=aE a l.length cp) (by
      have e:=HRT.out.stop (.inr hlt);rw[HR.out,e]) (HOW.out.v h60) HX.out)
    rw[<- HSZ.out,<- lG r] at HEND;have hwr:wrap64 ((T.size:Int) - ((str r).size:Int))=(T.size:Int) - ((str r).size:Int):=w64 ⟨by rw[HSZ.out,lG];obtain⟨d,hd'⟩:=HRT.out.behind;have:=congrArg List.length hd';rw[aBk] at this;have:=HM.out;omega,by rw[HSZ.out,lG];have:=HM.out;omega⟩;rw[<- hwr] at HEND;clear HOW HX HRT hwr
    go_wp2_with fail
    go_ret3
    exact HEND.out
theorem aAu {w:World} {a:Option Addr} {n cp k:Nat} {l:List dE} {x:dE} (h:Ca w (aE a n cp) l) (hk:l[k]?=aC x) :
  ∃ b off pv cv,a=aC ⟨b,off,aD⟩/\b < w.heap.size/\aU w pv x.aP.aF/\bC w cv x.Cap/\(I64 x.aP.aG/\I64 x.aP.aI/\I64 x.aP.aH/\I64 x.aP.aJ)/\I64 x.aJ/\I64 x.N/\
   w.cell? ⟨b,off+k*8,aD⟩=aC (aA aB x.aJ)/\w.cell? ⟨b,off+k*8+1,aD⟩=aC (aA aB x.N)/\w.cell? ⟨b,off+k*8+2,aD⟩=aC (aA aB x.aP.aG)/\w.cell? ⟨b,off+k*8+3,aD⟩=aC (aA aB x.aP.aI)/\
   w.cell? ⟨b,off+k*8+4,aD⟩=aC (aA aB x.aP.aH)/\w.cell? ⟨b,off+k*8+5,aD⟩=aC (aA aB x.aP.aJ)/\w.cell? ⟨b,off+k*8+6,aD⟩=aC pv/\w.cell? ⟨b,off+k*8+7,aD⟩=aC cv:=by
 rcases h with ⟨rfl,_⟩ | ⟨b,off,cap,e,h1,h2,h3,⟨h4,_⟩,h5⟩
 ·simp at hk
 ·cases e;obtain⟨cs,⟨pv,cv,rfl,hp,hc,hi,h6,h7⟩,hcs⟩:=h5 k x hk;exact⟨b,off,pv,cv,rfl,h4,hp,hc,hi,h6,h7,hcs 0 _ rfl,hcs 1 _ rfl,hcs 2 _ rfl,hcs 3 _ rfl,hcs 4 _ rfl,hcs 5 _ rfl,hcs 6 _ rfl,hcs 7 _ rfl⟩
noncomputable def sE (s:aV) (x:dE):aV:=if(doR s x).2=0 then(doR s x).1 else s
noncomputable def vK (s:aV) (l:List dE):aV:=l.foldl sE s
theorem Rz {s:aV} {l:List dE} {k:Nat} {x:dE} (h:l[k]?=aC x):vK s (l.take (k+1))=sE (vK s (l.take k)) x:=by
 unfold vK;rw[List.take_add_one,h];simp[List.foldl_append]
@[irreducible] noncomputable def lL (l:List Queue) (q:List dE × Int × Int):aV × Int × Int:=
 if bM l≠0 then(fA,0,bM l) else if q.2.2≠0 then(fA,0,q.2.2) else(vK ⟨0,0,l,[]⟩ q.1,(q.1.length:Int),0)
theorem Hq {l:List Queue} {q:List dE × Int × Int} (h:bM l≠0):lL l q=(fA,0,bM l):=by unfold lL;rw[if_pos h]
theorem Ht {l:List Queue} {q:List dE × Int × Int} (h:bM l=0) (h2:q.2.2≠0):lL l q=(fA,0,q.2.2):=by unfold lL;rw[if_neg (fun e=>e h),if_pos h2]
theorem Aq {l:List Queue} {q:List dE × Int × Int} (h:bM l=0) (h2:q.2.2=0):lL l q=(vK ⟨0,0,l,[]⟩ q.1,(q.1.length:Int),0):=by unfold lL;rw[if_neg (fun e=>e h),if_neg (fun e=>e h2)]
def Zw (w:World) (x:aV × Int × Int) (e:Ending) (w':World):Prop:=
 ∃ u v,e=.returned (.tuple #[.agg #[aA aB x.1.aL,aA aB x.1.aM,u,v],aA aB x.2.1,aA aB x.2.2])/\aX w' u x.1.aN/\bD w' v x.1.aK/\Ext w w'
theorem zP {w w':World} {x:aV × Int × Int} {s:aV} {n m:Int} {u v:Value} (h:x=(s,n,m)) (h1:aX w' u s.aN) (h2:bD w' v s.aK) (hx:Ext w w'):Zw w x (.returned (.tuple #[.agg #[aA aB s.aL,aA aB s.aM,u,v],aA aB n,aA aB m])) w':=by
 subst h;exact⟨u,v,rfl,h1,h2,hx⟩
theorem StS.sink {B B2:Nat} {W:World} {u v:Value} {S:aV} (h:StS B W u v S) (hb:B2<=B):StS B2 W u v S:=by
 rcases h with h | h
 ·exact .inl (h.low hb (fun r hr=>by cases hr))
 ·exact .inr h
structure aA9 (B:Nat) (W:World) (g:Nat) (s:aV) (tv bv:Value):Prop where
 box:W.heap[g]?=aC (.cells #[aA aB s.aL,aA aB s.aM,tv,bv] 25 (0,0))
 st:StS B W tv bv s
theorem aA9.ext {B:Nat} {W W':World} {g:Nat} {s:aV} {tv bv:Value} (h:aA9 B W g s tv bv) (hx:Ext W W'):aA9 B W' g s tv bv:=⟨aW h.box hx,h.st.later hx⟩
theorem aAQ {B g cap:Nat} {W:World} {l:List Queue} (hq:gL (List.range B) W g l) (hc1:l.length<=cap) (hc2:cap<=9223372036854775807) (hg:B<=g) (ok:fB l):StS B W (aE (aC ⟨g,0,aD⟩) l.length cap) (aE aD 0 0) ⟨0,0,l,[]⟩:=by
 obtain⟨vs,h1,h2⟩:=hq;have hB:eP (g::([]++List.range B)) B W (aE aD 0 0) []:=⟨[],aBV _ _ _ _,⟨rfl,fun k cs x h=>by simp at h⟩,(fun cs h=>nomatch h),(fun g h=>nomatch h)⟩;exact .inl ⟨g,cap,rfl,hc1,hc2,ok.n5,by simp,hg,h1.lt,by simp,(fun x hx=>nomatch hx),kZ ok,hB,(fun r h=>nomatch h),⟨vs,h1,h2⟩⟩
theorem aAb (w:World) (v:Value) (l:List Queue) (hv:aX w v l) (h0:bM l=0) :
  Calls prog 64 #[v] w fun e w'=>∃ u,e=.returned (.tuple #[.agg #[aA aB 0,aA aB 0,u,aE aD 0 0],aA aB 0])/\StS w.heap.size w' u (aE aD 0 0) ⟨0,0,l,[]⟩/\Ext w w':=by
 have C:=hid (fun(W:World) (h:Ext w W)=>mT W v l (hv.mono h));have H0:=hid (heap_alloc_new w (.cells #[aA aB 0,aA aB 0,aE aD 0 0,aE aD 0 0] 25));have ok:=qT h0;rw[h0] at C;have O:=hid (fun(W:World) (h:Ext w W) (hb:w.heap.size < W.heap.size)=>sC [w.heap.size] w W v l hv h ok (fun r hr=>by have:=aCB.1 hr;omega));have OK:=hid ok;obtain⟨a,cap,rfl,_,_,_⟩:=hv.form;clear hv ok h0;generalize hln:l.length=n at *;go_enter func64,ntmps64
 go_wp2_with fail
 refine(C.out _ ((Ext.rf w).al _)).mono ?_;rintro e w1 ⟨rfl,hx1⟩
 go_wp2_with fail
 refine(O.out _ (((Ext.rf w).al _).tr hx1) (by have:=hx1.size;simp at this;omega)).mono ?_;rintro e w2 ⟨g,uc,rfl,hc1,hc2,hg,hQ,hN,hx2⟩;have hs1:w.heap.size+1<=w1.heap.size:=by have:=hx1.size;simpa using this
 have hgw:g≠w.heap.size:=by omega
 have HB:=hid (show w2.heap[w.heap.size]?=aC (.cells #[aA aB 0,aA aB 0,aE aD 0 0,aE aD 0 0] 25 (0,0)) from ((hx1.tr hx2).block _ (by simp)).trans H0.out);have hX:Ext w (w2.setRow w.heap.size #[aA aB 0,aA aB 0,aE (aC ⟨g,0,aD⟩) n uc,aE aD 0 0]):=((((Ext.rf w).al _).tr hx1).tr hx2).sr (aBq _) _
 go_wp2_with (refine wpList_store_row rfl 25 _ _ rfl w.heap.size #[aA aB 0,aA aB 0,aE (aC ⟨g,0,aD⟩) n uc,aE aD 0 0] rfl rfl 25 #[aA aB 0,aA aB 0,aE aD 0 0,aE aD 0 0] HB.out size25 rfl (by simp[aBz]) ?_)
 have HB2:=setRow_heap w2 w.heap.size _ #[aA aB 0,aA aB 0,aE (aC ⟨g,0,aD⟩) n uc,aE aD 0 0] _ _ HB.out;have hgr:=bS w2 w.heap.size #[aA aB 0,aA aB 0,aE (aC ⟨g,0,aD⟩) n uc,aE aD 0 0];have hQ2:=hQ.kept hgr (aCB.2 rfl) hgw;have hN2:=(hN.kept hgr hgw).less (l:=l.length) (b2:=w.heap.size) (by omega) (by omega);have hQ3:=(hQ2.fresh (cs:=List.range w.heap.size) hN2 (fun r hr=>by have:=aC3.1 hr;omega)).less (cs:=List.range w.heap.size) (fun r hr=>aD2 _ hr);have hS:=aAQ (cap:=uc) hQ3 (by rw[hln];exact hc1) hc2 (by omega) OK.out;rw[hln] at hS;exact bodyPost_ret (bZ rfl _ _ w.heap.size 25 #[aA aB 0,aA aB 0,aE (aC ⟨g,0,aD⟩) n uc,aE aD 0 0] (0,0) _ rfl HB2 underlying25 rfl size25) rfl ⟨_,rfl,hS,hX⟩
theorem lH {W:World} {B:Nat} {t:TypeId} {a b c d:Value} (h:W.heap[B]?=aC (.cells #[a,b,c,d] t (0,0))) :
  W.cell? ⟨B,0,aD⟩=aC a/\W.cell? ⟨B,1,aD⟩=aC b/\W.cell? ⟨B,2,aD⟩=aC c/\W.cell? ⟨B,3,aD⟩=aC d:=
 ⟨cell_of_row W B 0 _ _ _ h,cell_of_row W B 1 _ _ _ h,cell_of_row W B 2 _ _ _ h,cell_of_row W B 3 _ _ _ h⟩
theorem Pt (w:World) (v:Value) (l:List Queue) (t:List UInt8) (hv:aX w v l) :
  Calls prog 25 #[v,.string (str t)] w (Zw w (lL l (gO t))):=by
 have TC:=hid (fun(W:World) (h:Ext w W)=>mT W v l (hv.mono h));have RP:=hid (fun(W:World)=>Gh W t);have BG:=hid (fun(W:World) (h:Ext w W) (h0:bM l=0)=>aAb W v l (hv.mono h) h0);have H0:=hid (heap_alloc_new w (.cells #[aA aB 0,aA aB 0,aE aD 0 0,aE aD 0 0] 25));have HX0:=hid ((Ext.rf w).al (.cells #[aA aB 0,aA aB 0,aE aD 0 0,aE aD 0 0] 25));obtain⟨va,vc,rfl,_,_,_⟩:=hv.form;clear hv;by_cases h0:bM l=0
 ·rw[h0] at TC;have BG:=hid (fun(W:World) (h:Ext w W)=>BG.out W h h0);have HR:=hid (fun h2=>Aq (q:=gO t) h0 h2);have HM:=hid (fun h2=>Ht (q:=gO t) h0 h2);clear h0;generalize gO t=q at *;obtain⟨acts,cnt,code⟩:=q;generalize str t=T at *;generalize l.length=n at *;go_enter func25,ntmps25
  go_wp2_with fail
  refine(TC.out _ HX0.out).mono ?_;rintro e w1 ⟨rfl,hx1⟩
  go_wp2_with fail
  refine(RP.out w1).mono ?_;rintro e w2 ⟨av,rfl,hacts,hx2⟩;obtain⟨aa,ac,rfl,_,_,_⟩:=hacts.form;by_cases hc:code=0
  ·subst hc;have HDO:=hid (fun(W:World) (tv bv pv cv:Value) (s:aV) (x:dE) hl hb hp hc hI hN=>Mr W tv bv pv cv s x hl hb hp hc hI hN)
   go_wp2_with fail
   refine(BG.out w2 ((HX0.out.tr hx1).tr hx2)).mono ?_;rintro e w3 ⟨u,rfl,hu,hx3⟩;obtain⟨ua,uc,_,_,rfl,_⟩:=hu.forms;have HBX:=hid (show aA9 (w.heap.size+1) (w3.alloc (.cells #[aA aB 0,aA aB 0,aE ua l.length uc,aE aD 0 0] 25)) w3.heap.size ⟨0,0,l,[]⟩ (aE ua l.length uc) (aE aD 0 0) from ⟨heap_alloc_new w3 _,(hu.sink (by have:=(hx1.tr hx2).size;simpa using this)).later ((Ext.rf w3).al _)⟩);have HAV:=hid (fun(W:World) (h:Ext w3 W)=>(hacts.mono hx3).mono h);have HX3:=hid (((HX0.out.tr hx1).tr hx2).tr hx3);have HZ:=hid (aW (aW (aW H0.out hx1) hx2) hx3);have hsz3:w.heap.size+1<=w3.heap.size:=by have:=((hx1.tr hx2).tr hx3).size;simpa using this
   have HS3:=hid hsz3;have HRR:=hid (HR.out trivial);clear hu hx1 hx2 hx3 hacts TC RP BG HM HR hsz3;generalize hz:acts.length=z at *;have HZL:=hid hz;clear hz
   go_wp2_with fail
   go_loopw [40] (fun c wr=>∃ (k:Nat) (tv bv:Value),c=aA aB k/\k<=z/\Hid (aA9 (w.heap.size+1) wr w3.heap.size (vK ⟨0,0,l,[]⟩ (acts.take k)) tv bv)/\Ext w3 wr) (fun c _=>z - (intOf c).toNat)
   case atStart=>exact⟨0,_,_,rfl,aBO _,HBX,(Ext.rf w3).al _⟩
   case round=>
    obtain⟨k,tv,bv,rfl,hk,HB,hx⟩:=hrel;by_cases hlt:k < z
    ·have hlt':(k:Int) < (z:Int):=by omega
     have hdl:=deT hlt';obtain⟨x,hxk⟩:=bT (f:=acts) (k:=k) (by rw[HZL.out];exact hlt);obtain⟨b,off,pv,cv,rfl,hbl,hp,hc,hI,hK,hN,e0,e1,e2,e3,e4,e5,e6,e7⟩:=aAu (HAV.out wr hx) hxk;have HDK:=hid (Rz (s:=⟨0,0,l,[]⟩) hxk);generalize vK ⟨0,0,l,[]⟩ (acts.take k)=S at *;have hl:=HB.out.st.tree;have hb:=HB.out.st.books;obtain⟨ta,tc,rfl,_,_,_⟩:=hl.form;obtain⟨ba,bc,rfl,_,_,_⟩:=hb.form;obtain⟨pa,pc,rfl,_,_,_⟩:=hp.form;obtain⟨ca,cc,rfl,_,_,_⟩:=hc.form;obtain⟨n0,n1,n2,n3⟩:=lH HB.out.box;have hxb:=(Ext.rf wr).al (.cells #[aA aB x.aJ,aA aB x.N,aA aB x.aP.aG,aA aB x.aP.aI,aA aB x.aP.aH,aA aB x.aP.aJ,aE pa x.aP.aF.length pc,aE ca x.Cap.length cc] 31);have DO:=hid (HDO.out _ _ _ _ _ S x (hl.mono hxb) (hb.mono hxb) (hp.mono hxb) (hc.mono hxb) hI hN);have hg3:w3.heap.size < wr.heap.size:=(aBy.1 HB.out.box).1;obtain⟨S',er,hd⟩:∃ S' er,doR S x=(S',er):=⟨_,_,rfl⟩;rw[hd] at DO;have HD1:=hid (fun(h:er=0)=>(show sE S x=S' from by unfold sE;rw[hd,if_pos h]));have HD2:=hid (fun(h:er≠0)=>(show sE S x=S from by unfold sE;rw[hd,if_neg h]));have HSX:=hid (hx.tr hxb);have HXB:=hid hxb;have hszb:=hxb.size;have HSZB:=hid hszb;clear hd hszb;clear hp hc hl hb
     go_wp2_with fail
     refine DO.out.mono ?_;rintro e w5 ⟨u5,v5,rfl,hS5,hx5⟩;obtain⟨fa,fc,ga,gc,rfl,rfl⟩:=hS5.forms;have hxc:=(Ext.rf w5).al (.cells #[aA aB S'.aL,aA aB S'.aM,aE fa S'.aN.length fc,aE ga S'.aK.length gc] 25);have HS6:=hid (hS5.later hxc);have HX6:=hid ((HSX.out.tr hx5).tr hxc);have HX66:=hid ((HXB.out.tr hx5).tr hxc);clear hS5 hx5 hxc hxb hx DO;by_cases hz0:er=0
     ·subst hz0;have HB6:=hid (aW HB.out.box HX66.out);have HP:=hid (HS6.out.put (r:=w3.heap.size) (B2:=w.heap.size+1) (by have:=HSZB.out;omega) (by have:=HSZB.out;have:=HS3.out;omega) #[aA aB S'.aL,aA aB S'.aM,aE fa S'.aN.length fc,aE ga S'.aK.length gc]);have HR6:=hid (setRow_heap _ w3.heap.size _ #[aA aB S'.aL,aA aB S'.aM,aE fa S'.aN.length fc,aE ga S'.aK.length gc] _ _ HB6.out)
      go_wp2_with (refine wpList_store_row rfl 25 _ _ rfl w3.heap.size #[aA aB S'.aL,aA aB S'.aM,aE fa S'.aN.length fc,aE ga S'.aK.length gc] rfl rfl 25 _ HB6.out size25 rfl (by simp[aBz]) ?_)
      go_roundw
      case rel=>exact⟨k+1,_,_,by go_num,by omega,hid (by rw[HDK.out,HD1.out trivial];exact⟨HR6.out,HP.out⟩),HX6.out.sr (aBq _) _⟩
      case measure=>simp[intOf];omega
     ·have hne:=neT hz0;have hz0':=eqF hz0;have HB6:=hid (HB.out.ext HX66.out)
      go_wp2_with fail
      go_roundw
      case rel=>exact⟨k+1,_,_,by go_num,by omega,hid (by rw[HDK.out,HD2.out hz0];exact HB6.out),HX6.out⟩
      case measure=>simp[intOf];omega
    ·obtain rfl:k=z:=by omega
     have hno:¬ (k:Int) < (k:Int):=by omega
     have hdl:=deF hno;have hkt:acts.take k=acts:=by rw[<- HZL.out,List.take_length]
     rw[hkt] at HB;have HTK:=hid hkt;clear hkt;generalize vK ⟨0,0,l,[]⟩ acts=S at *;have hl:=HB.out.st.tree;have hb:=HB.out.st.books;obtain⟨ta,tc,rfl,_,_,_⟩:=hl.form;obtain⟨ba,bc,rfl,_,_,_⟩:=hb.form;obtain⟨n0,n1,n2,n3⟩:=lH HB.out.box;have HZE:=hid (aW HZ.out hx);have HXE:=hid ((HX3.out.tr hx).sr (b:=w.heap.size) (aBq _) #[aA aB S.aL,aA aB S.aM,aE ta S.aN.length tc,aE ba S.aK.length bc]);have HRE:=hid (setRow_heap wr w.heap.size _ #[aA aB S.aL,aA aB S.aM,aE ta S.aN.length tc,aE ba S.aK.length bc] _ _ HZE.out);have HPE:=hid (HB.out.st.put (r:=w.heap.size) (B2:=w.heap.size) (by omega) (by omega) #[aA aB S.aL,aA aB S.aM,aE ta S.aN.length tc,aE ba S.aK.length bc]);clear hl hb
     go_wp2_with (refine wpList_store_row rfl 25 _ _ rfl w.heap.size #[aA aB S.aL,aA aB S.aM,aE ta S.aN.length tc,aE ba S.aK.length bc] rfl rfl 25 _ HZE.out size25 rfl (by simp[aBz]) ?_)
     exact bodyPost_ret (bH (u1:=5) (u2:=6) rfl _ _ w.heap.size 25 #[aA aB S.aL,aA aB S.aM,aE ta S.aN.length tc,aE ba S.aK.length bc] (0,0) _ rfl HRE.out underlying25 rfl size25) rfl (zP HRR.out HPE.out.tree HPE.out.books HXE.out)
  ·have hne:=neT hc;have HB:=hid (aW (aW H0.out hx1) hx2);have HXE:=hid (((HX0.out.tr hx1).tr hx2).sr (b:=w.heap.size) (aBq _) #[aA aB 0,aA aB 0,aE aD 0 0,aE aD 0 0]);have HB2:=hid (setRow_heap w2 w.heap.size _ #[aA aB 0,aA aB 0,aE aD 0 0,aE aD 0 0] _ _ HB.out)
   go_wp2_with (refine wpList_store_row rfl 25 _ _ rfl w.heap.size #[aA aB 0,aA aB 0,aE aD 0 0,aE aD 0 0] rfl rfl 25 #[aA aB 0,aA aB 0,aE aD 0 0,aE aD 0 0] HB.out size25 rfl (by simp[aBz]) ?_)
   exact bodyPost_ret (bH (u1:=5) (u2:=6) rfl _ _ w.heap.size 25 #[aA aB 0,aA aB 0,aE aD 0 0,aE aD 0 0] (0,0) _ rfl HB2.out underlying25 rfl size25) rfl (zP (s:=fA) (HM.out hc) SV.nil SV.nil HXE.out)
 ·have HR:=hid (Hq (q:=gO t) h0);have hne:=neT h0;clear h0;generalize gO t=q at *;generalize str t=T at *;generalize l.length=n at *;generalize bM l=ce at *;go_enter func25,ntmps25
  go_wp2_with fail
  refine(TC.out _ HX0.out).mono ?_;rintro e w1 ⟨rfl,hx1⟩;have HB:=hid (aW H0.out hx1);have HXE:=hid ((HX0.out.tr hx1).sr (b:=w.heap.size) (aBq _) #[aA aB 0,aA aB 0,aE aD 0 0,aE aD 0 0]);have HB2:=hid (setRow_heap w1 w.heap.size _ #[aA aB 0,aA aB 0,aE aD 0 0,aE aD 0 0] _ _ HB.out)
  go_wp2_with (refine wpList_store_row rfl 25 _ _ rfl w.heap.size #[aA aB 0,aA aB 0,aE aD 0 0,aE aD 0 0] rfl rfl 25 #[aA aB 0,aA aB 0,aE aD 0 0,aE aD 0 0] HB.out size25 rfl (by simp[aBz]) ?_)
  exact bodyPost_ret (bH (u1:=5) (u2:=6) rfl _ _ w.heap.size 25 #[aA aB 0,aA aB 0,aE aD 0 0,aE aD 0 0] (0,0) _ rfl HB2.out underlying25 rfl size25) rfl (zP (s:=fA) (HR.out) SV.nil SV.nil HXE.out)
def u8 (n:Int):UInt8:=UInt8.ofNat n.toNat
def aB3 (x:dE):List UInt8:=(iL x).map u8
theorem wV {x:dE} (h:(iL x).any lO=false) (h2:x.aP.aF.length<=3) (h3:x.Cap.length<=48):mG x=(str (aB3 x),0):=Iq h (by omega)
def lgA:dE:=⟨1,0,lM 4,[]⟩
def lgB:dE:=⟨3,3,⟨0,0,0,0,[]⟩,[]⟩
def lgC:dE:=⟨0,256,⟨0,0,0,0,[]⟩,[]⟩
def lgD:dE:=⟨0,0,⟨0,0,0,0,[]⟩,[]⟩
def tA:List UInt8:=[1,0,3,2,30,4,2,4,3,5,6,0]
def tB:List UInt8:=[3,3,0,0,0,0,0,0]
theorem wrA:mG lgA=(str tA,0):=by rw[wV (by decide) (by decide) (by decide)];rfl
theorem wrB:mG lgB=(str tB,0):=by rw[wV (by decide) (by decide) (by decide)];rfl
theorem wrC:mG lgC=(ByteArray.empty,3):=Cz (by decide)
theorem repA:gO (tA++tB++[1])=([lgA,lgB],20,0):=by rw[vW (by decide)];rfl
theorem repB:gO (tA++tB)=([lgA,lgB],20,0):=by rw[vW (by decide)];rfl
def Lt:aV:=⟨0,0,eJ 10 0 6,[]⟩
theorem nilV:aZ Lt=0:=aB4
def aAX:List Run:=[⟨0,8⟩,⟨20,4⟩]
theorem Wr:bN (gX (eJ 10 0 6) [] 3)=aAX:=by decide +kernel
theorem Yd:bX (lM 4):=by decide +kernel
theorem Ye:cK (kB Lt (lM 4)) (lM 4)=[⟨0,2⟩,⟨1,6⟩]:=by
 show cK (sp (bN (gX (eJ 10 0 6) [] 3))) (lM 4)=_;rw[Wr,lN rfl];decide +kernel
theorem mayP:lY Lt (lM 4)=0:=Cs nilV (Lh Rx Yd (by decide)) (by decide)
def sW:List aT:=[⟨0,lM 4,[⟨0,2⟩,⟨1,6⟩]⟩]
theorem subP:dC Lt (lM 4)=(⟨0,1,eJ 10 0 6,sW⟩,0,0):=by
 rw[rC mayP (by show ¬ ((0:Nat)=12\/(0:Int)=1048576);decide) (by rw[Ye];decide),Ye];rfl
theorem oneV:aZ ⟨0,1,eJ 10 0 6,sW⟩=0:=(Kw subP).1
theorem stayP:kF 3 sW=sW:=by
 have hb:=(eF (cS (cL oneV).1).1).2.2.2;have h1:=Ly (hb ⟨0,lM 4,[⟨0,2⟩,⟨1,6⟩]⟩ (by simp[sW])) 3;rw[show fY (fS (⟨0,lM 4,[⟨0,2⟩,⟨1,6⟩]⟩:aT).aP (⟨0,lM 4,[⟨0,2⟩,⟨1,6⟩]⟩:aT).aO) ((⟨0,lM 4,[⟨0,2⟩,⟨1,6⟩]⟩:aT).aO.length - 1)=11 by decide +kernel] at h1;unfold kF sW;rw[List.filter_cons,h1];rfl
theorem tickP:iC ⟨0,1,eJ 10 0 6,sW⟩ 3=(⟨3,1,eJ 10 0 6,sW⟩,0,0):=by
 rw[Dg oneV (by decide) (by show ¬ (3:Int) < 0;decide)];show (aV.mk 3 1 (eJ 10 0 6) (kF 3 sW),(sW.length:Int) - ((kF 3 sW).length:Int),(0:Int))=_;rw[stayP];rfl
theorem doneP:vK Lt [lgA,lgB]=⟨3,1,eJ 10 0 6,sW⟩:=by
 have h1:sE Lt lgA=⟨0,1,eJ 10 0 6,sW⟩:=by
  unfold sE;rw[Zk rfl,show dC Lt lgA.aP=_ from subP];rfl
 have h2:sE ⟨0,1,eJ 10 0 6,sW⟩ lgB=⟨3,1,eJ 10 0 6,sW⟩:=by
  unfold sE;rw[Zj rfl,show iC ⟨0,1,eJ 10 0 6,sW⟩ lgB.N=_ from tickP];rfl
 show sE (sE Lt lgA) lgB=_;rw[h1,h2]
theorem recP:lL (eJ 10 0 6) (gO (tA++tB))=(⟨3,1,eJ 10 0 6,sW⟩,2,0):=by
 rw[repB,Aq Rx rfl];show (vK Lt [lgA,lgB],((2:Nat):Int),(0:Int))=_;rw[doneP];rfl
theorem doNo {s:aV}:doR s lgD=(fA,7):=Sa (by decide) (by decide) (by decide) (by decide)
theorem Gb {w:World} {pv cv:Value} {x:dE} {T:ByteArray} {c:Int} (h:mG x=(T,c)) (hp:aU w pv x.aP.aF) (hc:bC w cv x.Cap) (hI:I64 x.aP.aG/\I64 x.aP.aI/\I64 x.aP.aH/\I64 x.aP.aJ) (hK:I64 x.aJ) (hN:I64 x.N) :
  Calls prog 20 #[.agg #[aA aB x.aJ,aA aB x.N,aA aB x.aP.aG,aA aB x.aP.aI,aA aB x.aP.aH,aA aB x.aP.aJ,pv,cv]] w fun e w'=>e=.returned (.tuple #[.string T,aA aB c])/\Ext w w':=by
 have:=Xc w pv cv x hp hc hI hK hN;rwa [h] at this
theorem Xj {w:World} {t:List UInt8} {T:ByteArray} {l:List dE} {n c:Int} (ht:str t=T) (h:gO t=(l,n,c)) :
  Calls prog 22 #[.string T] w fun e w'=>∃ v,e=.returned (.tuple #[v,aA aB n,aA aB c])/\Ca w' v l/\Ext w w':=by
 have:=Gh w t;rwa [h,ht] at this
theorem Td {w:World} {v:Value} {l:List Queue} {t:List UInt8} {T:ByteArray} {S:aV} {n c:Int} (ht:str t=T) (h:lL l (gO t)=(S,n,c)) (hv:aX w v l) :
  Calls prog 25 #[v,.string T] w fun e w'=>∃ u v,e=.returned (.tuple #[.agg #[aA aB S.aL,aA aB S.aM,u,v],aA aB n,aA aB c])/\aX w' u S.aN/\bD w' v S.aK/\Ext w w':=by
 have:=Pt w v l t hv;rwa [h,ht] at this
theorem vH (w:World):Calls prog 11 #[] w fun e w'=>e=.returned (.bool true)/\Ext w w':=by
 have hv10:I64 (10:Int):=i64_small' (by decide) (by decide);have I0:I64 (0:Int):=i64_small' (by decide) (by decide);have IP:I64 (lM 4).aG/\I64 (lM 4).aI/\I64 (lM 4).aH/\I64 (lM 4).aJ:=⟨i64_small' (by decide) (by decide),i64_small' (by decide) (by decide),i64_small' (by decide) (by decide),i64_small' (by decide) (by decide)⟩;have eA:str tA++str tB++(⟨#[1]⟩:ByteArray)=str (tA++tB++[1]):=by decide +kernel
 have eB:str tA++str tB=str (tA++tB):=by decide +kernel
 have sA:(str tA).size=12:=rfl;have sB:(str tB).size=8:=rfl;have EA:=hid eA;have EB:=hid eB;have SA:=hid sA;have SB:=hid sB;clear eA eB sA sB;have WA:=hid (fun(W:World) (pv:Value) (hp:aU W pv Ar)=>Gb (w:=W) (pv:=pv) (cv:=aE aD 0 0) wrA hp SV.nil IP (i64_small' (by decide) (by decide)) I0);have WB:=hid (fun(W:World)=>Gb (w:=W) (pv:=aE aD 0 0) (cv:=aE aD 0 0) wrB SV.nil SV.nil ⟨I0,I0,I0,I0⟩ (i64_small' (by decide) (by decide)) (i64_small' (by decide) (by decide)));have WC:=hid (fun(W:World)=>Gb (w:=W) (pv:=aE aD 0 0) (cv:=aE aD 0 0) wrC SV.nil SV.nil ⟨I0,I0,I0,I0⟩ I0 (i64_small' (by decide) (by decide)));have RA:=hid (fun(W:World) (T:ByteArray) (h:str (tA++tB++[1])=T)=>Xj (w:=W) h repA);have RB:=hid (fun(W:World) (T:ByteArray) (v:Value) (h:str (tA++tB)=T) (hv:aX W v (eJ 10 0 6))=>Td (w:=W) h recP hv);have DD:=hid (fun(W:World) (tv bv:Value) (hl:aX W tv (eJ 10 0 6)) (hb:bD W bv Uf)=>Mr W tv bv (aE aD 0 0) (aE aD 0 0) (farmS 10) lgD hl hb SV.nil SV.nil ⟨I0,I0,I0,I0⟩ I0);obtain⟨TA,hTA⟩:∃ T,str tA=T:=⟨_,rfl⟩;obtain⟨TB,hTB⟩:∃ T,str tB=T:=⟨_,rfl⟩;rw[hTA] at WA EA EB SA;rw[hTB] at WB EA EB SB;clear hTA hTB IP;go_enter func11,ntmps11
 go_wp2_with fail
 refine(Nv _ 4).mono ?_;rintro e w1 ⟨pb,rfl,hpv,hx1⟩;have CA:=hid (WA.out w1 _ hpv);have X1:=hid hx1;clear hpv hx1 WA
 go_wp2_with fail
 refine CA.out.mono ?_;rintro e w2 ⟨rfl,hx2⟩;have X2:=hid (X1.out.tr hx2);clear hx2 X1 CA
 go_wp2_with fail
 refine(WB.out _).mono ?_;rintro e w3 ⟨rfl,hx3⟩;have X3:=hid (X2.out.tr hx3);have ha1:=run_string_add_sum (P:=prog) w3 TA TB (by rw[SA.out,SB.out];decide);have ha2:=run_string_add_sum (P:=prog) w3 (TA++TB) ⟨#[1]⟩ (by rw[ByteArray.size_append,SA.out,SB.out];decide);clear hx3 X2 WB
 go_wp2_with fail
 refine(RA.out _ _ EA.out.symm).mono ?_;rintro e w4 ⟨av,rfl,hav,hx4⟩;have X4:=hid (X3.out.tr hx4);obtain⟨aa,ac,h,_,_,_⟩:=hav.form;have h':av=aE aa 2 ac:=h;clear h;subst h';clear hx4 hav X3 RA
 go_wp2_with fail
 refine(Kd _).mono ?_;rintro e w5 ⟨rfl,FA,hx5⟩;have CB:=hid (RB.out w5 _ _ EB.out.symm (FA.v hv10 I0 (i64_small' (by decide) (by decide))));have X5:=hid (X4.out.tr hx5);have ha3:=run_string_add_sum (P:=prog) w5 TA TB (by rw[SA.out,SB.out];decide);clear FA hx5 X4 RB
 go_wp2_with fail
 refine CB.out.mono ?_;rintro e w6 ⟨u,v,rfl,hu,hv,hx6⟩;obtain⟨ua,uc,h,_,_,_⟩:=hu.form;have h':u=aE ua 4 uc:=h;clear h;subst h';obtain⟨va,vc,h,_,_,_⟩:=hv.form;have h':v=aE va 1 vc:=h;clear h;subst h';have X6:=hid (X5.out.tr hx6);have N6:=hid (fun(V:World) (h:Ext (w6.alloc (.cells #[aA aB 3,aA aB 1,aE ua 4 uc,aE va 1 vc] 25)) V)=>sZ h);have XA6:=hid (X6.out.tr ((Ext.rf w6).al (.cells #[aA aB 3,aA aB 1,aE ua 4 uc,aE va 1 vc] 25)));clear hu hv hx6 X5 CB X6
 go_wp2_with fail
 refine(WC.out _).mono ?_;rintro e w7 ⟨rfl,hx7⟩;have X7:=hid (XA6.out.tr hx7);have Q7:=hid hx7;clear hx7 WC
 go_wp2_with fail
 refine(Zg _).mono ?_;rintro e w8 ⟨F,G,p1,q1,r1,s1,rfl,_,FA,hx8⟩;have CD:=hid (DD.out w8 _ _ (FA.tree hv10) FA.books);have X8:=hid (X7.out.tr hx8);have Q8:=hid (Q7.out.tr hx8);clear FA hx8 DD X7 Q7;rw[doNo] at CD
 go_wp2_with fail
 refine(vV CD.out).mono ?_;rintro e w9 ⟨u,v,h,hu,hv,hx9⟩;obtain⟨a9,c9,h2,_,_,_⟩:=hu.form;have h2':u=aE a9 0 c9:=h2;obtain⟨b9,d9,h3,_,_,_⟩:=hv.form;have h3':v=aE b9 0 d9:=h3;clear h2 h3;subst h2' h3';have h':e=.returned (.tuple #[.agg #[aA aB 0,aA aB 0,aE a9 0 c9,aE b9 0 d9],aA aB 7]):=h;clear h;subst h';have hal:=(Ext.rf w9).al (.cells #[aA aB 0,aA aB 0,aE a9 0 c9,aE b9 0 d9] 25);have X9:=hid (X8.out.tr (hx9.tr hal));obtain⟨n0,n1,n2,n3⟩:=N6.out _ (Q8.out.tr (hx9.tr hal));have sa:(TA.size:Int)=12:=by rw[SA.out];rfl
 have sb:(TB.size:Int)=8:=by rw[SB.out];rfl
 clear hu hv hx9 hal CD N6 Q8 X8 EA EB XA6
 go_wp2_with fail
 go_ret;exact⟨rfl,X9.out⟩
def aBh (w:World) (v:Value) (x:dE):Prop:=∃ cs,v=.agg cs.toArray/\uE w cs x
theorem wR {W:World} {B:Nat} {t:TypeId} {a b c d e f g h:Value} (hh:W.heap[B]?=aC (.cells #[a,b,c,d,e,f,g,h] t (0,0))) :
  W.cell? ⟨B,0,aD⟩=aC a/\W.cell? ⟨B,1,aD⟩=aC b/\W.cell? ⟨B,2,aD⟩=aC c/\W.cell? ⟨B,3,aD⟩=aC d/\W.cell? ⟨B,4,aD⟩=aC e/\W.cell? ⟨B,5,aD⟩=aC f/\W.cell? ⟨B,6,aD⟩=aC g/\W.cell? ⟨B,7,aD⟩=aC h:=
 ⟨cell_of_row W B 0 _ _ _ hh,cell_of_row W B 1 _ _ _ hh,cell_of_row W B 2 _ _ _ hh,cell_of_row W B 3 _ _ _ hh,cell_of_row W B 4 _ _ _ hh,cell_of_row W B 5 _ _ _ hh,cell_of_row W B 6 _ _ _ hh,cell_of_row W B 7 _ _ _ hh⟩
theorem Do_is {w:World} {tv bv pv cv:Value} {s S:aV} {x:dE} {er:Int} (h:doR s x=(S,er)) (hl:aX w tv s.aN) (hb:bD w bv s.aK) (hp:aU w pv x.aP.aF) (hc:bC w cv x.Cap) (hI:I64 x.aP.aG/\I64 x.aP.aI/\I64 x.aP.aH/\I64 x.aP.aJ) (hN:I64 x.N) :
  Calls prog 13 #[.agg #[aA aB s.aL,aA aB s.aM,tv,bv],.agg #[aA aB x.aJ,aA aB x.N,aA aB x.aP.aG,aA aB x.aP.aI,aA aB x.aP.aH,aA aB x.aP.aJ,pv,cv]] w fun e w'=>∃ u v,e=.returned (.tuple #[.agg #[aA aB S.aL,aA aB S.aM,u,v],aA aB er])/\aX w' u S.aN/\bD w' v S.aK/\Ext w w':=
 vV (h▸Mr w tv bv pv cv s x hl hb hp hc hI hN)
theorem aAD {w:World} {tv bv pv cv:Value} {s S:aV} {x:dE} {er:Int} (h:doR s x=(S,er)) (hl:aX w tv s.aN) (hb:bD w bv s.aK) (hp:aU w pv x.aP.aF) (hc:bC w cv x.Cap) (hI:I64 x.aP.aG/\I64 x.aP.aI/\I64 x.aP.aH/\I64 x.aP.aJ) (hN:I64 x.N) :
  Calls prog 15 #[.agg #[aA aB s.aL,aA aB s.aM,tv,bv],.agg #[aA aB x.aJ,aA aB x.N,aA aB x.aP.aG,aA aB x.aP.aI,aA aB x.aP.aH,aA aB x.aP.aJ,pv,cv]] w fun e w'=>∃ u v,e=.returned (.tuple #[.agg #[aA aB S.aL,aA aB S.aM,u,v],aA aB er])/\aX w' u S.aN/\bD w' v S.aK/\Ext w w':=
 vV (h▸aA8 w tv bv pv cv s x hl hb hp hc hI hN)
theorem Np (w:World) (a b c d:Value) (a0 a1 a2 a3 a4 a5 a6 a7:Value):∃ W,(w.alloc (.cells #[a,b,c,d] 25)).alloc (.cells #[a0,a1,a2,a3,a4,a5,a6,a7] 31)=W/\Ext w W/\
  W.heap[w.heap.size]?=aC (.cells #[a,b,c,d] 25 (0,0))/\W.heap[w.heap.size+1]?=aC (.cells #[a0,a1,a2,a3,a4,a5,a6,a7] 31 (0,0))/\W.heap.size=w.heap.size+2:=by
 have h:=heap_alloc_new (w.alloc (.cells #[a,b,c,d] 25)) (.cells #[a0,a1,a2,a3,a4,a5,a6,a7] 31);rw[aCl] at h;exact⟨_,rfl,((Ext.rf w).al _).al _,aW (heap_alloc_new w _) ((Ext.rf _).al _),h,by simp⟩
open Go.RowKit Go.ChangeShapes Go.WideShapes Go.Deep
theorem Sd:prog.cellsOf 31=8:=by kernel_rfl
instance:Inhabited dE:=⟨⟨0,0,⟨0,0,0,0,[]⟩,[]⟩⟩
section
variable {H:Type} {enc:TypeId × Value->H} {W:World} {base:Nat} {spare:Nat->Bool} {held:Bool}
theorem Vr {fuel:Nat} {cs:List Value} {x:DataW H × List MemPlace} (h:DataW.trod enc prog W base spare held fuel 31 cs=some x) (hw:∀ n∈x.1.weights prog 31,n<=reachBytes) (hz:W.noneFrozen x.2):∃ y,uE W cs y:=by
 obtain⟨y0,y1,y2,y3,n,rfl,hl,h0,h1,h2,h3⟩:=vC underlying31 h;rw[Sd] at hl
 match cs,hl with
 | [c0,c1,c2,c3,c4,c5,c6,c7],_=>
  simp only[lE,wP,Fu,aCO,aCP,aCQ,aCR] at h0 h1 h2 h3;obtain⟨n0,e0,_,w0⟩:=DataW.trod_int underlying3 h0;obtain⟨n1,e1,_,w1⟩:=DataW.trod_int underlying3 h1;simp only[List.cons.injEq,and_true] at e0 e1;subst e0 e1;obtain⟨r,pv,hr,hp,i1,i2,i3,i4⟩:=Jh h2 (fun k hk=>hw k (by
   simp only[DataW.weights,underlying31,aCu,aCS,DataW.weightsEach,aBm];exact .inr (.inr (.inl hk)))) (sX hz fun p hp=>by simp[hp])
  obtain⟨xs,hxs⟩:=Jg h3 (fun k hk=>hw k (by
   simp only[DataW.weights,underlying31,aCu,aCS,DataW.weightsEach,aBm];exact .inr (.inr (.inr (.inl hk))))) (sX hz fun p hp=>by simp[hp])
  simp only[List.cons.injEq,and_true] at hr;obtain⟨rfl,rfl,rfl,rfl,rfl⟩:=hr;exact⟨⟨n0,n1,r,xs⟩,_,_,rfl,hp,hxs,⟨i1,i2,i3,i4⟩,I64.of_wf w0,I64.of_wf w1⟩
theorem Yk {r:Reach} {b0:Nat} {v:Value} {d:DataW H} {p:List MemPlace} (hv:Value.okWide prog W r b0 31 v) (h:DataW.Trod enc prog W base spare held 31 v d p) (hw:∀ n∈d.weights prog 31,n<=reachBytes) (hz:W.noneFrozen p):∃ x,aBh W v x:=by
 obtain⟨cs,rfl,hsz⟩:=okWide_struct underlying31 hv;obtain⟨fuel,hf⟩:=h;obtain⟨x,hx⟩:=Vr (cs:=cs.toList) (by simpa[Value.cells] using hf) hw hz;exact⟨x,cs.toList,by simp,hx⟩
end
open Go.RowKit Go.Deep
def aA2 (W W':World):Prop:=W.heap.size<=W'.heap.size/\∀ b o n,W.there b o n->W'.there b o n
theorem oC (W:World) (b o:Nat) (vs:List Value):aA2 W (W.setCells b o vs):=
 ⟨(eV W b vs o).size,fun b' o' n h=>aDU h b o vs⟩
theorem qL {W W':World} (h:Ext W W'):aA2 W W':=⟨h.size,fun b o n ht j hj=>by
 obtain⟨u,hu⟩:=aDV.1 (ht j hj).1;have hb:=aBx _ _ hu;exact⟨by rw[h.ce hb,hu];rfl,(aDQ (a:=⟨b,o+j,aD⟩) (h.block b hb)).trans (ht j hj).2⟩⟩
theorem Qi {W:World} {b o n o' n':Nat} (h:W.there b o n) (h1:o<=o') (h2:o'+n'<=o+n):W.there b o' n':=fun j hj=>by
 have:=h (o' - o+j) (by omega)
 rwa [show o+(o' - o+j)=o'+j by omega] at this
def jE (W:World) (B:Nat) (ex:List Nat) (n sz:Nat) (v:Value):Prop:=
 ∃ a c,v=aE a n c/\n<=17592186044416/\(n≠0->∃ b o,a=aC ⟨b,o,aD⟩/\B<=b/\b∉ex/\b < W.heap.size/\W.there b o (n*sz))
theorem jE.mono {W W':World} {B n sz:Nat} {ex:List Nat} {v:Value} (h:jE W B ex n sz v) (k:aA2 W W'):jE W' B ex n sz v:=by
 obtain⟨a,c,h1,h2,h3⟩:=h;refine⟨a,c,h1,h2,fun h=>?_⟩;obtain⟨b,o,r1,r2,r3,r4,r5⟩:=h3 h;exact⟨b,o,r1,r2,r3,aBA r4 k.1,k.2 _ _ _ r5⟩
theorem jE.past {W:World} {B n sz r:Nat} {ex:List Nat} {v:Value} (h:jE W B ex n sz v) (hr:W.heap.size<=r):jE W B (ex++[r]) n sz v:=by
 obtain⟨a,c,h1,h2,h3⟩:=h;refine⟨a,c,h1,h2,fun h=>?_⟩;obtain⟨b,o,r1,r2,r3,r4,r5⟩:=h3 h;refine⟨b,o,r1,r2,fun hm=>?_,r4,r5⟩;rcases aBm.1 hm with h | h
 ·exact r3 h
 ·have:=aCB.1 h;omega
theorem SV.free {α:Type} {sz:Nat} {E:World->Nat->Nat->α->Prop} {W:World} {v:Value} {xs:List α} {B:Nat} {ex:List Nat} (hE:∀ b o x,E W b o x->∀ j,j < sz->(W.cell? ⟨b,o+j,aD⟩).isSome=true) (hsz:0 < sz)
  (h:SV sz E W v xs) (hB:∀ a n c,v=aE (aC a) n c->B<=a.block/\a.block∉ex):jE W B ex xs.length sz v:=by
 rcases h with ⟨rfl,a,c,rfl,_⟩ | ⟨b,off,cap,rfl,h1,h2,h3,hL,h5⟩
 ·exact⟨a,c,rfl,by simp,fun h=>absurd rfl h⟩
 ·refine⟨_,cap,rfl,h3,fun h0=>?_⟩;obtain⟨q1,q2⟩:=hB _ _ _ rfl;refine⟨b,off,rfl,q1,q2,hL.1,fun j hj=>⟨?_,hL.2.out _ (by omega) (by omega)⟩⟩;have hk:j / sz < xs.length:=(Nat.div_lt_iff_lt_mul hsz).2 hj;have:=hE b _ _ (h5 _ _ (List.getElem?_eq_getElem hk)) (j % sz) (Nat.mod_lt _ hsz)
  rwa [Nat.add_assoc,aDW] at this
theorem wZ {W:World} {b o:Nat} {u v:Value} (h1:W.cell? ⟨b,o,aD⟩=aC u) (h2:W.cell? ⟨b,o+1,aD⟩=aC v):∀ j,j < 2->(W.cell? ⟨b,o+j,aD⟩).isSome=true:=fun j hj=>by
 rcases(by omega:j=0\/j=1) with rfl | rfl
 ·show (W.cell? ⟨b,o,aD⟩).isSome=true;rw[h1];rfl
 ·rw[h2];rfl
theorem St {B:Nat} {ex bs:List Nat} {v:Value} (h:bU bs v) (hB:∀ r,r < B->r∈bs) (hx:∀ r∈ex,r∈bs):∀ a n c,v=aE (aC a) n c->B<=a.block/\a.block∉ex:=fun a n c e=>
 ⟨aDX fun hl=>h a n c e (hB _ hl),fun hm=>h a n c e (hx _ hm)⟩
def uD (W:World) (B g gb tb:Nat) (ns ms:Nat->Nat) (k z:Nat):Prop:=
 (z≠0->B<=gb/\gb≠g/\gb≠tb/\W.there gb 0 (z*7))/\∀ j,k<=j->j < z->∃ pv bv,W.cell? ⟨gb,j*7+5,aD⟩=aC pv/\jE W B [gb,g,tb] (ns j) 2 pv/\W.cell? ⟨gb,j*7+6,aD⟩=aC bv/\jE W B [gb,g,tb] (ms j) 2 bv
def pO (W:World) (B g tb:Nat) (cs:Nat->Nat) (k z:Nat):Prop:=
 (z≠0->B<=g/\g≠tb/\W.there g 0 (z*3))/\∀ j,k<=j->j < z->∃ cv,W.cell? ⟨g,j*3+2,aD⟩=aC cv/\jE W B [g,tb] (cs j) 2 cv
theorem nM {W:World} {b o b' o':Nat} {v:Value} {vs:List Value} (h:W.cell? ⟨b',o',aD⟩=aC v) (hn:b'≠b\/o' < o\/o+vs.length<=o'):(W.setCells b o vs).cell? ⟨b',o',aD⟩=aC v:=by
 rw[World.cell?_setCells_out b vs o W ⟨b',o',aD⟩ (fun hb _=>by
  rcases hn with h | h
  ·exact absurd hb h
  ·exact h)]
 exact h
theorem uD.put {W:World} {B g gb tb k z k2 b o:Nat} {ns ms:Nat->Nat} {vs:List Value} (h:uD W B g gb tb ns ms k z) (hk:k<=k2) (hn:b≠gb\/(vs.length=7/\o=k*7/\k2=k+1)):uD (W.setCells b o vs) B g gb tb ns ms k2 z:=by
 refine⟨fun h0=>?_,fun j h1 h2=>?_⟩
 ·obtain⟨q1,q2,q3,q4⟩:=h.1 h0;exact⟨q1,q2,q3,aDU q4 b o vs⟩
 ·obtain⟨pv,bv,r1,r2,r3,r4⟩:=h.2 j (by omega) h2;have hh:∀ i,gb≠b\/j*7+i < o\/o+vs.length<=j*7+i:=fun i=>by
   rcases hn with h | ⟨h3,h4,h5⟩
   ·exact .inl (fun e=>h e.symm)
   ·exact .inr (.inr (by omega))
  exact⟨pv,bv,nM r1 (hh 5),r2.mono (oC W b o vs),nM r3 (hh 6),r4.mono (oC W b o vs)⟩
theorem pO.put {W:World} {B g tb k z k2 b o:Nat} {cs:Nat->Nat} {vs:List Value} (h:pO W B g tb cs k z) (hk:k<=k2) (hn:b≠g\/(vs.length=3/\o=k*3/\k2=k+1)):pO (W.setCells b o vs) B g tb cs k2 z:=by
 refine⟨fun h0=>?_,fun j h1 h2=>?_⟩
 ·obtain⟨q1,q2,q4⟩:=h.1 h0;exact⟨q1,q2,aDU q4 b o vs⟩
 ·obtain⟨cv,r1,r2⟩:=h.2 j (by omega) h2;refine⟨cv,nM r1 ?_,r2.mono (oC W b o vs)⟩;rcases hn with h | ⟨h3,h4,h5⟩
  ·exact .inl (fun e=>h e.symm)
  ·exact .inr (.inr (by omega))
def RS (W0:World) (tb:Nat) (u v:Value) (W:World):Prop:=Ext W0 W/\W.cell? ⟨tb,2,aD⟩=aC u/\W.cell? ⟨tb,3,aD⟩=aC v
theorem Ug {W0 W:World} (h:Ext W0 W) {b o:Nat} (hb:W0.heap.size<=b) (vs:List Value):Ext W0 (W.setCells b o vs):=
 h.gr (v:=aE (aC ⟨b,0,aD⟩) 0 0) (eV W b vs o) (fun k hk=>by cases hk;exact hb)
theorem RS.put {W0 W:World} {tb b o:Nat} {u v:Value} (h:RS W0 tb u v W) (hb:W0.heap.size<=b) (ht:b≠tb) (vs:List Value):RS W0 tb u v (W.setCells b o vs):=
 ⟨Ug h.1 hb vs,nM h.2.1 (.inl fun e=>ht e.symm),nM h.2.2 (.inl fun e=>ht e.symm)⟩
theorem gL.tfree {bs:List Nat} {W:World} {g B tb:Nat} {l:List Queue} (h:gL bs W g l) (hB:∀ r,r < B->r∈bs) (hg:B<=g) (ht:W.heap.size<=tb):∃ cs,pO W B g tb cs 0 l.length:=by
 obtain⟨vs,h1,h2⟩:=h;have hlt:=h1.lt;have each:∀ j,j < l.length->∃ n cv,vs[j*3+2]?=aC cv/\jE W B [g,tb] n 2 cv:=fun j hj=>by
  obtain⟨x,hx⟩:=bT hj;obtain⟨_,_,_,_,cv,e,f,a⟩:=h2 j x hx;exact⟨_,cv,e,(SV.free (fun b o x h=>wZ h.1 h.2.1) (by omega) f (St (ex:=[g]) a (fun r hr=>aBl _ (hB r hr)) (fun r hr=>by rw[aCB.1 hr];exact aCw ..))).past ht⟩
 obtain⟨cs,hcs⟩:=choose_lt (α:=Nat) (p:=fun j n=>∃ cv,vs[j*3+2]?=aC cv/\jE W B [g,tb] n 2 cv) each;refine⟨cs,fun _=>⟨hg,by omega,fun j hj=>⟨?_,h1.free _⟩⟩,fun j _ hj=>?_⟩
 ·obtain⟨x,hx⟩:=bT (f:=l) (k:=j / 3) (by omega);obtain⟨a,_,c,_,cv,e,_⟩:=h2 _ x hx;rw[aBE];rcases(by omega:j=j / 3*3\/j=j / 3*3+1\/j=j / 3*3+2) with h | h | h
  ·rw[h,h1.cell a];rfl
  ·rw[h,h1.cell c];rfl
  ·rw[h,h1.cell e];rfl
 ·obtain⟨cv,e,f⟩:=hcs j hj;exact⟨cv,h1.cell e,f⟩
theorem eP.bfree {bs:List Nat} {W:World} {g gb B tb z cap:Nat} {b:List aT} (h:eP (g::bs) B W (aE (aC ⟨gb,0,aD⟩) z cap) b) (hz:b.length=z) (hB:∀ r,r < B->r∈bs) (hg:gb≠g) (ht:W.heap.size<=tb):∃ ns ms,uD W B g gb tb ns ms 0 z:=by
 obtain⟨css,h1,h2,h3,h4⟩:=h;obtain⟨hl1,hl2⟩:=h1.lt gb rfl;have hfz:∀ o,W.frozen? ⟨gb,o,aD⟩=false:=fun o=>by
  rcases h1.2 with ⟨h,_⟩ | ⟨g',cap',cur,he,_,hg,_⟩
  ·cases h
  ·cases he;exact frozen_of_row W gb o _ _ hg
 have get:∀ (k j:Nat) u,j < 7->∀ cs,css[k]?=aC cs->cs[j]?=aC u->W.cell? ⟨gb,k*7+j,aD⟩=aC u:=fun k j u hj cs hcs hu=>by
  have e:css.flatten[k*7+j]?=aC u:=by rw[Bd css h2.seven k j hj,hcs];exact hu
  have:=h1.cells (g:=gb) rfl (k*7+j) u e;rw[kN] at this
  rwa [aBE] at this
 have each:∀ j,j < z->∃ n:Nat × Nat,∃ pv bv,W.cell? ⟨gb,j*7+5,aD⟩=aC pv/\jE W B [gb,g,tb] n.1 2 pv/\W.cell? ⟨gb,j*7+6,aD⟩=aC bv/\jE W B [gb,g,tb] n.2 2 bv:=fun j hj=>by
  obtain⟨x,hx⟩:=bT (f:=b) (k:=j) (by omega);obtain⟨cs,hcs⟩:=bT (f:=css) (k:=j) (by rw[h2.len];omega);obtain⟨qs,bv,rfl,⟨pv,rfl,hp,_⟩,hb,_⟩:=h2.each j cs x hcs hx;have hm:=aBJ hcs;have ap:∀ u∈([aA aB x.Id,aA aB x.aP.aG,aA aB x.aP.aI,aA aB x.aP.aH,aA aB x.aP.aJ,pv,bv]:List Value),∀ a n c,u=aE (aC a) n c->B<=a.block/\a.block∉[gb,g]:=fun u hu a n c e=>by
   have q1:=h3 _ hm u hu a n c e;have q2:=h4 gb rfl _ hm u hu a n c e;refine⟨aDX fun hl=>q1 (aBl _ (hB _ hl)),fun hx=>?_⟩;rcases aC8.1 hx with h | h
   ·exact q2 (by rw[h];exact aCw ..)
   ·exact q1 (by rw[aCB.1 h];exact aCw ..)
  exact⟨(_,_),pv,bv,get j 5 _ (by omega) _ hcs rfl,(SV.free (fun b o x h=>wZ h.1 h.2.1) (by omega) hp (ap _ (by simp))).past ht,get j 6 _ (by omega) _ hcs rfl,(SV.free (fun b o x h=>wZ h.1 h.2.1) (by omega) hb (ap _ (by simp))).past ht⟩
 obtain⟨f,hf⟩:=choose_lt (α:=Nat × Nat) (p:=fun j n=>∃ pv bv,W.cell? ⟨gb,j*7+5,aD⟩=aC pv/\jE W B [gb,g,tb] n.1 2 pv/\W.cell? ⟨gb,j*7+6,aD⟩=aC bv/\jE W B [gb,g,tb] n.2 2 bv) each;refine⟨fun j=>(f j).1,fun j=>(f j).2,fun _=>⟨hl1,hg,by omega,fun j hj=>⟨?_,hfz _⟩⟩,fun j _ hj=>hf j hj⟩;obtain⟨x,hx⟩:=bT (f:=b) (k:=j / 7) (by omega);obtain⟨cs,hcs⟩:=bT (f:=css) (k:=j / 7) (by rw[h2.len];omega);have h7:=h2.seven cs (aBJ hcs);obtain⟨u,hu⟩:=bT (f:=cs) (k:=j % 7) (by omega);have:=get (j / 7) (j % 7) u (by omega) cs hcs hu;rw[aDW] at this;rw[aBE,this];rfl
theorem uD.ext {W W':World} {B g gb tb k z:Nat} {ns ms:Nat->Nat} (h:uD W B g gb tb ns ms k z) (hx:Ext W W'):uD W' B g gb tb ns ms k z:=by
 refine⟨fun h0=>?_,fun j h1 h2=>?_⟩
 ·obtain⟨q1,q2,q3,q4⟩:=h.1 h0;exact⟨q1,q2,q3,(qL hx).2 _ _ _ q4⟩
 ·obtain⟨pv,bv,r1,r2,r3,r4⟩:=h.2 j h1 h2;exact⟨pv,bv,hx.ce' r1,r2.mono (qL hx),hx.ce' r3,r4.mono (qL hx)⟩
theorem pO.ext {W W':World} {B g tb k z:Nat} {cs:Nat->Nat} (h:pO W B g tb cs k z) (hx:Ext W W'):pO W' B g tb cs k z:=by
 refine⟨fun h0=>?_,fun j h1 h2=>?_⟩
 ·obtain⟨q1,q2,q4⟩:=h.1 h0;exact⟨q1,q2,(qL hx).2 _ _ _ q4⟩
 ·obtain⟨cv,r1,r2⟩:=h.2 j h1 h2;exact⟨cv,hx.ce' r1,r2.mono (qL hx)⟩
theorem StS.free {W0 W1:World} {u v:Value} {S:aV} (h:StS W0.heap.size W1 u v S) (hx:Ext W0 W1) :
  ∃ ua uc va vc g gb cs ns ms,u=aE ua S.aN.length uc/\v=aE va S.aK.length vc/\(S.aN.length≠0->ua=aC ⟨g,0,aD⟩)/\(S.aK.length≠0->va=aC ⟨gb,0,aD⟩)/\S.aN.length<=5/\S.aK.length<=12/\
   ∀ W,Ext (W1.alloc (.cells #[aA aB S.aL,aA aB S.aM,u,v] 25)) W->RS W0 W1.heap.size u v W/\uD W W0.heap.size g gb W1.heap.size ns ms 0 S.aK.length/\pO W W0.heap.size g W1.heap.size cs 0 S.aN.length:=by
 have hal:=(Ext.rf W1).al (.cells #[aA aB S.aL,aA aB S.aM,u,v] 25);have box:∀ W,Ext (W1.alloc (.cells #[aA aB S.aL,aA aB S.aM,u,v] 25)) W->RS W0 W1.heap.size u v W:=fun W h=>by
  obtain⟨_,_,c2,c3⟩:=sZ h;exact⟨hx.tr (hal.tr h),c2,c3⟩
 rcases h with ⟨g,cap,rfl,h1,h2,h5,h12,hg,hs,he,hl,hc,ho,hne,hq⟩ | ⟨h1,h2,rfl,rfl⟩
 ·obtain⟨cs,hcs⟩:=hq.tfree (B:=W0.heap.size) (tb:=W1.heap.size) (fun r hr=>aD2 _ (aD2 _ (aC3.2 hr))) hg (aBq _);by_cases h0:S.aK.length=0
  ·obtain⟨css,o1,_⟩:=ho;obtain⟨va,vc,hv⟩:∃ va vc,v=aE va S.aK.length vc:=by
    rcases o1.2 with ⟨e,h⟩ | ⟨gb,cp,cur,e,_⟩
    ·exact⟨aD,0,by rw[h0];exact e⟩
    ·exact⟨_,cp,e⟩
   exact⟨aC ⟨g,0,aD⟩,cap,va,vc,g,0,cs,fun _=>0,fun _=>0,rfl,hv,fun _=>rfl,fun h=>absurd h0 h,h5,h12,fun W hW=>⟨box W hW,⟨fun h=>absurd h0 h,fun j _ hj=>by omega⟩,hcs.ext (hal.tr hW)⟩⟩
  ·obtain⟨gb,cp,rfl⟩:∃ gb cp,v=aE (aC ⟨gb,0,aD⟩) S.aK.length cp:=by
    obtain⟨css,o1,_⟩:=ho;rcases o1.2 with ⟨_,h⟩ | ⟨gb,cp,cur,e,_⟩
    ·exact absurd h h0
    ·exact⟨gb,cp,e⟩
   obtain⟨ns,ms,hb⟩:=ho.bfree (tb:=W1.heap.size) rfl (fun r hr=>aD2 _ (aC3.2 hr)) (fun e=>(hne gb rfl).1 e.symm) (aBq _);exact⟨aC ⟨g,0,aD⟩,cap,_,cp,g,gb,cs,ns,ms,rfl,rfl,fun _=>rfl,fun _=>rfl,h5,h12,fun W hW=>⟨box W hW,hb.ext (hal.tr hW),hcs.ext (hal.tr hW)⟩⟩
 ·exact⟨aD,0,aD,0,0,0,fun _=>0,fun _=>0,fun _=>0,by rw[h1];rfl,by rw[h2];rfl,fun h=>by rw[h1] at h;simp at h,fun h=>by rw[h2] at h;simp at h,by rw[h1];simp,by rw[h2];simp,fun W hW=>⟨box W hW,⟨fun h=>by rw[h2] at h;simp at h,fun j _ hj=>by rw[h2] at hj;simp at hj⟩,⟨fun h=>by rw[h1] at h;simp at h,fun j _ hj=>by rw[h1] at hj;simp at hj⟩⟩⟩
def Pr (w:World) (r:List bO × Bool × Int) (e:Ending) (w':World):Prop:=∃ u,e=.returned (.tuple #[u,.bool r.2.1,aA aB r.2.2])/\bJ w' u r.1/\jT w u/\Ext w w'
theorem pF {w w':World} {r:List bO × Bool × Int} {l:List bO} {n:Int} {b:Bool} {u:Value} (h:r=(l,b,n)) (hv:bJ w' u l) (hf:jT w u) (hx:Ext w w'):Pr w r (.returned (.tuple #[u,.bool b,aA aB n])) w':=by
 subst h;exact⟨u,rfl,hv,hf,hx⟩
theorem Xo (w:World) (v pv:Value) (f:List Run) (r:aS) (hv:bC w v f) (hp:aU w pv r.aF) :
  Calls prog 14 #[v,.agg #[aA aB r.aG,aA aB r.aI,aA aB r.aH,aA aB r.aJ,pv]] w (Pr w (mC f r)):=by
 have hal:=hid (fun(o:Obj)=>(Ext.rf w).al o);have C:=hid (fun(W:World) (h:Ext w W)=>Kq W v f (hv.mono h));have F:=hid (fun(W:World) (h:Ext w W)=>pA W pv r (hp.mono h));have N:=hid (fun(hfine:gM f) (hr:bX r) (W:World) (h:Ext w W)=>Tj W v pv f r (hv.mono h) (hp.mono h) hfine hr);obtain⟨fa,fc,rfl,_,_,_⟩:=hv.form;obtain⟨pa,pc,rfl,_,_,_⟩:=hp.form;clear hv hp;by_cases hf:gM f
 ·rw[Mf hf] at C;by_cases hr:bX r
  ·have hR:=Pa hf (r:=r) (by rw[oS hr]);rw[oS hr] at F;have HN:=hid (N.out hf hr);clear N hf hr;generalize cK (sp f) r=l at *;have HR:=hid hR;clear hR;generalize r.aF.length=pn at *;generalize f.length=fn at *;go_enter func14,ntmps14
   go_wp2_with fail
   refine(C.out _ (hal.out _)).mono ?_;rintro e w1 ⟨rfl,hx1⟩;have hx01:=(hal.out _).tr hx1;obtain⟨_,_,_,_,_⟩:=bY hx1
   go_wp2_with fail
   refine(F.out _ hx01).mono ?_;rintro e w2 ⟨rfl,hx2⟩;have hx02:=hid (hx01.tr hx2);obtain⟨b0,b1,b2,b3,b4⟩:=bY (hx1.tr hx2);clear hx1 hx2 hx01
   go_wp2_with fail
   refine(HN.out _ hx02.out).mono ?_;rintro e w3 ⟨u,rfl,hu,hz,hx3⟩;have HU:=hid hu;have HF:=hid (hz.2.later hx02.out);by_cases hl:l=[]
   ·obtain rfl:=hz.1 hl;have HR2:=hid (show mC f r=([],false,0) from by rw[HR.out,hl];rfl);have hb0:(l≠[])=False:=by simp[hl]
    have HL:=hid hl;clear hz hu hl hb0
    go_wp2_with fail
    go_ret3
    exact pF HR2.out SV.nil (lD _ _ _) (hx02.out.tr hx3)
   ·obtain⟨b,o,c,rfl⟩:∃ b o c,u=aE (aC ⟨b,o,aD⟩) l.length c:=by
     rcases hu with ⟨h,_⟩ | ⟨b,o,c,h,_⟩
     ·exact absurd h hl
     ·exact⟨b,o,c,h⟩
    have HR2:=hid (show mC f r=(l,true,0) from by rw[HR.out,deT hl]);clear hz hu hl
    go_wp2_with fail
    go_ret3
    exact pF HR2.out HU.out HF.out (hx02.out.tr hx3)
  ·obtain⟨fe,fb,hfe,hne⟩:=zZ hr;have hR:=hid (uT hf (r:=r) (by rw[hfe];exact hne));rw[hfe] at F hR;have hne':=neT hne;clear N hf hr hfe hne;generalize r.aF.length=pn at *;generalize f.length=fn at *;go_enter func14,ntmps14
   go_wp2_with fail
   refine(C.out _ (hal.out _)).mono ?_;rintro e w1 ⟨rfl,hx1⟩;have hx01:=(hal.out _).tr hx1;obtain⟨_,_,_,_,_⟩:=bY hx1
   go_wp2_with fail
   refine(F.out _ hx01).mono ?_;rintro e w2 ⟨rfl,hx2⟩
   go_wp2_with fail
   go_ret3
   exact pF hR.out SV.nil (lD _ _ _) (hx01.tr hx2)
 ·rw[tR hf] at C;have hR:=hid (Ff (r:=r) hf);clear N hf;generalize r.aF.length=pn at *;generalize f.length=fn at *;go_enter func14,ntmps14
  go_wp2_with fail
  refine(C.out _ (hal.out _)).mono ?_;rintro e w1 ⟨rfl,hx1⟩
  go_wp2_with fail
  go_ret3
  exact pF hR.out SV.nil (lD _ _ _) ((hal.out _).tr hx1)
theorem Cn {w:World} {tv bv:Value} {s:aV} (h0:aZ s=0) (hl:aX w tv s.aN) (hb:bD w bv s.aK) :
  Calls prog 10 #[.agg #[aA aB s.aL,aA aB s.aM,tv,bv]] w fun e w'=>e=.returned (aA aB 0)/\Ext w w':=by
 have:=cI w tv bv s hl hb;rwa [h0] at this
theorem Zx {w:World} {tv bv:Value} {s:aV} (h0:aZ s=0) (hl:aX w tv s.aN) (hb:bD w bv s.aK) :
  Calls prog 12 #[.agg #[aA aB s.aL,aA aB s.aM,tv,bv]] w fun e w'=>∃ u v,e=.returned (.agg #[aA aB s.aL,aA aB s.aM,u,v])/\aX w' u s.aN/\bD w' v s.aK/\Ext w w':=by
 obtain⟨ok,h12,hbok⟩:=iI h0;refine(lU w tv bv s hl hb ok h12 hbok).mono ?_;rintro e w' ⟨u,v,rfl,h,hx⟩;exact⟨u,v,rfl,h.tree,h.books,hx⟩
theorem Do_fr {w:World} {tv bv pv cv:Value} {s S:aV} {x:dE} {er:Int} (h:doR s x=(S,er)) (hl:aX w tv s.aN) (hb:bD w bv s.aK) (hp:aU w pv x.aP.aF) (hc:bC w cv x.Cap) (hI:I64 x.aP.aG/\I64 x.aP.aI/\I64 x.aP.aH/\I64 x.aP.aJ) (hN:I64 x.N) :
  Calls prog 13 #[.agg #[aA aB s.aL,aA aB s.aM,tv,bv],.agg #[aA aB x.aJ,aA aB x.N,aA aB x.aP.aG,aA aB x.aP.aI,aA aB x.aP.aH,aA aB x.aP.aJ,pv,cv]] w fun e w'=>∃ u v,e=.returned (.tuple #[.agg #[aA aB S.aL,aA aB S.aM,u,v],aA aB er])/\StS w.heap.size w' u v S/\Ext w w':=by
 have:=Mr w tv bv pv cv s x hl hb hp hc hI hN;rw[h] at this;exact this
theorem aA5 {w:World} {v pv:Value} {f:List Run} {r:aS} {L:List bO} {ob:Bool} {gr:Int} (h:mC f r=(L,ob,gr)) (hv:bC w v f) (hp:aU w pv r.aF) :
  Calls prog 14 #[v,.agg #[aA aB r.aG,aA aB r.aI,aA aB r.aH,aA aB r.aJ,pv]] w fun e w'=>∃ u,e=.returned (.tuple #[u,.bool ob,aA aB gr])/\bJ w' u L/\jT w u/\Ext w w':=by
 have:=Xo w v pv f r hv hp;rw[h] at this;exact this
theorem Mo {w:World} {v pv:Value} {f:List Run} {r:aS} {L:List bO} {ob:Bool} {gr:Int} (h:mC f r=(L,ob,gr)) (hv:bC w v f) (hp:aU w pv r.aF) :
  Calls prog 16 #[v,.agg #[aA aB r.aG,aA aB r.aI,aA aB r.aH,aA aB r.aJ,pv]] w fun e w'=>∃ u,e=.returned (.tuple #[u,.bool ob,aA aB gr])/\bJ w' u L/\Ext w w':=by
 have:=Il w v pv f r hv hp;rw[h] at this;exact this
def rsF:List Run:=[⟨0,5⟩,⟨3,9⟩]
def Pq (W2:World) (tb g gb:Nat) (u v:Value) (cs ns ms:Nat->Nat) (zq z k:Nat) (p b:Value) (W:World):Prop:=
 RS W2 tb u v W/\uD W W2.heap.size g gb tb ns ms k z/\pO W W2.heap.size g tb cs 0 zq/\W.cell? ⟨gb,k*7+5,aD⟩=aC p/\jE W W2.heap.size [gb,g,tb] (ns k) 2 p/\W.cell? ⟨gb,k*7+6,aD⟩=aC b/\jE W W2.heap.size [gb,g,tb] (ms k) 2 b
theorem Pq.put {W2 W:World} {tb g gb zq z k i o:Nat} {u v p b:Value} {cs ns ms:Nat->Nat} (h:Pq W2 tb g gb u v cs ns ms zq z k p b W) (hi:W2.heap.size<=i) (hn:i∉[gb,g,tb]) (vs:List Value):Pq W2 tb g gb u v cs ns ms zq z k p b (W.setCells i o vs):=by
 obtain⟨h1,h2,h3,h4,h5,h6,h7⟩:=h;simp only[aC8,aCj,or_false,not_or] at hn;have kp:=oC W i o vs;exact⟨h1.put hi hn.2.2 vs,h2.put (aBq _) (.inl hn.1),h3.put (aBq _) (.inl hn.2.1),nM h4 (.inl fun e=>hn.1 e.symm),h5.mono kp,nM h6 (.inl fun e=>hn.1 e.symm),h7.mono kp⟩
def Xh (W2:World) (tb g:Nat) (u v:Value) (cs:Nat->Nat) (zq k:Nat) (c:Value) (W:World):Prop:=
 RS W2 tb u v W/\pO W W2.heap.size g tb cs k zq/\W.cell? ⟨g,k*3+2,aD⟩=aC c/\jE W W2.heap.size [g,tb] (cs k) 2 c
theorem Xh.put {W2 W:World} {tb g zq k i o:Nat} {u v c:Value} {cs:Nat->Nat} (h:Xh W2 tb g u v cs zq k c W) (hi:W2.heap.size<=i) (hn:i∉[g,tb]) (vs:List Value):Xh W2 tb g u v cs zq k c (W.setCells i o vs):=by
 obtain⟨h1,h3,h4,h5⟩:=h;simp only[aC8,aCj,or_false,not_or] at hn;exact⟨h1.put hi hn.2 vs,h3.put (aBq _) (.inl hn.1),nM h4 (.inl fun e=>hn.1 e.symm),h5.mono (oC W i o vs)⟩
theorem jE.at {W:World} {B n sz:Nat} {ex:List Nat} {a:Option Addr} {c m:Nat} (h:jE W B ex n sz (aE a m c)) (h0:m≠0):m=n/\∃ b o,a=aC ⟨b,o,aD⟩/\B<=b/\b∉ex/\W.there b o (m*sz):=by
 obtain⟨a',c',e,_,h⟩:=h;cases e;obtain⟨b,o,e,h1,h2,_,h3⟩:=h h0;exact⟨rfl,b,o,e,h1,h2,h3⟩
theorem uG {W:World} {b o n i:Nat} (h:W.there b o (n*2)) (hi:i < n):(∃ y,W.cell? ⟨b,o+i*2,aD⟩=aC y/\W.frozen? ⟨b,o+i*2,aD⟩=false)/\∃ y,W.cell? ⟨b,o+i*2+1,aD⟩=aC y/\W.frozen? ⟨b,o+i*2+1,aD⟩=false:=by
 obtain⟨h1,h2⟩:=h (i*2) (by omega);obtain⟨h3,h4⟩:=h (i*2+1) (by omega);obtain⟨y,hy⟩:=aDV.1 h1;obtain⟨z,hz⟩:=aDV.1 h3;exact⟨⟨y,hy,h2⟩,z,hz,h4⟩
theorem Ng {W:World} {b n i:Nat} (h:W.there b 0 (n*3)) (hi:i < n):(∃ y,W.cell? ⟨b,i*3,aD⟩=aC y/\W.frozen? ⟨b,i*3,aD⟩=false)/\(∃ y,W.cell? ⟨b,i*3+1,aD⟩=aC y/\W.frozen? ⟨b,i*3+1,aD⟩=false)/\∃ y,W.cell? ⟨b,i*3+2,aD⟩=aC y/\W.frozen? ⟨b,i*3+2,aD⟩=false:=by
 have each:∀ j,j < n*3->∃ y,W.cell? ⟨b,j,aD⟩=aC y/\W.frozen? ⟨b,j,aD⟩=false:=fun j hj=>by
  obtain⟨h1,h2⟩:=h j hj;rw[aBE] at h1 h2;obtain⟨y,hy⟩:=aDV.1 h1;exact⟨y,hy,h2⟩
 exact⟨each _ (by omega),each _ (by omega),each _ (by omega)⟩
theorem jE.form {W:World} {B n sz:Nat} {ex:List Nat} {v:Value} (h:jE W B ex n sz v):∃ a c,v=aE a n c/\n<=17592186044416:=by
 obtain⟨a,c,e,h,_⟩:=h;exact⟨a,c,e,h⟩
theorem Hj (w:World) (tv bv pv cv:Value) (s:aV) (x:dE) (ht:aX w tv s.aN) (hb:bD w bv s.aK) (hp:aU w pv x.aP.aF) (hc:bC w cv x.Cap) (hI:I64 x.aP.aG/\I64 x.aP.aI/\I64 x.aP.aH/\I64 x.aP.aJ) (hN:I64 x.N) (h0:aZ s=0) :
  Calls prog 3 #[.agg #[aA aB s.aL,aA aB s.aM,tv,bv],.agg #[aA aB x.aJ,aA aB x.N,aA aB x.aP.aG,aA aB x.aP.aI,aA aB x.aP.aH,aA aB x.aP.aJ,pv,cv]] w fun e w'=>e=.returned (.bool true)/\Ext w w':=by
 obtain⟨⟨S,er⟩,hd⟩:∃ q,doR s x=q:=⟨_,rfl⟩;obtain⟨⟨L,ob,gr⟩,hf⟩:∃ q,mC rsF x.aP=q:=⟨_,rfl⟩;have CS:=hid (fun(W:World) (h:Ext w W)=>Cn h0 (ht.mono h) (hb.mono h));have OW:=hid (fun(W:World) (h:Ext w W)=>Zx h0 (ht.mono h) (hb.mono h));have CA:=hid (fun(W:World) (h:Ext w W)=>Do_fr hd (ht.mono h) (hb.mono h) (hp.mono h) (hc.mono h) hI hN);have DA:=hid (fun(W:World) (h:Ext w W)=>Do_is hd (ht.mono h) (hb.mono h) (hp.mono h) (hc.mono h) hI hN);have CR:=hid (fun(W:World) (h:Ext w W)=>aAD hd (ht.mono h) (hb.mono h) (hp.mono h) (hc.mono h) hI hN);have FA:=hid (fun(W:World) (v:Value) (h:Ext w W) (hv:bC W v rsF)=>aA5 hf hv (hp.mono h));have FR:=hid (fun(W:World) (v:Value) (h:Ext w W) (hv:bC W v rsF)=>Mo hf hv (hp.mono h));have BG:=hid (fun(W:World)=>vH W);have HT:=hid (fun(W:World) (h:Ext w W)=>ht.mono h);have HB:=hid (fun(W:World) (h:Ext w W)=>hb.mono h);have e1:(er == er)=true:=by simp
 have e2:(gr == gr)=true:=by simp
 clear hd hf h0;obtain⟨qa,qc,rfl,_,_,_⟩:=ht.form;obtain⟨ba,bc,rfl,_,_,_⟩:=hb.form;obtain⟨pa,pc,rfl,_,_,_⟩:=hp.form;obtain⟨ca,cc,rfl,_,_,_⟩:=hc.form;clear ht hb hp hc;generalize s.aN.length=sn at *;generalize s.aK.length=sz at *;generalize x.aP.aF.length=pn at *;generalize x.Cap.length=cn at *;obtain⟨W0,hW0,hx0,hbs,hba,hs0⟩:=Np w (aA aB s.aL) (aA aB s.aM) (aE qa sn qc) (aE ba sz bc) (aA aB x.aJ) (aA aB x.N) (aA aB x.aP.aG) (aA aB x.aP.aI) (aA aB x.aP.aH) (aA aB x.aP.aJ) (aE pa pn pc) (aE ca cn cc);have X0:=hid hx0;have HBS:=hid hbs;have HBA:=hid hba;obtain⟨n0,n1,n2,n3⟩:=lH hbs;obtain⟨k0,k1,k2,k3,k4,k5,k6,k7⟩:=wR hba;clear hx0 hbs hba hs0;go_enter func3,ntmps3
 go_wp2_with fail
 clear n0 n1 n2 n3 k0 k1 k2 k3 k4 k5 k6 k7;refine(CS.out _ X0.out).mono ?_;rintro e w1 ⟨rfl,hx⟩;obtain⟨n0,n1,n2,n3⟩:=lH (aW HBS.out hx);have K1:=hid hx;have X1:=hid (X0.out.tr hx);clear hx hW0 CS
 go_wp2_with fail
 clear n0 n1 n2 n3;refine(OW.out _ X1.out).mono ?_;rintro e w2 ⟨u,v,rfl,hu,hv,hx⟩;obtain⟨ua,ca2,rfl,_,_,_⟩:=hu.form;obtain⟨va,da,rfl,_,_,_⟩:=hv.form;have hal:=(Ext.rf w2).al (.cells #[aA aB s.aL,aA aB s.aM,aE ua s.aN.length ca2,aE va s.aK.length da] 25);have HBw:=hid (fun(V:World) (h:Ext (w2.alloc (.cells #[aA aB s.aL,aA aB s.aM,aE ua s.aN.length ca2,aE va s.aK.length da] 25)) V)=>sZ h);have HUw:=hid (fun(V:World) (h:Ext (w2.alloc (.cells #[aA aB s.aL,aA aB s.aM,aE ua s.aN.length ca2,aE va s.aK.length da] 25)) V)=>hu.mono (hal.tr h));have HVw:=hid (fun(V:World) (h:Ext (w2.alloc (.cells #[aA aB s.aL,aA aB s.aM,aE ua s.aN.length ca2,aE va s.aK.length da] 25)) V)=>hv.mono (hal.tr h));have K2:=hid (K1.out.tr (hx.tr hal));have X2:=hid (X1.out.tr (hx.tr hal));obtain⟨n0,n1,n2,n3⟩:=lH (aW HBS.out (K1.out.tr hx));obtain⟨k0,k1,k2,k3,k4,k5,k6,k7⟩:=wR (aW HBA.out (K1.out.tr hx));have hl0:w.heap.size < w2.heap.size:=aBx _ _ n0;have hl1:w.heap.size+1 < w2.heap.size:=aBx _ _ k0;clear hu hv hx hal OW K1 X1
 go_wp2_with fail
 clear n0 n1 n2 n3 k0 k1 k2 k3 k4 k5 k6 k7 hl0 hl1;refine(CA.out _ X2.out).mono ?_;rintro e w3 ⟨u,v,rfl,hst,hx⟩;generalize w2.alloc (.cells #[aA aB s.aL,aA aB s.aM,aE ua s.aN.length ca2,aE va s.aK.length da] 25)=W2 at *;obtain⟨ta,tc,ra,rc,g,gb,cs,ns,ms,rfl,rfl,hga,hgb,h5,h12,hW⟩:=hst.free hx;have HGA:=hid hga;have HGB:=hid hgb;have HW:=hid hW;clear hst hx hga hgb hW;generalize hzq:S.aN.length=zq at *;generalize hz:S.aK.length=z at *;clear hzq hz
 go_wp2_with fail
 have HW:=hid (HW.out _ (Ext.rf _));generalize w3.heap.size=tb at *
 go_loopw [8] (fun c wr=>∃ k:Nat,c=aA aB k/\k<=z/\Hid (RS W2 tb (aE ta zq tc) (aE ra z rc) wr/\uD wr W2.heap.size g gb tb ns ms k z/\pO wr W2.heap.size g tb cs 0 zq)) (fun c _=>z - (intOf c).toNat)
 case atStart=>exact⟨0,rfl,by omega,HW⟩
 case round=>
  obtain⟨k,rfl,hk,H⟩:=hrel;obtain⟨⟨hX,t2,t3⟩,hB,hT⟩:=H.out;by_cases hkz:k < z
  ·have hkz':(k:Int) < (z:Int):=by omega
   obtain rfl:=HGB.out (by omega);obtain⟨hgB,hgg,hgt,hth⟩:=hB.1 (by omega);obtain⟨pv',bv',c5,fp,c6,fb⟩:=hB.2 k (aBq _) hkz;obtain⟨pa',pc',rfl,hm9⟩:=fp.form;obtain⟨ba',bc',rfl,hn9⟩:=fb.form;have HR:=hid (show Pq W2 tb g gb (aE ta zq tc) (aE (aC ⟨gb,0,aD⟩) z rc) cs ns ms zq z k (aE pa' (ns k) pc') (aE ba' (ms k) bc') wr from ⟨⟨hX,t2,t3⟩,hB,hT,c5,fp,c6,fb⟩);have HGN:=hid (And.intro hgB (And.intro hgg hgt));clear hX t2 t3 hB hT c5 fp c6 fb H hgB hgg hgt hth;generalize wr=w4 at *;obtain⟨⟨-,-,t3⟩,-,-,c5,-,c6,-⟩:=HR.out
   go_wp2_with fail
   clear t3 c5 c6
   go_loopw [9] (fun c wr=>∃ i:Nat,c=aA aB i/\i<=ms k/\Hid (Pq W2 tb g gb (aE ta zq tc) (aE (aC ⟨gb,0,aD⟩) z rc) cs ns ms zq z k (aE pa' (ns k) pc') (aE ba' (ms k) bc') wr)) (fun c _=>ms k - (intOf c).toNat)
   case atStart=>exact⟨0,rfl,by omega,HR⟩
   case round=>
    obtain⟨i,rfl,hi,HR⟩:=hrel;obtain⟨⟨-,-,t3⟩,-,-,c5,-,c6,fb⟩:=HR.out;by_cases hin:i < ms k
    ·have hin':(i:Int) < ((ms k:Nat):Int):=by omega
     obtain⟨_,ib,io,rfl,hib,hix,hth⟩:=fb.at (by omega);obtain⟨⟨ya,ca,fa⟩,⟨yb,cb,fb2⟩⟩:=uG hth (i:=i) (by omega);have HR2:=HR.out.put hib hix (o:=io+i*2) [aA aB 0,aA aB 0];obtain⟨w5,hw5⟩:∃ w5,(wr.setCell ⟨ib,io+i*2,aD⟩ (aA aB 0)).setCell ⟨ib,io+i*2+1,aD⟩ (aA aB 0)=w5:=⟨_,rfl⟩;have HR5:=hid (show Pq W2 tb g gb (aE ta zq tc) (aE (aC ⟨gb,0,aD⟩) z rc) cs ns ms zq z k (aE pa' (ns k) pc') (aE (aC ⟨ib,io,aD⟩) (ms k) bc') w5 from hw5▸HR2);clear fb hth HR2
     go_wp2_with fail
     go_roundw
     case rel=>exact⟨i+1,by go_num,by omega,HR5⟩
     case measure=>simp[intOf];omega
    ·have hin':¬ (i:Int) < ((ms k:Nat):Int):=by omega
     clear fb;generalize wr=w5 at *
     go_wp2_with fail
     clear t3 c5 c6
     go_loopw [10] (fun c wr=>∃ i:Nat,c=aA aB i/\i<=ns k/\Hid (Pq W2 tb g gb (aE ta zq tc) (aE (aC ⟨gb,0,aD⟩) z rc) cs ns ms zq z k (aE pa' (ns k) pc') (aE ba' (ms k) bc') wr)) (fun c _=>ns k - (intOf c).toNat)
     case atStart=>exact⟨0,rfl,by omega,HR⟩
     case round=>
      obtain⟨i,rfl,hi,HR⟩:=hrel;obtain⟨⟨hX,t2,t3⟩,hB,hT,c5,fp,-,-⟩:=HR.out;by_cases hin:i < ns k
      ·have hin':(i:Int) < ((ns k:Nat):Int):=by omega
       obtain⟨_,ib,io,rfl,hib,hix,hth⟩:=fp.at (by omega);obtain⟨⟨ya,c1,f1⟩,⟨yb,c2,f2⟩⟩:=uG hth (i:=i) (by omega);have HR2:=HR.out.put hib hix (o:=io+i*2) [aA aB 0,aA aB 0];obtain⟨w5,hw5⟩:∃ w5,(wr.setCell ⟨ib,io+i*2,aD⟩ (aA aB 0)).setCell ⟨ib,io+i*2+1,aD⟩ (aA aB 0)=w5:=⟨_,rfl⟩;have HR5:=hid (show Pq W2 tb g gb (aE ta zq tc) (aE (aC ⟨gb,0,aD⟩) z rc) cs ns ms zq z k (aE (aC ⟨ib,io,aD⟩) (ns k) pc') (aE ba' (ms k) bc') w5 from hw5▸HR2);clear fp hth HR2 hX hB hT t2
       go_wp2_with fail
       go_roundw
       case rel=>exact⟨i+1,by go_num,by omega,HR5⟩
       case measure=>simp[intOf];omega
      ·have hin':¬ (i:Int) < ((ns k:Nat):Int):=by omega
       obtain⟨h1,h2,h3,h4⟩:=hB.1 (by omega);have HTH:=hid (Qi h4 (o':=k*7) (n':=7) (by omega) (by omega));obtain⟨w5,hw5⟩:∃ w5,wr.setCells gb (k*7) (#[aA aB 0,aA aB 0,aA aB 0,aA aB 0,aA aB 0,aE aD 0 0,aE aD 0 0]:Array Value).toList=w5:=⟨_,rfl⟩;have HR5:=hid (show RS W2 tb (aE ta zq tc) (aE (aC ⟨gb,0,aD⟩) z rc) w5/\uD w5 W2.heap.size g gb tb ns ms (k+1) z/\pO w5 W2.heap.size g tb cs 0 zq from
        hw5▸⟨RS.put ⟨hX,t2,t3⟩ h1 h3 _,hB.put (by omega) (.inr ⟨rfl,rfl,rfl⟩),hT.put (aBq _) (.inl h2)⟩)
       have HW5:=hid hw5;clear fp hX hB hT t2 h1 h2 h3 h4 hw5
       go_wp2_with (refine wpList_store_mid rfl 40 (.tmp 93) (.tmp 92) rfl gb (k*7) #[aA aB 0,aA aB 0,aA aB 0,aA aB 0,aA aB 0,aE aD 0 0,aE aD 0 0] rfl rfl HTH.out size40 (by simp[aBz]) ?_;rw[HW5.out])
       go_roundw
       case rel=>exact⟨k+1,by go_num,by omega,HR5⟩
       case measure=>simp[intOf];omega
  ·obtain rfl:k=z:=by omega
   have hkz':¬ (k:Int) < (k:Int):=by omega
   have HR:=hid (And.intro (show RS W2 tb (aE ta zq tc) (aE ra k rc) wr from ⟨hX,t2,t3⟩) hT);clear hX hB hT H t2;generalize wr=w4 at *
   go_wp2_with fail
   clear t3 hkz'
   go_loopw [11] (fun c wr=>∃ q:Nat,c=aA aB q/\q<=zq/\Hid (RS W2 tb (aE ta zq tc) (aE ra k rc) wr/\pO wr W2.heap.size g tb cs q zq)) (fun c _=>zq - (intOf c).toNat)
   case atStart=>exact⟨0,rfl,by omega,HR⟩
   case round=>
    obtain⟨q,rfl,hq,H⟩:=hrel;obtain⟨⟨hX,t2,t3⟩,hT⟩:=H.out;by_cases hqz:q < zq
    ·have hqz':(q:Int) < (zq:Int):=by omega
     obtain rfl:=HGA.out (by omega);obtain⟨cv',c2,fc⟩:=hT.2 q (aBq _) hqz;obtain⟨ca',cc',rfl,hn9⟩:=fc.form;have HR:=hid (show Xh W2 tb g (aE (aC ⟨g,0,aD⟩) zq tc) (aE ra k rc) cs zq q (aE ca' (cs q) cc') wr from ⟨⟨hX,t2,t3⟩,hT,c2,fc⟩);clear hX hT fc H t3;generalize wr=w4 at *
     go_wp2_with fail
     clear t2 c2
     go_loopw [12] (fun c wr=>∃ i:Nat,c=aA aB i/\i<=cs q/\Hid (Xh W2 tb g (aE (aC ⟨g,0,aD⟩) zq tc) (aE ra k rc) cs zq q (aE ca' (cs q) cc') wr)) (fun c _=>cs q - (intOf c).toNat)
     case atStart=>exact⟨0,rfl,by omega,HR⟩
     case round=>
      obtain⟨i,rfl,hi,HR⟩:=hrel;obtain⟨⟨hX,t2,t3⟩,hT,c2,fc⟩:=HR.out;by_cases hin:i < cs q
      ·have hin':(i:Int) < ((cs q:Nat):Int):=by omega
       obtain⟨_,ib,io,rfl,hib,hix,hth⟩:=fc.at (by omega);obtain⟨⟨ya,c3,f1⟩,⟨yb,c4,f2⟩⟩:=uG hth (i:=i) (by omega);have HR2:=HR.out.put hib hix (o:=io+i*2) [aA aB 0,aA aB 0];obtain⟨w5,hw5⟩:∃ w5,(wr.setCell ⟨ib,io+i*2,aD⟩ (aA aB 0)).setCell ⟨ib,io+i*2+1,aD⟩ (aA aB 0)=w5:=⟨_,rfl⟩;have HR5:=hid (show Xh W2 tb g (aE (aC ⟨g,0,aD⟩) zq tc) (aE ra k rc) cs zq q (aE (aC ⟨ib,io,aD⟩) (cs q) cc') w5 from hw5▸HR2);clear fc hth HR2 hX hT t3
       go_wp2_with fail
       go_roundw
       case rel=>exact⟨i+1,by go_num,by omega,HR5⟩
       case measure=>simp[intOf];omega
      ·have hin':¬ (i:Int) < ((cs q:Nat):Int):=by omega
       obtain⟨h1,h2,h3⟩:=hT.1 (by omega);obtain⟨⟨ya,c3,f1⟩,⟨yb,c4,f2⟩,⟨yc,c5,f3⟩⟩:=Ng h3 hqz;obtain⟨w5,hw5⟩:∃ w5,((wr.setCell ⟨g,q*3,aD⟩ (.string ⟨#[]⟩)).setCell ⟨g,q*3+1,aD⟩ (aA aB 0)).setCell ⟨g,q*3+2,aD⟩ (aE aD 0 0)=w5:=⟨_,rfl⟩;have HR5:=hid (show RS W2 tb (aE (aC ⟨g,0,aD⟩) zq tc) (aE ra k rc) w5/\pO w5 W2.heap.size g tb cs (q+1) zq from
        hw5▸⟨RS.put (o:=q*3) ⟨hX,t2,t3⟩ h1 h2 [.string ⟨#[]⟩,aA aB 0,aE aD 0 0],hT.put (o:=q*3) (vs:=[.string ⟨#[]⟩,aA aB 0,aE aD 0 0]) (by omega) (.inr ⟨rfl,rfl,rfl⟩)⟩)
       clear fc hX hT t3 h1 h2 h3
       go_wp2_with fail
       go_roundw
       case rel=>exact⟨q+1,by go_num,by omega,HR5⟩
       case measure=>simp[intOf];omega
    ·obtain rfl:q=zq:=by omega
     have hqz':¬ (q:Int) < (q:Int):=by omega
     have X3:=hid (X2.out.tr hX);have K3:=hid (K2.out.tr hX);have Y3:=hid hX;clear hX hT H t3;generalize wr=w4 at *;have RL:=hid (xF (w:=w4) (b:=w4.heap.size) (n:=2) (cs:=#[aA aB 0,aA aB 5,aA aB 3,aA aB 9]) rsF rfl rfl rfl (by decide) (qI (by decide +kernel)));have hal:=(Ext.rf w4).al (.cells #[aA aB 0,aA aB 5,aA aB 3,aA aB 9] 48);obtain⟨k0,k1,k2,k3,k4,k5,k6,k7⟩:=wR (aW HBA.out K3.out);have hl1:w.heap.size+1 < w4.heap.size:=aBx _ _ k0;have K4:=hid (K3.out.tr hal);have X4:=hid (X3.out.tr hal);have Y4:=hid (Y3.out.tr hal);clear hal X3 K3 Y3
     go_wp2_with fail
     clear k0 k1 k2 k3 k4 k5 k6 k7 hl1 t2 hqz';refine(FA.out _ _ X4.out RL.out).mono ?_;rintro e w5 ⟨bv5,rfl,hb5,hfr,hx⟩;generalize hW4:w4.alloc (.cells #[aA aB 0,aA aB 5,aA aB 3,aA aB 9] 48)=W4 at *;have FB:=SV.free (B:=W4.heap.size) (ex:=[]) (fun b o x h=>wZ h.1 h.2.1) (by omega) hb5 (fun a n c e=>⟨hfr a n c e,by simp⟩);obtain⟨b5,c5,rfl,hn9⟩:=FB.form;have HF:=hid FB;have H5:=hid hx;clear hb5 hfr hx FB hW4;generalize L.length=n5 at *
     go_wp2_with fail
     go_loopw [17] (fun c wr=>∃ i:Nat,c=aA aB i/\i<=n5/\Hid (Ext W4 wr/\jE wr W4.heap.size [] n5 2 (aE b5 n5 c5))) (fun c _=>n5 - (intOf c).toNat)
     case atStart=>exact⟨0,rfl,by omega,hid ⟨H5.out,HF.out⟩⟩
     case round=>
      obtain⟨i,rfl,hi,H⟩:=hrel;obtain⟨hX,fb⟩:=H.out;by_cases hin:i < n5
      ·have hin':(i:Int) < (n5:Int):=by omega
       obtain⟨_,ib,io,rfl,hib,hix,hth⟩:=fb.at (by omega);obtain⟨⟨ya,c1,f1⟩,⟨yb,c2,f2⟩⟩:=uG hth (i:=i) (by omega);obtain⟨w6,hw6⟩:∃ w6,(wr.setCell ⟨ib,io+i*2,aD⟩ (aA aB 9)).setCell ⟨ib,io+i*2+1,aD⟩ (aA aB 0)=w6:=⟨_,rfl⟩;have HR5:=hid (show Ext W4 w6/\jE w6 W4.heap.size [] n5 2 (aE (aC ⟨ib,io,aD⟩) n5 c5) from hw6▸⟨Ug hX hib [aA aB 9,aA aB 0],fb.mono (oC wr ib (io+i*2) [aA aB 9,aA aB 0])⟩);clear fb hth hX H
       go_wp2_with fail
       go_roundw
       case rel=>exact⟨i+1,by go_num,by omega,HR5⟩
       case measure=>simp[intOf];omega
      ·obtain rfl:i=n5:=by omega
       have hin':¬ (i:Int) < (i:Int):=by omega
       have K5:=hid (K4.out.tr hX);have X5:=hid (X4.out.tr hX);have Y5:=hid (Y4.out.tr hX);have Z5:=hid hX;clear hX fb H HF H5 K4 X4 Y4;generalize wr=w5 at *;obtain⟨n0,n1,n2,n3⟩:=lH (aW HBS.out K5.out);obtain⟨k0,k1,k2,k3,k4,k5,k6,k7⟩:=wR (aW HBA.out K5.out)
       go_wp2_with fail
       clear n0 n1 n2 n3 k0 k1 k2 k3 k4 k5 k6 k7 hin';refine(DA.out _ X5.out).mono ?_;rintro e w6 ⟨u6,v6,rfl,hu,hv,hx⟩;obtain⟨ua6,ca6,rfl,_,_,_⟩:=hu.form;obtain⟨va6,da6,rfl,_,_,_⟩:=hv.form;have hal:=(Ext.rf w6).al (.cells #[aA aB S.aL,aA aB S.aM,aE ua6 S.aN.length ca6,aE va6 S.aK.length da6] 25);have HB6:=hid (fun(V:World) (h:Ext (w6.alloc (.cells #[aA aB S.aL,aA aB S.aM,aE ua6 S.aN.length ca6,aE va6 S.aK.length da6] 25)) V)=>sZ h);have HU6:=hid (fun(V:World) (h:Ext (w6.alloc (.cells #[aA aB S.aL,aA aB S.aM,aE ua6 S.aN.length ca6,aE va6 S.aK.length da6] 25)) V)=>hu.mono (hal.tr h));have HV6:=hid (fun(V:World) (h:Ext (w6.alloc (.cells #[aA aB S.aL,aA aB S.aM,aE ua6 S.aN.length ca6,aE va6 S.aK.length da6] 25)) V)=>hv.mono (hal.tr h));have K6:=hid (K5.out.tr (hx.tr hal));have X6:=hid (X5.out.tr (hx.tr hal));have Y6:=hid (Y5.out.tr (hx.tr hal));have Z6:=hid (Z5.out.tr (hx.tr hal));obtain⟨n0,n1,n2,n3⟩:=lH (aW HBS.out (K5.out.tr hx));obtain⟨k0,k1,k2,k3,k4,k5,k6,k7⟩:=wR (aW HBA.out (K5.out.tr hx));have hl0:w.heap.size < w6.heap.size:=aBx _ _ n0;have hl1:w.heap.size+1 < w6.heap.size:=aBx _ _ k0;clear hu hv hx hal K5 X5 Y5 Z5
       go_wp2_with fail
       clear n0 n1 n2 n3 k0 k1 k2 k3 k4 k5 k6 k7 hl0 hl1;refine(CR.out _ X6.out).mono ?_;rintro e w7 ⟨u7,v7,rfl,hu,hv,hx⟩;generalize w6.alloc (.cells #[aA aB S.aL,aA aB S.aM,aE ua6 S.aN.length ca6,aE va6 S.aK.length da6] 25)=W6 at *;obtain⟨ua7,ca7,rfl,_,_,_⟩:=hu.form;obtain⟨va7,da7,rfl,_,_,_⟩:=hv.form;have hal:=(Ext.rf w7).al (.cells #[aA aB S.aL,aA aB S.aM,aE ua7 S.aN.length ca7,aE va7 S.aK.length da7] 25);have HB7:=hid (fun(V:World) (h:Ext (w7.alloc (.cells #[aA aB S.aL,aA aB S.aM,aE ua7 S.aN.length ca7,aE va7 S.aK.length da7] 25)) V)=>sZ h);have HU7:=hid (fun(V:World) (h:Ext (w7.alloc (.cells #[aA aB S.aL,aA aB S.aM,aE ua7 S.aN.length ca7,aE va7 S.aK.length da7] 25)) V)=>hu.mono (hal.tr h));have HV7:=hid (fun(V:World) (h:Ext (w7.alloc (.cells #[aA aB S.aL,aA aB S.aM,aE ua7 S.aN.length ca7,aE va7 S.aK.length da7] 25)) V)=>hv.mono (hal.tr h));have K7:=hid (K6.out.tr (hx.tr hal));have X7:=hid (X6.out.tr (hx.tr hal));have Y7:=hid (Y6.out.tr (hx.tr hal));have Z7:=hid (Z6.out.tr (hx.tr hal));have V7:=hid (hx.tr hal);obtain⟨k0,k1,k2,k3,k4,k5,k6,k7⟩:=wR (aW HBA.out (K6.out.tr hx));have hl1:w.heap.size+1 < w7.heap.size:=aBx _ _ k0;clear hu hv hx hal K6 X6 Y6 Z6
       go_wp2_with fail
       clear k0 k1 k2 k3 k4 k5 k6 k7 hl1;refine(FA.out _ _ X7.out (RL.out.mono Z7.out)).mono ?_;rintro e w8 ⟨b8,rfl,hb8,-,hx⟩;generalize w7.alloc (.cells #[aA aB S.aL,aA aB S.aM,aE ua7 S.aN.length ca7,aE va7 S.aK.length da7] 25)=W7 at *;obtain⟨ba8,bc8,rfl,_,_,_⟩:=hb8.form;have HB8:=hid hb8;have K8:=hid hx;obtain⟨k0,k1,k2,k3,k4,k5,k6,k7⟩:=wR (aW HBA.out (K7.out.tr hx));clear hb8 hx
       go_wp2_with fail
       clear k0 k1 k2 k3 k4 k5 k6 k7;refine(FR.out _ _ (X7.out.tr K8.out) (RL.out.mono (Z7.out.tr K8.out))).mono ?_;rintro e w9 ⟨b9,rfl,hb9,hx⟩;obtain⟨ba9,bc9,rfl,_,_,_⟩:=hb9.form;have HB9:=hid hb9;have K9:=hid hx;have J9:=hid (K8.out.tr hx);clear hb9 hx
       go_wp2_with fail
       refine(BG.out _).mono ?_;rintro e wA ⟨rfl,hx⟩;have KA:=hid hx;have JA:=hid (J9.out.tr hx);clear hx;obtain⟨n0,n1,n2,n3⟩:=lH (aW HBS.out (K7.out.tr JA.out));obtain⟨a0,a1,a2,a3⟩:=HBw.out wA (Y7.out.tr JA.out);have S1:=hid (fun(W:World) (h:Ext wA W)=>sO W s.aL s.aM (aE qa sn qc) (aE ba sz bc) (aE ua s.aN.length ca2) (aE va s.aK.length da) s.aN s.aK (HT.out _ (X7.out.tr (JA.out.tr h))) (HB.out _ (X7.out.tr (JA.out.tr h))) (HUw.out _ (Y7.out.tr (JA.out.tr h))) (HVw.out _ (Y7.out.tr (JA.out.tr h))))
       go_wp2_with fail
       clear n0 n1 n2 n3 a0 a1 a2 a3;refine(S1.out _ (Ext.rf _)).mono ?_;rintro e wB ⟨rfl,hx⟩;have JB:=hid (JA.out.tr hx);have KB:=hid hx;clear hx;obtain⟨a0,a1,a2,a3⟩:=HB6.out wB (V7.out.tr JB.out);obtain⟨b0,b1,b2,b3⟩:=HB7.out wB JB.out;have S2:=hid (fun(W:World) (h:Ext wB W)=>sO W S.aL S.aM (aE ua6 S.aN.length ca6) (aE va6 S.aK.length da6) (aE ua7 S.aN.length ca7) (aE va7 S.aK.length da7) S.aN S.aK (HU6.out _ (V7.out.tr (JB.out.tr h))) (HV6.out _ (V7.out.tr (JB.out.tr h))) (HU7.out _ (JB.out.tr h)) (HV7.out _ (JB.out.tr h)))
       go_wp2_with fail
       clear a0 a1 a2 a3 b0 b1 b2 b3;refine(S2.out _ (Ext.rf _)).mono ?_;rintro e wC ⟨rfl,hx⟩;have JC:=hid (JB.out.tr hx);have KC:=hid (KA.out.tr (KB.out.tr hx));clear hx;have S3:=hid (fun(W:World) (h:Ext wC W)=>vE (w:=W) (HB8.out.mono (K9.out.tr (KC.out.tr h))) (HB9.out.mono (KC.out.tr h)))
       go_wp2_with fail
       refine(S3.out _ (Ext.rf _)).mono ?_;rintro e wD ⟨rfl,hx⟩;have JD:=hid (JC.out.tr hx);clear hx;have RD:=hid (xF (w:=wD) (b:=wD.heap.size) (n:=2) (cs:=#[aA aB 0,aA aB 5,aA aB 3,aA aB 9]) rsF rfl rfl rfl (by decide) (qI (by decide +kernel)));have hal:=(Ext.rf wD).al (.cells #[aA aB 0,aA aB 5,aA aB 3,aA aB 9] 48);have JE:=hid (JD.out.tr hal);clear hal
       go_wp2_with fail
       refine(xD (RL.out.mono (Z7.out.tr JE.out)) RD.out).mono ?_;rintro e wE ⟨rfl,hx⟩
       go_wp2_with fail
       go_ret;exact⟨rfl,X7.out.tr (JE.out.tr hx)⟩
theorem Dv (w:World) (tv bv pv cv:Value) (s:aV) (x:dE) (ht:aX w tv s.aN) (hb:bD w bv s.aK) (hp:aU w pv x.aP.aF) (hc:bC w cv x.Cap) (h0:aZ s≠0) :
  Calls prog 3 #[.agg #[aA aB s.aL,aA aB s.aM,tv,bv],.agg #[aA aB x.aJ,aA aB x.N,aA aB x.aP.aG,aA aB x.aP.aI,aA aB x.aP.aH,aA aB x.aP.aJ,pv,cv]] w fun e w'=>e=.returned (.bool true)/\Ext w w':=by
 have CS:=hid (fun(W:World) (h:Ext w W)=>cI W tv bv s (ht.mono h) (hb.mono h));have BG:=hid (fun(W:World)=>vH W);have hne:=neT h0;clear h0;generalize aZ s=er at *;obtain⟨qa,qc,rfl,_,_,_⟩:=ht.form;obtain⟨ba,bc,rfl,_,_,_⟩:=hb.form;obtain⟨pa,pc,rfl,_,_,_⟩:=hp.form;obtain⟨ca,cc,rfl,_,_,_⟩:=hc.form;clear ht hb hp hc;generalize s.aN.length=sn at *;generalize s.aK.length=sz at *;generalize x.aP.aF.length=pn at *;generalize x.Cap.length=cn at *;obtain⟨W0,hW0,hx0,hbs,hba,hs0⟩:=Np w (aA aB s.aL) (aA aB s.aM) (aE qa sn qc) (aE ba sz bc) (aA aB x.aJ) (aA aB x.N) (aA aB x.aP.aG) (aA aB x.aP.aI) (aA aB x.aP.aH) (aA aB x.aP.aJ) (aE pa pn pc) (aE ca cn cc);have X0:=hid hx0;obtain⟨n0,n1,n2,n3⟩:=lH hbs;clear hx0 hbs hba hs0;go_enter func3,ntmps3
 go_wp2_with fail
 clear n0 n1 n2 n3;refine(CS.out _ X0.out).mono ?_;rintro e w1 ⟨rfl,hx⟩;have X1:=hid (X0.out.tr hx);clear hx
 go_wp2_with fail
 refine(BG.out _).mono ?_;rintro e w2 ⟨rfl,hx⟩
 go_wp2_with fail
 go_ret;exact⟨rfl,X1.out.tr hx⟩
theorem Dw (w:World) (sv:Value) (s:aV) (av:Value) (x:dE) (hs:Ag w sv s) (ha:aBh w av x) :
  Calls prog 3 #[sv,av] w fun e w'=>e=.returned (.bool true)/\Ext w w':=by
 obtain⟨cs,rfl,tv,bv,rfl,ht,hb,_⟩:=hs;obtain⟨ds,rfl,pv,cv,rfl,hp,hc,hI,hK,hN⟩:=ha;by_cases h0:aZ s=0
 ·exact Hj w tv bv pv cv s x ht hb hp hc hI hN h0
 ·exact Dv w tv bv pv cv s x ht hb hp hc h0
end Go.Proofs.YtdcndkojmflhnaaGreat
