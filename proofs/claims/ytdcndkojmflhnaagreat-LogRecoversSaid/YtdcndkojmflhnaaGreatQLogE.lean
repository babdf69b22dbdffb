import Derived.Test.YtdcndkojmflhnaaGreatQCutK
set_option linter.unusedVariables false
set_option linter.unusedSimpArgs false
set_option maxRecDepth 100000
set_option maxHeartbeats 8000000
namespace Go.Proofs.YtdcndkojmflhnaaGreat
open _root_.Go.Proofs.Tryz
open Go.RowKit
open List renaming getElem_toArray->zA,getElem_cons_zero->zB,getElem_cons_succ->zC
open _root_.Option renaming none->aD,some->aC
open Go.World renaming block_lt_of_cell?->aCf,frozen?_of_block->aEx,cell?_setCell_same->aEw,frozen?_setCell->aEv,ownsRow_nil->aCD,cell?_of_block->aD2,cell?_setCell_other->aEu,size_alloc->aD3
open Go.Value renaming slice->aE,int->aA,oneCell'->aCh
open _root_.List renaming mem_cons->aCQ,not_mem_nil->aD1,mem_cons_of_mem->aC3,mem_cons_self->aDe,length_cons->aCj,drop_eq_nil_of_le->aEp,drop_succ_cons->aDw,drop_drop->aEy,length_drop->aDT,getElem?_append_left->aDp,getElem?_append_right->aDq,mem_singleton->aDj,mem_of_getElem?->aCr,getElem?_eq_some_iff->aCl,take_append_drop->aEA,length_append->aC2,any_cons->aEB,length_map->aDk,any_append->aEq,drop_append_of_le_length->aEC,drop_of_length_le->aDC,nil_append->aCZ
open _root_.Nat renaming lt_of_lt_of_le->aCi,zero_le->aCw,le_refl->aC8
open Go.IntKind renaming i64->aB
open _root_.Array renaming getElem?_eq_some_iff->aCg,getElem?_setIfInBounds->aEz
theorem Ww (w:World) (X G B:Nat) (t:List UInt8) (hX:w.cell? ⟨X,0,aD⟩=aC (.pointer (aC ⟨G,0,aD⟩))) (hG:w.cell? ⟨G,0,aD⟩=aC (.string (str t))) (hGf:w.frozen? ⟨G,0,aD⟩=false)
  (hB0:∃ old,w.cell? ⟨B,0,aD⟩=aC old) (hB1:∃ old,w.cell? ⟨B,1,aD⟩=aC old) (hf0:w.frozen? ⟨B,0,aD⟩=false) (hf1:w.frozen? ⟨B,1,aD⟩=false) (hBG:B≠G) :
  Calls prog 107 #[.pointer (aC ⟨B,0,aD⟩),.pointer (aC ⟨X,0,aD⟩)] w fun e w'=>∃ w1,Ext w w1/\e=(if 2<=t.length then .returned (.tuple #[]) else .panicked qC)/\w'=iJ G [⟨B,0,aD⟩,⟨B,1,aD⟩] t w1:=by
 go_enter func107,ntmps107;have HG:=hid hG;have HF:=hid (And.intro hGf (And.intro hf0 hf1));have HB:=hid (And.intro hB0 hB1);clear hG hGf hf0 hf1 hB0 hB1;refine cI 8 (fun W=>W.cell? ⟨X,0,aD⟩=aC (.pointer (aC ⟨G,0,aD⟩))) (by kernel_rfl) hX (fun hHeld=>?_);refine tkT 0 ?_;refine tkT 1 ?_;refine tkT 2 ?_;refine tkT 3 ?_;refine tkT 4 ?_;refine tkT 5 ?_;refine tkT 6 ?_;refine cK (i:=7) (by kernel_rfl) rfl (fun K hK=>?_);simp only[zA,zB,zC];go_simp;obtain⟨W9,hW9⟩:∃ W9,(w.alloc (.cells #[.pointer (aC ⟨B,0,aD⟩),.pointer (aC ⟨B,1,aD⟩)] 150)).drew=W9:=⟨_,rfl⟩;rw[hW9];have hx9:Ext w W9:=hW9▸((Ext.rf w).al _).dr;have hl9:W9.heap[w.heap.size]?=aC (.cells #[.pointer (aC ⟨B,0,aD⟩),.pointer (aC ⟨B,1,aD⟩)] 150 (0,0)):=hW9▸aV (heap_alloc_new w (.cells #[.pointer (aC ⟨B,0,aD⟩),.pointer (aC ⟨B,1,aD⟩)] 150)) (Ext.rf _).dr;have hfr:∀ a:Addr,(∃ old,w.cell? a=aC old)->w.frozen? a=false->(∃ old,W9.cell? a=aC old)/\W9.frozen? a=false/\a.block≠w.heap.size:=fun a ⟨old,h1⟩ h2=>by
  have hlt:=aCf w a h1;refine⟨⟨old,eI hx9 h1⟩,?_,by omega⟩;rw[aEx (hx9.block a.block hlt)];exact h2
 have hG9:=hfr _ ⟨_,HG.out⟩ HF.out.1;have hB9:=hfr _ HB.out.1 HF.out.2.1;have hC9:=hfr _ HB.out.2 HF.out.2.2;have INTO:=hid (show Calls prog 105 #[.pointer (aC ⟨G,0,aD⟩),aE (aC ⟨w.heap.size,0,aD⟩) 2 2] W9 (fun e w'=>e=(if 2<=t.length then .returned (.tuple #[]) else .panicked qC)/\w'=iJ G [⟨B,0,aD⟩,⟨B,1,aD⟩] t W9) from Ez W9 G w.heap.size [⟨B,0,aD⟩,⟨B,1,aD⟩] t (by simp) (eI hx9 HG.out) hG9.2.1 hl9 (fun e=>hG9.2.2 e.symm) (fun a ha=>by
  simp only[aCQ,aD1,or_false] at ha;rcases ha with rfl | rfl
  ·exact⟨hBG,hB9.2.2,hB9.1,hB9.2.1⟩
  ·exact⟨hBG,hC9.2.2,hC9.1,hC9.2.1⟩))
 have HX9:=hid hx9;clear hG9 hB9 hC9 hfr hl9 hW9 HG HF HB;refine hK.out _ _ ?_ (fun hHeld=>?_)
 ·(exact hx9.ce' hHeld)
 clear hK K;refine dS (t:=8) (by kernel_rfl) rfl (by kernel_rfl) (fun K hK=>?_);simp only[zA,zB,zC];go_simp;by_cases h2:2<=t.length
 ·rw[if_pos h2] at INTO;refine INTO.out.mono ?_;rintro e w2 ⟨rfl,hw2⟩;refine hK.out _ _ ?_;clear hK K
  go_end0
  exact⟨W9,HX9.out,by rw[if_pos h2],hw2⟩
 ·rw[if_neg h2] at INTO;refine INTO.out.mono ?_;rintro e w2 ⟨rfl,hw2⟩;exact⟨rfl,W9,HX9.out,by rw[if_neg h2],hw2⟩
theorem Wv (w:World) (X G B:Nat) (t:List UInt8) (hX:w.cell? ⟨X,0,aD⟩=aC (.pointer (aC ⟨G,0,aD⟩))) (hG:w.cell? ⟨G,0,aD⟩=aC (.string (str t))) (hGf:w.frozen? ⟨G,0,aD⟩=false)
  (hB0:∃ old,w.cell? ⟨B,0,aD⟩=aC old) (hB1:∃ old,w.cell? ⟨B,1,aD⟩=aC old) (hf0:w.frozen? ⟨B,0,aD⟩=false) (hf1:w.frozen? ⟨B,1,aD⟩=false) (hBG:B≠G) :
  Calls prog 109 #[.pointer (aC ⟨B,0,aD⟩),.pointer (aC ⟨X,0,aD⟩)] w fun e w'=>∃ w1,Ext w w1/\e=(if 2<=t.length then .returned (.tuple #[]) else .panicked qC)/\w'=iJ G [⟨B,0,aD⟩,⟨B,1,aD⟩] t w1:=by
 go_enter func109,ntmps109;have HG:=hid hG;have HF:=hid (And.intro hGf (And.intro hf0 hf1));have HB:=hid (And.intro hB0 hB1);clear hG hGf hf0 hf1 hB0 hB1;refine cI 8 (fun W=>W.cell? ⟨X,0,aD⟩=aC (.pointer (aC ⟨G,0,aD⟩))) (by kernel_rfl) hX (fun hHeld=>?_);refine tkT 0 ?_;refine tkT 1 ?_;refine tkT 2 ?_;refine tkT 3 ?_;refine tkT 4 ?_;refine tkT 5 ?_;refine tkT 6 ?_;refine cK (i:=7) (by kernel_rfl) rfl (fun K hK=>?_);simp only[zA,zB,zC];go_simp;obtain⟨W9,hW9⟩:∃ W9,(w.alloc (.cells #[.pointer (aC ⟨B,0,aD⟩),.pointer (aC ⟨B,1,aD⟩)] 150)).drew=W9:=⟨_,rfl⟩;rw[hW9];have hx9:Ext w W9:=hW9▸((Ext.rf w).al _).dr;have hl9:W9.heap[w.heap.size]?=aC (.cells #[.pointer (aC ⟨B,0,aD⟩),.pointer (aC ⟨B,1,aD⟩)] 150 (0,0)):=hW9▸aV (heap_alloc_new w (.cells #[.pointer (aC ⟨B,0,aD⟩),.pointer (aC ⟨B,1,aD⟩)] 150)) (Ext.rf _).dr;have hfr:∀ a:Addr,(∃ old,w.cell? a=aC old)->w.frozen? a=false->(∃ old,W9.cell? a=aC old)/\W9.frozen? a=false/\a.block≠w.heap.size:=fun a ⟨old,h1⟩ h2=>by
  have hlt:=aCf w a h1;refine⟨⟨old,eI hx9 h1⟩,?_,by omega⟩;rw[aEx (hx9.block a.block hlt)];exact h2
 have hG9:=hfr _ ⟨_,HG.out⟩ HF.out.1;have hB9:=hfr _ HB.out.1 HF.out.2.1;have hC9:=hfr _ HB.out.2 HF.out.2.2;have INTO:=hid (show Calls prog 105 #[.pointer (aC ⟨G,0,aD⟩),aE (aC ⟨w.heap.size,0,aD⟩) 2 2] W9 (fun e w'=>e=(if 2<=t.length then .returned (.tuple #[]) else .panicked qC)/\w'=iJ G [⟨B,0,aD⟩,⟨B,1,aD⟩] t W9) from Ez W9 G w.heap.size [⟨B,0,aD⟩,⟨B,1,aD⟩] t (by simp) (eI hx9 HG.out) hG9.2.1 hl9 (fun e=>hG9.2.2 e.symm) (fun a ha=>by
  simp only[aCQ,aD1,or_false] at ha;rcases ha with rfl | rfl
  ·exact⟨hBG,hB9.2.2,hB9.1,hB9.2.1⟩
  ·exact⟨hBG,hC9.2.2,hC9.1,hC9.2.1⟩))
 have HX9:=hid hx9;clear hG9 hB9 hC9 hfr hl9 hW9 HG HF HB;refine hK.out _ _ ?_ (fun hHeld=>?_)
 ·(exact hx9.ce' hHeld)
 clear hK K;refine dS (t:=8) (by kernel_rfl) rfl (by kernel_rfl) (fun K hK=>?_);simp only[zA,zB,zC];go_simp;by_cases h2:2<=t.length
 ·rw[if_pos h2] at INTO;refine INTO.out.mono ?_;rintro e w2 ⟨rfl,hw2⟩;refine hK.out _ _ ?_;clear hK K
  go_end0
  exact⟨W9,HX9.out,by rw[if_pos h2],hw2⟩
 ·rw[if_neg h2] at INTO;refine INTO.out.mono ?_;rintro e w2 ⟨rfl,hw2⟩;exact⟨rfl,W9,HX9.out,by rw[if_neg h2],hw2⟩
theorem nR {w W:World} {G B o:Nat} {v:Value} (h:w.grownBy W (aC G)) (hB:w.heap.size<=B):w.grownBy (W.setCell ⟨B,o,aD⟩ v) (aC G):=
 ⟨h.os,h.tape,h.output,by have:=h.size;simpa[World.setCell] using this,fun k hk hne=>by
  rw[heap_setCell_other W ⟨B,o,aD⟩ _ _ (by show k≠B;omega)];exact h.block k hk hne⟩
theorem wQ {G:Nat}:∀ (ps:List Addr) (t:List UInt8) {w W:World},w.grownBy W (aC G)->(∀ a∈ps,w.heap.size<=a.block/\a.spot=aD)->w.grownBy (iJ G ps t W) (aC G)
 | [],_,_,_,h,_=>h
 | _::_,[],_,_,h,_=>h
 | a::ps,b::t,w,W,h,ha=>by
  refine wQ ps t ?_ (fun c hc=>ha c (aC3 _ hc));obtain⟨h1,h2⟩:=ha a (aDe ..);have e:a=⟨a.block,a.off,aD⟩:=by cases a;simp_all
  rw[e];exact nR (bG h (aY W G 0 _)) h1
theorem Ks {w W W5:World} {G:Nat} {row:Option Nat} (h:w.grownBy W (aC G)) (hg:W.grownBy W5 row) (hr:∀ r,row=aC r->w.heap.size<=r):w.grownBy W5 (aC G):=
 ⟨hg.os.trans h.os,hg.tape.trans h.tape,hg.output.trans h.output,Nat.le_trans h.size hg.size,fun k hk hne=>(hg.block k (aCi hk h.size) (fun e=>by have:=hr k e.symm;omega)).trans (h.block k hk hne)⟩
def dO:Nat->List UInt8->List Piece
 | 0,_=>[]
 | n+1,a::b::t=>⟨byI a,byI b⟩::dO n t
 | _+1,_=>[]
theorem jX:∀ (n:Nat) (t:List UInt8),2*n<=t.length->(dO n t).length=n
 | 0,_,_=>rfl
 | n+1,[],h=>by simp at h
 | n+1,[a],h=>by simp at h;omega
 | n+1,a::b::t,h=>by
  simp only[dO,aCj];rw[jX n t (by simp at h;omega)]
theorem rW:∀ (n:Nat) (t:List UInt8) (a b:UInt8) (r:List UInt8),t.drop (2*n)=a::b::r->dO (n+1) t=dO n t++[⟨byI a,byI b⟩]
 | 0,t,a,b,r,h=>by
  rw[show t=a::b::r from h];rfl
 | n+1,[],a,b,r,h=>by simp at h
 | n+1,[c],a,b,r,h=>by
  rw[aEp (by simp;omega)] at h;exact absurd h (by simp)
 | n+1,c::d::t,a,b,r,h=>by
  have h':t.drop (2*n)=a::b::r:=by
   rw[show 2*(n+1)=2*n+1+1 by omega,aDw,aDw] at h;exact h
  show ⟨byI c,byI d⟩::dO (n+1) t=⟨byI c,byI d⟩::dO n t++[⟨byI a,byI b⟩];rw[rW n t a b r h'];rfl
def aA0 (w:World) (G most:Nat) (t:List UInt8) (e:Ending) (w':World):Prop:=
   (
    ∃ (n:UInt8) (r:List UInt8) (v:Value),t=n::r/\n.toNat<=most/\2*n.toNat<=r.length/\e=.returned v/\w'.ownsRow w.heap.size 44 2 v n.toNat (cA Piece.Len Piece.N (dO n.toNat r))/\w'.cell? ⟨G,0,aD⟩=aC (.string (str (r.drop (2*n.toNat))))/\w'.frozen? ⟨G,0,aD⟩=false)\/
    ((∀ (n:UInt8) (r:List UInt8),t=n::r->¬ (n.toNat<=most/\2*n.toNat<=r.length))/\e=.panicked qC)
theorem In (w:World) (X G most:Nat) (t:List UInt8) (hX:w.cell? ⟨X,0,aD⟩=aC (.pointer (aC ⟨G,0,aD⟩))) (hG:w.cell? ⟨G,0,aD⟩=aC (.string (str t))) (hGf:w.frozen? ⟨G,0,aD⟩=false) (hXG:X≠G) (hmost:most<=48) :
  Calls prog 106 #[.pointer (aC ⟨G,0,aD⟩),aA aB (most:Int),.func (.func 107) #[] #[.pointer (aC ⟨X,0,aD⟩)]] w fun e w'=>w.grownBy w' (aC G)/\
   aA0 w G most t e w':=by
 have HX:=hid hX;have HF:=hid hGf;have hGlt:G < w.heap.size:=aCf w _ hG;have hXlt:X < w.heap.size:=aCf w _ hX;cases t with
 | nil=>
  have NUM:=hid (Ek w G hG);clear hX hG hGf;go_enter func106,ntmps106
  go_wp2_with fail
  refine NUM.out.mono ?_;rintro e w2 ⟨rfl,hw2⟩;obtain rfl:=hw2.symm
  go_wp2_with fail
  exact⟨rfl,bI (Ext.rf _),Or.inr ⟨fun n r h=>(by cases h),rfl⟩⟩
 | cons n r=>
  have NUM:=hid (Ej w G n r hG hGf);have hG1:(w.setCell ⟨G,0,aD⟩ (.string (str r))).cell? ⟨G,0,aD⟩=aC (.string (str r)):=aEw _ _ _ hG;have hF1:(w.setCell ⟨G,0,aD⟩ (.string (str r))).frozen? ⟨G,0,aD⟩=false:=by rw[aEv];exact hGf
  have HG1:=hid hG1;have HF1:=hid hF1;have hby:byI n=((n.toNat:Nat):Int):=rfl;rw[hby] at NUM;generalize hk:n.toNat=k at *;have HKN:=hid hk;clear hX hG hGf hG1 hF1 hby hk;go_enter func106,ntmps106
  go_wp2_with fail
  refine NUM.out.mono ?_;rintro e w2 ⟨rfl,hw2⟩;have HR2:=hid (show w.grownBy w2 (aC G) from hw2▸aY w G 0 _);rw[<- hw2] at HG1 HF1;clear hw2 NUM;by_cases hm:most < k
  ·have hm':(most:Int) < (k:Int):=by omega
   have hmd:=deT hm'
   go_wp2_with fail
   exact⟨rfl,HR2.out,Or.inr ⟨fun n' r' h=>by obtain⟨h1,h2⟩:=List.cons.inj h;rw[<- h1,<- h2,HKN.out];omega,rfl⟩⟩
  ·have hm':¬ (most:Int) < (k:Int):=by omega
   have hmd:=deF hm'
   go_wp2_with fail
   obtain⟨ir,ir1,ir2,ir3,ir4⟩:=info_parts info44;have hk255:k<=48:=by omega
   go_loopw [8,18] (fun v c wr=>∃ i:Nat,c=aA aB i/\i<=k/\2*i<=r.length/\Hid (w.grownBy wr (aC G))/\Hid (wr.cell? ⟨G,0,aD⟩=aC (.string (str (r.drop (2*i)))))/\Hid (wr.frozen? ⟨G,0,aD⟩=false)/\Hid (wr.ownsRow w.heap.size 44 2 v i (cA Piece.Len Piece.N (dO i r)))) (fun _ c _=>k - (intOf c).toNat)
   case atStart=>exact⟨0,rfl,aCw _,aCw _,HR2,HG1,HF1,hid (aCD _ _ _ _)⟩
   case round=>
    obtain⟨i,rfl,hi,hir,HRW,HGW,HFW,HOW⟩:=hrel;by_cases hlt:i < k
    ·have hlt':(i:Int) < (k:Int):=by omega
     have hGl:G < wr.heap.size:=aCf wr _ HGW.out;have hx1:=(Ext.rf wr).al (.cells #[aA aB 0,aA aB 0] 44);have hbx:=heap_alloc_new wr (.cells #[aA aB 0,aA aB 0] 44);have RD:=hid (Ww (wr.alloc (.cells #[aA aB 0,aA aB 0] 44)) X G wr.heap.size (r.drop (2*i)) (by
      have h1:wr.cell? ⟨X,0,aD⟩=w.cell? ⟨X,0,aD⟩:=aD2 (a:=⟨X,0,aD⟩) (HRW.out.block X hXlt (fun e=>hXG (Option.some.inj e)));exact eI hx1 (h1.trans HX.out)) (eI hx1 HGW.out) (by rw[aEx (hx1.block G hGl)];exact HFW.out) ⟨_,cell_of_row _ _ 0 _ _ _ hbx⟩ ⟨_,cell_of_row _ _ 1 _ _ _ hbx⟩ (frozen_of_row _ _ 0 _ _ hbx) (frozen_of_row _ _ 1 _ _ hbx) (by omega))
     have HBX:=hid hbx;clear hx1 hbx
     go_wp2_with fail
     refine RD.out.mono ?_;rintro e w3 ⟨w1,hx3,he,hw3⟩;by_cases h2:2<=(r.drop (2*i)).length
     ·rw[if_pos h2] at he;subst he;obtain⟨a,b,q,hq⟩:∃ a b q,r.drop (2*i)=a::b::q:=by
       cases hd:r.drop (2*i) with
       | nil=>rw[hd] at h2;simp at h2
       | cons a l=>
        cases l with
        | nil=>rw[hd] at h2;simp at h2
        | cons b q=>exact⟨a,b,q,rfl⟩
      have hq2:r.drop (2*(i+1))=q:=by
       have e:r.drop (2*(i+1))=(r.drop (2*i)).drop 2:=by rw[aEy];rfl
       rw[e,hq];rfl
      have hlen2:2*(i+1)<=r.length:=by
       rw[aDT] at h2;omega
      have hx13:=((Ext.rf wr).al (.cells #[aA aB 0,aA aB 0] 44)).tr hx3;have hw3':w3=(((w1.setCell ⟨G,0,aD⟩ (.string (str (b::q)))).setCell ⟨wr.heap.size,0,aD⟩ (aA aB (byI a))).setCell ⟨G,0,aD⟩ (.string (str q))).setCell ⟨wr.heap.size,1,aD⟩ (aA aB (byI b)):=by rw[hw3,hq];rfl
      have hBG:wr.heap.size≠G:=by omega
      have hb1:w1.heap[wr.heap.size]?=aC (.cells #[aA aB 0,aA aB 0] 44 (0,0)):=aV HBX.out hx3;have hb3:w3.heap[wr.heap.size]?=aC (.cells #[aA aB (byI a),aA aB (byI b)] 44 (0,0)):=by
       rw[hw3'];have e1:=heap_setCell_same (w1.setCell ⟨G,0,aD⟩ (.string (str (b::q)))) wr.heap.size 0 _ _ (aA aB (byI a)) ((heap_setCell_other w1 ⟨G,0,aD⟩ wr.heap.size (.string (str (b::q))) hBG).trans hb1);have e2:=(heap_setCell_other ((w1.setCell ⟨G,0,aD⟩ (.string (str (b::q)))).setCell ⟨wr.heap.size,0,aD⟩ (aA aB (byI a))) ⟨G,0,aD⟩ wr.heap.size (.string (str q)) hBG).trans e1;exact heap_setCell_same _ wr.heap.size 1 _ _ (aA aB (byI b)) e2
      have hR3:w.grownBy w3 (aC G):=by
       rw[hw3'];have hs:=HRW.out.size;exact nR (bG (nR (bG (bG HRW.out (bI hx13)) (aY w1 G 0 _)) hs) (aY _ G 0 _)) hs
      have hg1:w1.cell? ⟨G,0,aD⟩=aC (.string (str (r.drop (2*i)))):=eI hx13 HGW.out;have hg3:w3.cell? ⟨G,0,aD⟩=aC (.string (str q)):=by
       rw[hw3',aEu _ _ _ _ (fun e=>hBG (congrArg Addr.block e))];refine aEw _ _ _ (u:=.string (str (b::q))) ?_;rw[aEu _ _ _ _ (fun e=>hBG (congrArg Addr.block e))];exact aEw _ _ _ hg1
      have hf3:w3.frozen? ⟨G,0,aD⟩=false:=by
       rw[hw3',aEv,aEv,aEv,aEv,aEx (hx13.block G hGl)];exact HFW.out
      have hfar:∀ rr,u8.ownBlock=aC rr->rr < wr.heap.size:=fun rr hr=>(HOW.out.lt rr hr).2;have ho3:w3.ownsRow w.heap.size 44 2 u8 i (cA Piece.Len Piece.N (dO i r)):=by
       rw[hw3'];have o1:=bW (bC HOW.out hx13) (aY w1 G 0 (.string (str (b::q)))) hGlt;have o2:=dC o1 (aY _ wr.heap.size 0 (aA aB (byI a))) (fun rr hr e=>by have h1:=hfar rr hr;have h2:=Option.some.inj e;omega);have o3:=bW o2 (aY _ G 0 (.string (str q))) hGlt;exact dC o3 (aY _ wr.heap.size 1 (aA aB (byI b))) (fun rr hr e=>by have h1:=hfar rr hr;have h2:=Option.some.inj e;omega)
      have k0:=cell_of_row w3 wr.heap.size 0 _ _ _ hb3;have k1:=cell_of_row w3 wr.heap.size 1 _ _ _ hb3;have HB0:=hid (fun rr hr=>(HOW.out.lt rr hr).1);have HO3:=hid (ho3.alloc (.cells #[aA aB (byI a),aA aB (byI b)] 44));have HN:=hid (yE w3 rfl (aA aB (byI a)) (aA aB (byI b)) 44);have hsw:=hR3.size;have HSZ:=hid (show w.heap.size<=(w3.alloc (.cells #[aA aB (byI a),aA aB (byI b)] 44)).heap.size from by rw[aD3];omega);have HR3:=hid hR3;have HG3:=hid hg3;have HF3:=hid hf3;have HPS:=hid (rW i r a b q hq);have HQ2:=hid hq2;clear hw3 hw3' hb1 hb3 hR3 hg1 hg3 hf3 hfar ho3 hq hq2 hx3 hx13 h2 RD HBX HGW HFW HOW hBG
      go_wp2_with (at_builtin;refine wpList_append_own _ rfl _ _ 26 rfl w.heap.size 44 ir _ 2 16 underlying26 ir1 ir2 ir3 ir4 rfl (by decide) u8 i (cA Piece.Len Piece.N (dO i r)) rfl HO3.out ⟨w3.heap.size,0,aD⟩ 1 1 [aA aB (byI a),aA aB (byI b)] rfl rfl HN.out (yB _ _ _ _) (by unfold maxLen;omega) (by omega) HSZ.out ?_;intro v5 W5 hown hgrow hnil)
      have hx4:=(Ext.rf w3).al (.cells #[aA aB (byI a),aA aB (byI b)] 44);have hgl3:G < w3.heap.size:=by omega
      have hkeep:W5.heap[G]?=w3.heap[G]?:=(hgrow.block G (by rw[aD3];omega) (fun e=>by have:=HB0.out G e.symm;omega)).trans (hx4.block G hgl3);go_roundw
      case rel=>exact⟨i+1,by go_num,by omega,hlen2,hid (Ks (bG HR3.out (bI hx4)) hgrow HB0.out),hid (by rw[HQ2.out,aD2 (a:=⟨G,0,aD⟩) hkeep];exact HG3.out),hid (by rw[aEx (a:=⟨G,0,aD⟩) hkeep];exact HF3.out),hid (by
       rw[HPS.out,kC];exact hown)⟩
      case measure=>simp[intOf];omega
     ·rw[if_neg h2] at he;subst he;have hR3:w.grownBy w3 (aC G):=by
       rw[hw3];have hs:=HRW.out.size;refine wQ _ _ (bG (bG HRW.out (bI ((Ext.rf wr).al (.cells #[aA aB 0,aA aB 0] 44)))) (bI hx3)) (fun c hc=>?_);simp only[aCQ,aD1,or_false] at hc;rcases hc with rfl | rfl
       ·exact⟨hs,rfl⟩
       ·exact⟨hs,rfl⟩
      rw[aDT] at h2;have HR3:=hid hR3;clear hR3 hw3 RD HBX HGW HFW HOW
      go_wp2_with fail
      exact⟨rfl,HR3.out,Or.inr ⟨fun n' r' h=>by obtain⟨h1,h2⟩:=List.cons.inj h;rw[<- h1,<- h2,HKN.out];omega,rfl⟩⟩
    ·obtain rfl:i=k:=by omega
     have hno:¬ (i:Int) < (i:Int):=by omega
     clear hlt
     go_wp2_with fail
     go_ret;refine⟨HRW.out,Or.inl ⟨n,r,u8,rfl,by rw[HKN.out];omega,by rw[HKN.out];exact hir,rfl,?_,?_,HFW.out⟩⟩
     ·rw[HKN.out];exact HOW.out
     ·rw[HKN.out];exact HGW.out
def iM:Nat->List UInt8->List Run
 | 0,_=>[]
 | n+1,a::b::t=>⟨byI a,byI b⟩::iM n t
 | _+1,_=>[]
theorem mT:∀ (n:Nat) (t:List UInt8),2*n<=t.length->(iM n t).length=n
 | 0,_,_=>rfl
 | n+1,[],h=>by simp at h
 | n+1,[a],h=>by simp at h;omega
 | n+1,a::b::t,h=>by
  simp only[iM,aCj];rw[mT n t (by simp at h;omega)]
theorem wI:∀ (n:Nat) (t:List UInt8) (a b:UInt8) (r:List UInt8),t.drop (2*n)=a::b::r->iM (n+1) t=iM n t++[⟨byI a,byI b⟩]
 | 0,t,a,b,r,h=>by
  rw[show t=a::b::r from h];rfl
 | n+1,[],a,b,r,h=>by simp at h
 | n+1,[c],a,b,r,h=>by
  rw[aEp (by simp;omega)] at h;exact absurd h (by simp)
 | n+1,c::d::t,a,b,r,h=>by
  have h':t.drop (2*n)=a::b::r:=by
   rw[show 2*(n+1)=2*n+1+1 by omega,aDw,aDw] at h;exact h
  show ⟨byI c,byI d⟩::iM (n+1) t=⟨byI c,byI d⟩::iM n t++[⟨byI a,byI b⟩];rw[wI n t a b r h'];rfl
def aBA (w:World) (G most:Nat) (t:List UInt8) (e:Ending) (w':World):Prop:=
   (
    ∃ (n:UInt8) (r:List UInt8) (v:Value),t=n::r/\n.toNat<=most/\2*n.toNat<=r.length/\e=.returned v/\w'.ownsRow w.heap.size 48 2 v n.toNat (cA Run.At Run.N (iM n.toNat r))/\w'.cell? ⟨G,0,aD⟩=aC (.string (str (r.drop (2*n.toNat))))/\w'.frozen? ⟨G,0,aD⟩=false)\/
    ((∀ (n:UInt8) (r:List UInt8),t=n::r->¬ (n.toNat<=most/\2*n.toNat<=r.length))/\e=.panicked qC)
theorem Om (w:World) (X G most:Nat) (t:List UInt8) (hX:w.cell? ⟨X,0,aD⟩=aC (.pointer (aC ⟨G,0,aD⟩))) (hG:w.cell? ⟨G,0,aD⟩=aC (.string (str t))) (hGf:w.frozen? ⟨G,0,aD⟩=false) (hXG:X≠G) (hmost:most<=48) :
  Calls prog 108 #[.pointer (aC ⟨G,0,aD⟩),aA aB (most:Int),.func (.func 109) #[] #[.pointer (aC ⟨X,0,aD⟩)]] w fun e w'=>w.grownBy w' (aC G)/\
   aBA w G most t e w':=by
 have HX:=hid hX;have HF:=hid hGf;have hGlt:G < w.heap.size:=aCf w _ hG;have hXlt:X < w.heap.size:=aCf w _ hX;cases t with
 | nil=>
  have NUM:=hid (Ek w G hG);clear hX hG hGf;go_enter func108,ntmps108
  go_wp2_with fail
  refine NUM.out.mono ?_;rintro e w2 ⟨rfl,hw2⟩;obtain rfl:=hw2.symm
  go_wp2_with fail
  exact⟨rfl,bI (Ext.rf _),Or.inr ⟨fun n r h=>(by cases h),rfl⟩⟩
 | cons n r=>
  have NUM:=hid (Ej w G n r hG hGf);have hG1:(w.setCell ⟨G,0,aD⟩ (.string (str r))).cell? ⟨G,0,aD⟩=aC (.string (str r)):=aEw _ _ _ hG;have hF1:(w.setCell ⟨G,0,aD⟩ (.string (str r))).frozen? ⟨G,0,aD⟩=false:=by rw[aEv];exact hGf
  have HG1:=hid hG1;have HF1:=hid hF1;have hby:byI n=((n.toNat:Nat):Int):=rfl;rw[hby] at NUM;generalize hk:n.toNat=k at *;have HKN:=hid hk;clear hX hG hGf hG1 hF1 hby hk;go_enter func108,ntmps108
  go_wp2_with fail
  refine NUM.out.mono ?_;rintro e w2 ⟨rfl,hw2⟩;have HR2:=hid (show w.grownBy w2 (aC G) from hw2▸aY w G 0 _);rw[<- hw2] at HG1 HF1;clear hw2 NUM;by_cases hm:most < k
  ·have hm':(most:Int) < (k:Int):=by omega
   have hmd:=deT hm'
   go_wp2_with fail
   exact⟨rfl,HR2.out,Or.inr ⟨fun n' r' h=>by obtain⟨h1,h2⟩:=List.cons.inj h;rw[<- h1,<- h2,HKN.out];omega,rfl⟩⟩
  ·have hm':¬ (most:Int) < (k:Int):=by omega
   have hmd:=deF hm'
   go_wp2_with fail
   obtain⟨ir,ir1,ir2,ir3,ir4⟩:=info_parts info48;have hk255:k<=48:=by omega
   go_loopw [8,18] (fun v c wr=>∃ i:Nat,c=aA aB i/\i<=k/\2*i<=r.length/\Hid (w.grownBy wr (aC G))/\Hid (wr.cell? ⟨G,0,aD⟩=aC (.string (str (r.drop (2*i)))))/\Hid (wr.frozen? ⟨G,0,aD⟩=false)/\Hid (wr.ownsRow w.heap.size 48 2 v i (cA Run.At Run.N (iM i r)))) (fun _ c _=>k - (intOf c).toNat)
   case atStart=>exact⟨0,rfl,aCw _,aCw _,HR2,HG1,HF1,hid (aCD _ _ _ _)⟩
   case round=>
    obtain⟨i,rfl,hi,hir,HRW,HGW,HFW,HOW⟩:=hrel;by_cases hlt:i < k
    ·have hlt':(i:Int) < (k:Int):=by omega
     have hGl:G < wr.heap.size:=aCf wr _ HGW.out;have hx1:=(Ext.rf wr).al (.cells #[aA aB 0,aA aB 0] 48);have hbx:=heap_alloc_new wr (.cells #[aA aB 0,aA aB 0] 48);have RD:=hid (Wv (wr.alloc (.cells #[aA aB 0,aA aB 0] 48)) X G wr.heap.size (r.drop (2*i)) (by
      have h1:wr.cell? ⟨X,0,aD⟩=w.cell? ⟨X,0,aD⟩:=aD2 (a:=⟨X,0,aD⟩) (HRW.out.block X hXlt (fun e=>hXG (Option.some.inj e)));exact eI hx1 (h1.trans HX.out)) (eI hx1 HGW.out) (by rw[aEx (hx1.block G hGl)];exact HFW.out) ⟨_,cell_of_row _ _ 0 _ _ _ hbx⟩ ⟨_,cell_of_row _ _ 1 _ _ _ hbx⟩ (frozen_of_row _ _ 0 _ _ hbx) (frozen_of_row _ _ 1 _ _ hbx) (by omega))
     have HBX:=hid hbx;clear hx1 hbx
     go_wp2_with fail
     refine RD.out.mono ?_;rintro e w3 ⟨w1,hx3,he,hw3⟩;by_cases h2:2<=(r.drop (2*i)).length
     ·rw[if_pos h2] at he;subst he;obtain⟨a,b,q,hq⟩:∃ a b q,r.drop (2*i)=a::b::q:=by
       cases hd:r.drop (2*i) with
       | nil=>rw[hd] at h2;simp at h2
       | cons a l=>
        cases l with
        | nil=>rw[hd] at h2;simp at h2
        | cons b q=>exact⟨a,b,q,rfl⟩
      have hq2:r.drop (2*(i+1))=q:=by
       have e:r.drop (2*(i+1))=(r.drop (2*i)).drop 2:=by rw[aEy];rfl
       rw[e,hq];rfl
      have hlen2:2*(i+1)<=r.length:=by
       rw[aDT] at h2;omega
      have hx13:=((Ext.rf wr).al (.cells #[aA aB 0,aA aB 0] 48)).tr hx3;have hw3':w3=(((w1.setCell ⟨G,0,aD⟩ (.string (str (b::q)))).setCell ⟨wr.heap.size,0,aD⟩ (aA aB (byI a))).setCell ⟨G,0,aD⟩ (.string (str q))).setCell ⟨wr.heap.size,1,aD⟩ (aA aB (byI b)):=by rw[hw3,hq];rfl
      have hBG:wr.heap.size≠G:=by omega
      have hb1:w1.heap[wr.heap.size]?=aC (.cells #[aA aB 0,aA aB 0] 48 (0,0)):=aV HBX.out hx3;have hb3:w3.heap[wr.heap.size]?=aC (.cells #[aA aB (byI a),aA aB (byI b)] 48 (0,0)):=by
       rw[hw3'];have e1:=heap_setCell_same (w1.setCell ⟨G,0,aD⟩ (.string (str (b::q)))) wr.heap.size 0 _ _ (aA aB (byI a)) ((heap_setCell_other w1 ⟨G,0,aD⟩ wr.heap.size (.string (str (b::q))) hBG).trans hb1);have e2:=(heap_setCell_other ((w1.setCell ⟨G,0,aD⟩ (.string (str (b::q)))).setCell ⟨wr.heap.size,0,aD⟩ (aA aB (byI a))) ⟨G,0,aD⟩ wr.heap.size (.string (str q)) hBG).trans e1;exact heap_setCell_same _ wr.heap.size 1 _ _ (aA aB (byI b)) e2
      have hR3:w.grownBy w3 (aC G):=by
       rw[hw3'];have hs:=HRW.out.size;exact nR (bG (nR (bG (bG HRW.out (bI hx13)) (aY w1 G 0 _)) hs) (aY _ G 0 _)) hs
      have hg1:w1.cell? ⟨G,0,aD⟩=aC (.string (str (r.drop (2*i)))):=eI hx13 HGW.out;have hg3:w3.cell? ⟨G,0,aD⟩=aC (.string (str q)):=by
       rw[hw3',aEu _ _ _ _ (fun e=>hBG (congrArg Addr.block e))];refine aEw _ _ _ (u:=.string (str (b::q))) ?_;rw[aEu _ _ _ _ (fun e=>hBG (congrArg Addr.block e))];exact aEw _ _ _ hg1
      have hf3:w3.frozen? ⟨G,0,aD⟩=false:=by
       rw[hw3',aEv,aEv,aEv,aEv,aEx (hx13.block G hGl)];exact HFW.out
      have hfar:∀ rr,u8.ownBlock=aC rr->rr < wr.heap.size:=fun rr hr=>(HOW.out.lt rr hr).2;have ho3:w3.ownsRow w.heap.size 48 2 u8 i (cA Run.At Run.N (iM i r)):=by
       rw[hw3'];have o1:=bW (bC HOW.out hx13) (aY w1 G 0 (.string (str (b::q)))) hGlt;have o2:=dC o1 (aY _ wr.heap.size 0 (aA aB (byI a))) (fun rr hr e=>by have h1:=hfar rr hr;have h2:=Option.some.inj e;omega);have o3:=bW o2 (aY _ G 0 (.string (str q))) hGlt;exact dC o3 (aY _ wr.heap.size 1 (aA aB (byI b))) (fun rr hr e=>by have h1:=hfar rr hr;have h2:=Option.some.inj e;omega)
      have k0:=cell_of_row w3 wr.heap.size 0 _ _ _ hb3;have k1:=cell_of_row w3 wr.heap.size 1 _ _ _ hb3;have HB0:=hid (fun rr hr=>(HOW.out.lt rr hr).1);have HO3:=hid (ho3.alloc (.cells #[aA aB (byI a),aA aB (byI b)] 48));have HN:=hid (yE w3 rfl (aA aB (byI a)) (aA aB (byI b)) 48);have hsw:=hR3.size;have HSZ:=hid (show w.heap.size<=(w3.alloc (.cells #[aA aB (byI a),aA aB (byI b)] 48)).heap.size from by rw[aD3];omega);have HR3:=hid hR3;have HG3:=hid hg3;have HF3:=hid hf3;have HPS:=hid (wI i r a b q hq);have HQ2:=hid hq2;clear hw3 hw3' hb1 hb3 hR3 hg1 hg3 hf3 hfar ho3 hq hq2 hx3 hx13 h2 RD HBX HGW HFW HOW hBG
      go_wp2_with (at_builtin;refine wpList_append_own _ rfl _ _ 29 rfl w.heap.size 48 ir _ 2 16 underlying29 ir1 ir2 ir3 ir4 rfl (by decide) u8 i (cA Run.At Run.N (iM i r)) rfl HO3.out ⟨w3.heap.size,0,aD⟩ 1 1 [aA aB (byI a),aA aB (byI b)] rfl rfl HN.out (yB _ _ _ _) (by unfold maxLen;omega) (by omega) HSZ.out ?_;intro v5 W5 hown hgrow hnil)
      have hx4:=(Ext.rf w3).al (.cells #[aA aB (byI a),aA aB (byI b)] 48);have hgl3:G < w3.heap.size:=by omega
      have hkeep:W5.heap[G]?=w3.heap[G]?:=(hgrow.block G (by rw[aD3];omega) (fun e=>by have:=HB0.out G e.symm;omega)).trans (hx4.block G hgl3);go_roundw
      case rel=>exact⟨i+1,by go_num,by omega,hlen2,hid (Ks (bG HR3.out (bI hx4)) hgrow HB0.out),hid (by rw[HQ2.out,aD2 (a:=⟨G,0,aD⟩) hkeep];exact HG3.out),hid (by rw[aEx (a:=⟨G,0,aD⟩) hkeep];exact HF3.out),hid (by
       rw[HPS.out,kC];exact hown)⟩
      case measure=>simp[intOf];omega
     ·rw[if_neg h2] at he;subst he;have hR3:w.grownBy w3 (aC G):=by
       rw[hw3];have hs:=HRW.out.size;refine wQ _ _ (bG (bG HRW.out (bI ((Ext.rf wr).al (.cells #[aA aB 0,aA aB 0] 48)))) (bI hx3)) (fun c hc=>?_);simp only[aCQ,aD1,or_false] at hc;rcases hc with rfl | rfl
       ·exact⟨hs,rfl⟩
       ·exact⟨hs,rfl⟩
      rw[aDT] at h2;have HR3:=hid hR3;clear hR3 hw3 RD HBX HGW HFW HOW
      go_wp2_with fail
      exact⟨rfl,HR3.out,Or.inr ⟨fun n' r' h=>by obtain⟨h1,h2⟩:=List.cons.inj h;rw[<- h1,<- h2,HKN.out];omega,rfl⟩⟩
    ·obtain rfl:i=k:=by omega
     have hno:¬ (i:Int) < (i:Int):=by omega
     clear hlt
     go_wp2_with fail
     go_ret;refine⟨HRW.out,Or.inl ⟨n,r,u8,rfl,by rw[HKN.out];omega,by rw[HKN.out];exact hir,rfl,?_,?_,HFW.out⟩⟩
     ·rw[HKN.out];exact HOW.out
     ·rw[HKN.out];exact HGW.out
def jI:List UInt8->Option (bX × List UInt8)
 | k::n::q::f::u::rk::n1::r1=>
  if n1.toNat<=3/\2*n1.toNat<=r1.length then
   match r1.drop (2*n1.toNat) with
   | n2::r2=>if n2.toNat<=48/\2*n2.toNat<=r2.length then aC (⟨byI k,byI n,⟨byI q,byI f,byI u,byI rk,dO n1.toNat r1⟩,iM n2.toNat r2⟩,r2.drop (2*n2.toNat)) else aD
   | []=>aD
  else aD
 | _=>aD
theorem mD:(prog.info? 31).map (·.size)=aC 8:=by kernel_rfl
def dQ:Array Value:=#[aA aB 0,aA aB 0,aA aB 0,aA aB 0,aA aB 0,aA aB 0,aE aD 0 0,aE aD 0 0]
theorem Tn (S X R I:Nat) (t:ByteArray) (u:TypeId) (pv:Value) (older:List PanicEntry) (w:World) (cs:Array Value) (h8:cs.size=8) (hS:w.cell? ⟨S,0,aD⟩=aC (.string t)) (hX:w.heap[X]?=aC (.cells cs 31 (0,0)))
  (hR:∃ old,w.cell? ⟨R,0,aD⟩=aC old) (hI:∃ old,w.cell? ⟨I,0,aD⟩=aC old) (fR:w.frozen? ⟨R,0,aD⟩=false) (fI:w.frozen? ⟨I,0,aD⟩=false) (hXR:X≠R) (hXI:X≠I) (hRI:R≠I) :
  CallsD prog 104 #[.pointer (aC ⟨S,0,aD⟩),.pointer (aC ⟨X,0,aD⟩),.pointer (aC ⟨R,0,aD⟩),.pointer (aC ⟨I,0,aD⟩)] (.panicking ({ v:=.iface u pv,recovered:=false }::older)) w fun e u' w'=>
   e=.returned (.tuple #[])/\u'=.panicking ({ v:=.iface u pv,recovered:=true }::older)/\w'=((w.setRow X dQ).setCell ⟨R,0,aD⟩ (.string t)).setCell ⟨I,0,aD⟩ (.bool false):=by
 refine callsD_of_wpS func104 rfl fun c₀ fs hu=>?_;apply wpS_seq;apply wpS_region;simp[wpOpsS,go_sem,recoverD,hu,ntmps104,Exit.thenS];refine wpS_cond (t:=true) (by simp[Act.eval,Array.replicate]) ?_;simp only[if_true];refine wpS_of_wp ?_;show Code.wp _ _ _ { tmps:=#[.pointer (aC ⟨S,0,aD⟩),.pointer (aC ⟨X,0,aD⟩),.pointer (aC ⟨R,0,aD⟩),.pointer (aC ⟨I,0,aD⟩),.iface u pv,.bool true,undef,undef],defers:=[]} w;obtain⟨oR,hR⟩:=hR;obtain⟨oI,hI⟩:=hI;have hXlt:=(aCg.1 hX).1;have r1:(w.setRow X #[aA aB 0,aA aB 0,aA aB 0,aA aB 0,aA aB 0,aA aB 0,aE aD 0 0,aE aD 0 0]).cell? ⟨R,0,aD⟩=aC oR:=by rw[aD2 (a:=⟨R,0,aD⟩) (setRow_other w X _ _ (fun e=>hXR e.symm))];exact hR
 have r2:(w.setRow X #[aA aB 0,aA aB 0,aA aB 0,aA aB 0,aA aB 0,aA aB 0,aE aD 0 0,aE aD 0 0]).frozen? ⟨R,0,aD⟩=false:=by rw[aEx (a:=⟨R,0,aD⟩) (setRow_other w X _ _ (fun e=>hXR e.symm))];exact fR
 have i1:(w.setRow X #[aA aB 0,aA aB 0,aA aB 0,aA aB 0,aA aB 0,aA aB 0,aE aD 0 0,aE aD 0 0]).cell? ⟨I,0,aD⟩=aC oI:=by rw[aD2 (a:=⟨I,0,aD⟩) (setRow_other w X _ _ (fun e=>hXI e.symm))];exact hI
 have i2:(w.setRow X #[aA aB 0,aA aB 0,aA aB 0,aA aB 0,aA aB 0,aA aB 0,aE aD 0 0,aE aD 0 0]).frozen? ⟨I,0,aD⟩=false:=by rw[aEx (a:=⟨I,0,aD⟩) (setRow_other w X _ _ (fun e=>hXI e.symm))];exact fI
 have j1:((w.setRow X #[aA aB 0,aA aB 0,aA aB 0,aA aB 0,aA aB 0,aA aB 0,aE aD 0 0,aE aD 0 0]).setCell ⟨R,0,aD⟩ (.string t)).cell? ⟨I,0,aD⟩=aC oI:=by rw[aEu _ _ _ _ (fun e=>hRI (congrArg Addr.block e))];exact i1
 have j2:((w.setRow X #[aA aB 0,aA aB 0,aA aB 0,aA aB 0,aA aB 0,aA aB 0,aE aD 0 0,aE aD 0 0]).setCell ⟨R,0,aD⟩ (.string t)).frozen? ⟨I,0,aD⟩=false:=by rw[aEv];exact i2
 go_wp2_with (refine wpList_store_row rfl 31 _ _ rfl X #[aA aB 0,aA aB 0,aA aB 0,aA aB 0,aA aB 0,aA aB 0,aE aD 0 0,aE aD 0 0] rfl rfl 31 _ hX mD h8 (by simp[aCh]) ?_)
 simp[bodyPostS,results,results104,dQ]
theorem To (S X R I:Nat) (w:World) :
  CallsD prog 104 #[.pointer (aC ⟨S,0,aD⟩),.pointer (aC ⟨X,0,aD⟩),.pointer (aC ⟨R,0,aD⟩),.pointer (aC ⟨I,0,aD⟩)] .returning w fun e u' w'=>e=.returned (.tuple #[])/\u'=.returning/\w'=w:=by
 refine callsD_of_wpS func104 rfl fun c₀ fs hu=>?_;apply wpS_seq;apply wpS_region;simp[wpOpsS,go_sem,recoverD,hu,ntmps104,Exit.thenS];refine wpS_cond (t:=false) (by simp[Act.eval,Array.replicate]) ?_;simp only[Bool.false_eq_true,if_false];refine wpS_of_wp (wp_skip ?_);cases c₀;simp_all [bodyPostS,results,results104]
structure aBR (t:List UInt8) (w:World) (s:Nat) (W:World):Prop where
 ext:Ext w W
 size:W.heap.size=s+6
 text:W.heap[s]?=aC (.cells #[.string (str t)] 9 (0,0))
 act:W.heap[s+1]?=aC (.cells #[aA aB 0,aA aB 0,aA aB 0,aA aB 0,aA aB 0,aA aB 0,aE aD 0 0,aE aD 0 0] 31 (0,0))
 rest:W.heap[s+1+1]?=aC (.cells #[.string ByteArray.empty] 9 (0,0))
 is:W.heap[s+1+1+1]?=aC (.cells #[.bool false] 4 (0,0))
 glass:W.heap[s+1+1+1+1]?=aC (.cells #[.string (str t)] 147 (0,0))
 ptr:W.cell? ⟨s+1+1+1+1+1,0,aD⟩=aC (.pointer (aC ⟨s+1+1+1+1,0,aD⟩))
def rG (base:Nat) (w:World) (v:Value):Prop:=∀ a n c,v=aE (aC a) n c->base<=a.block/\a.block < w.heap.size
theorem rG.owned {base b2:Nat} {w:World} {e:TypeId} {z n:Nat} {v:Value} {xs:List Value} (h:w.ownsRow base e z v n xs) (hb:b2<=base):rG b2 w v:=by
 intro a m c e;rcases h.2 with ⟨rfl,_⟩ | ⟨b,cap,cur,rfl,h1,h2,_⟩
 ·cases e
 ·cases e;exact⟨by show b2<=b;omega,(aCg.1 h2).1⟩
theorem rG.ext {base:Nat} {w w':World} {v:Value} (h:rG base w v) (hx:Ext w w'):rG base w' v:=fun a n c e=>⟨(h a n c e).1,aCi (h a n c e).2 hx.size⟩
def Gw (w:World) (t:List UInt8) (e:Ending) (w':World):Prop:=Ext w w'/\
   (
    (∃ x r pv cv,jI t=aC (x,r)/\e=.returned (.tuple #[.agg #[aA aB x.aJ,aA aB x.N,aA aB x.aP.aG,aA aB x.aP.aI,aA aB x.aP.aH,aA aB x.aP.aJ,pv,cv],.string (str r),.bool true])/\aW w' pv x.aP.aF/\bE w' cv x.Cap/\rG w.heap.size w' pv/\rG w.heap.size w' cv)\/
    (jI t=aD/\e=.returned (.tuple #[.agg dQ,.string (str t),.bool false])))
theorem rX {P:Program} {fn:Func} {tmps tmps':Array Value} {R:Ending->World->Prop} (h:∀ w,(results fn tmps).run P w=(results fn tmps').run P w):∀ (ds:List Deferred) (u:FrameMode) (w:World),Leaves P fn tmps R ds u w->Leaves P fn tmps' R ds u w
 | [],.returning,w,⟨v,h1,h2⟩=>⟨v,(h w).symm.trans h1,h2⟩
 | [],.panicking _,w,hl=>hl
 | [],.run,_,hl=>hl
 | d::ds,u,w,⟨h0,fv,cap,f,args,h1,h2,h3⟩=>⟨h0,fv,cap,f,args,h1,h2,h3.mono fun e u' w' hq=>by
   cases e with
   | returned v=>exact rX h ds _ _ hq
   | panicked chain=>exact rX h ds _ _ hq
   | outgrown=>exact hq⟩
theorem Ma {tmps tmps':Array Value} (h2:tmps[2]?.getD undef=tmps'[2]?.getD undef) (h3:tmps[3]?.getD undef=tmps'[3]?.getD undef) (h4:tmps[4]?.getD undef=tmps'[4]?.getD undef) (w:World) :
  (results f60 tmps).run prog w=(results f60 tmps').run prog w:=by
 simp[results,results60,h2,h3,h4]
theorem gR {R:Ending->World->Prop} {ch:List PanicEntry} {a:Act} {w:World} {d:Tmp} {v:Value} (hd:d≠2/\d≠3/\d≠4) (h:bodyPostD prog f60 R (.panic ch) (a.put (aC d) v) w):bodyPostD prog f60 R (.panic ch) a w:=by
 refine rX (fun w=>Ma ?_ ?_ ?_ w) _ _ _ h
 ·simp[Act.put,aEz,hd.1]
 ·simp[Act.put,aEz,hd.2.1]
 ·simp[Act.put,aEz,hd.2.2]
theorem tI (w W:World) (t:List UInt8) (s:Nat) (tmps cs:Array Value) (vr vi:Value) (h2:tmps[2]?.getD undef=.pointer (aC ⟨s+1,0,aD⟩)) (h3:tmps[3]?.getD undef=.pointer (aC ⟨s+1+1,0,aD⟩)) (h4:tmps[4]?.getD undef=.pointer (aC ⟨s+1+1+1,0,aD⟩)) (hs:w.heap.size=s) (hx:Ext w W)
  (text:W.heap[s]?=aC (.cells #[.string (str t)] 9 (0,0))) (h8:cs.size=8) (act:W.heap[s+1]?=aC (.cells cs 31 (0,0))) (rest:W.heap[s+1+1]?=aC (.cells #[vr] 9 (0,0))) (is:W.heap[s+1+1+1]?=aC (.cells #[vi] 4 (0,0))) (hn:jI t=aD) :
  bodyPostD prog f60 (Gw w t) (.panic qC) { tmps:=tmps,defers:=[{ target:=.fn (.func 104) #[.pointer (aC ⟨s,0,aD⟩),.pointer (aC ⟨s+1,0,aD⟩),.pointer (aC ⟨s+1+1,0,aD⟩),.pointer (aC ⟨s+1+1+1,0,aD⟩)],args:=#[]}]} W:=by
 refine leaves_cons (f:=104) (args:=#[.pointer (aC ⟨s,0,aD⟩),.pointer (aC ⟨s+1,0,aD⟩),.pointer (aC ⟨s+1+1,0,aD⟩),.pointer (aC ⟨s+1+1+1,0,aD⟩)]) (by simp) (by simp[go_sem]) ?_;refine(Tn s (s+1) (s+1+1) (s+1+1+1) (str t) 196 (.agg #[]) [] W cs h8 (cell_of_row _ _ 0 _ _ _ text) act ⟨_,cell_of_row _ _ 0 _ _ _ rest⟩ ⟨_,cell_of_row _ _ 0 _ _ _ is⟩ (frozen_of_row _ _ 0 _ _ rest) (frozen_of_row _ _ 0 _ _ is) (by omega) (by omega) (by omega)).mono ?_;rintro e u' w'' ⟨rfl,rfl,hw⟩;have hX':(W.setRow (s+1) dQ).heap[s+1]?=aC (.cells dQ 31 (0,0)):=setRow_heap W (s+1) _ dQ _ _ act;have hR':(W.setRow (s+1) dQ).heap[s+1+1]?=aC (.cells #[vr] 9 (0,0)):=by rw[setRow_other W (s+1) _ dQ (by omega)];exact rest
 have hI':(W.setRow (s+1) dQ).heap[s+1+1+1]?=aC (.cells #[vi] 4 (0,0)):=by rw[setRow_other W (s+1) _ dQ (by omega)];exact is
 have g1:w''.heap[s+1]?=aC (.cells dQ 31 (0,0)):=by
  rw[hw,heap_setCell_other _ ⟨s+1+1+1,0,aD⟩ _ _ (by show s+1≠s+1+1+1;omega),heap_setCell_other _ ⟨s+1+1,0,aD⟩ _ _ (by show s+1≠s+1+1;omega)];exact hX'
 have g2:w''.heap[s+1+1]?=aC (.cells #[.string (str t)] 9 (0,0)):=by
  rw[hw,heap_setCell_other _ ⟨s+1+1+1,0,aD⟩ _ _ (by show s+1+1≠s+1+1+1;omega)];exact heap_setCell_same _ _ 0 _ _ _ hR'
 have g3:w''.heap[s+1+1+1]?=aC (.cells #[.bool false] 4 (0,0)):=by
  rw[hw];exact heap_setCell_same _ _ 0 _ _ _ ((heap_setCell_other _ ⟨s+1+1,0,aD⟩ _ _ (by show s+1+1+1≠s+1+1;omega)).trans hI')
 have hx2:Ext w w'':=by
  rw[hw];exact((hx.sr (b:=s+1) (by omega) _).se (b:=s+1+1) (o:=0) (by omega) _).se (b:=s+1+1+1) (o:=0) (by omega) _
 have c2:=cell_of_row w'' (s+1+1) 0 _ _ _ g2;have c3:=cell_of_row w'' (s+1+1+1) 0 _ _ _ g3;have b0:w''.cell? ⟨s+1,0,aD⟩=aC (aA aB 0):=cell_of_row w'' (s+1) 0 _ _ _ g1;have b1:w''.cell? ⟨s+1,1,aD⟩=aC (aA aB 0):=cell_of_row w'' (s+1) 1 _ _ _ g1;have b2:w''.cell? ⟨s+1,2,aD⟩=aC (aA aB 0):=cell_of_row w'' (s+1) 2 _ _ _ g1;have b3:w''.cell? ⟨s+1,3,aD⟩=aC (aA aB 0):=cell_of_row w'' (s+1) 3 _ _ _ g1;have b4:w''.cell? ⟨s+1,4,aD⟩=aC (aA aB 0):=cell_of_row w'' (s+1) 4 _ _ _ g1;have b5:w''.cell? ⟨s+1,5,aD⟩=aC (aA aB 0):=cell_of_row w'' (s+1) 5 _ _ _ g1;have b6:w''.cell? ⟨s+1,6,aD⟩=aC (aE aD 0 0):=cell_of_row w'' (s+1) 6 _ _ _ g1;have b7:w''.cell? ⟨s+1,7,aD⟩=aC (aE aD 0 0):=cell_of_row w'' (s+1) 7 _ _ _ g1;show Leaves _ _ _ _ [] (settle _) w'';refine⟨.tuple #[.agg dQ,.string (str t),.bool false],?_,hx2,Or.inr ⟨hn,rfl⟩⟩;simp[results,results60,h2,h3,h4,asAddr,b0,b1,b2,b3,b4,b5,b6,b7,c2,c3,dQ,go_sem]
theorem tZ {G k:Nat}:∀ (ps:List Addr) (t:List UInt8) (W:World),k≠G->(∀ a∈ps,k≠a.block)->(iJ G ps t W).heap[k]?=W.heap[k]?
 | [],_,_,_,_=>rfl
 | _::_,[],_,_,_=>rfl
 | a::ps,b::t,W,h,ha=>by
  show (iJ G ps t _).heap[k]?=_;rw[tZ ps t _ h (fun c hc=>ha c (aC3 _ hc)),heap_setCell_other _ a _ _ (ha a (aDe ..)),heap_setCell_other _ ⟨G,0,aD⟩ _ _ h]
theorem Km {G X:Nat} {T:TypeId} (hXG:X≠G):∀ (ps:List Addr) (t:List UInt8) (W:World) (cs:Array Value),(∀ a∈ps,∃ i,a=⟨X,i,aD⟩)->W.heap[X]?=aC (.cells cs T (0,0))->∃ cs',cs'.size=cs.size/\(iJ G ps t W).heap[X]?=aC (.cells cs' T (0,0))
 | [],_,_,cs,_,h=>⟨cs,rfl,h⟩
 | _::_,[],_,cs,_,h=>⟨cs,rfl,h⟩
 | a::ps,b::t,W,cs,ha,h=>by
  obtain⟨i,rfl⟩:=ha a (aDe ..);have h1:=heap_setCell_same (W.setCell ⟨G,0,aD⟩ (.string (str t))) X i _ _ (aA aB (byI b)) ((heap_setCell_other W ⟨G,0,aD⟩ X (.string (str t)) hXG).trans h);obtain⟨cs',e1,e2⟩:=Km hXG ps t _ _ (fun c hc=>ha c (aC3 _ hc)) h1;exact⟨cs',by rw[e1];simp,e2⟩
theorem Ar {G:Nat} {w:World} (hG:w.heap.size<=G):∀ (ps:List Addr) (t:List UInt8) (W:World),Ext w W->(∀ a∈ps,w.heap.size<=a.block/\a.spot=aD)->Ext w (iJ G ps t W)
 | [],_,_,h,_=>h
 | _::_,[],_,h,_=>h
 | a::ps,b::t,W,h,ha=>by
  obtain⟨h1,h2⟩:=ha a (aDe ..);have e:a=⟨a.block,a.off,aD⟩:=by cases a;simp_all
  refine Ar hG ps t _ ?_ (fun c hc=>ha c (aC3 _ hc));rw[e];exact(h.se (b:=G) (o:=0) hG _).se (b:=a.block) (o:=a.off) h1 _
theorem Ub {t:List UInt8} (h:¬ 6<=t.length):jI t=none:=by
 match t with
 | [] | [_] | [_,_] | [_,_,_] | [_,_,_,_] | [_,_,_,_,_]=>rfl
 | _::_::_::_::_::_::t=>simp at h
def rowW:List Addr->List UInt8->Array Value->Array Value
 | a::ps,b::t,cs=>rowW ps t (cs.setIfInBounds a.off (aA aB (byI b)))
 | _,_,cs=>cs
theorem Fc {G X:Nat} {T:TypeId} (hXG:X≠G):∀ (ps:List Addr) (t:List UInt8) (W:World) (cs:Array Value),(∀ a∈ps,∃ i,a=⟨X,i,aD⟩)->W.heap[X]?=aC (.cells cs T (0,0))->(iJ G ps t W).heap[X]?=aC (.cells (rowW ps t cs) T (0,0))
 | [],t,_,cs,_,h=>by cases t <;> exact h
 | _::_,[],_,cs,_,h=>h
 | a::ps,b::t,W,cs,ha,h=>by
  obtain⟨i,rfl⟩:=ha a (aDe ..);have h1:=heap_setCell_same (W.setCell ⟨G,0,aD⟩ (.string (str t))) X i _ _ (aA aB (byI b)) ((heap_setCell_other W ⟨G,0,aD⟩ X (.string (str t)) hXG).trans h);exact Fc hXG ps t _ _ (fun c hc=>ha c (aC3 _ hc)) h1
theorem Bu {G:Nat} {T:TypeId}:∀ (ps:List Addr) (t:List UInt8) (W:World),(∀ a∈ps,G≠a.block)->W.heap[G]?=aC (.cells #[.string (str t)] T (0,0))->(iJ G ps t W).heap[G]?=aC (.cells #[.string (str (t.drop ps.length))] T (0,0))
 | [],t,W,_,h=>h
 | _::ps,[],W,_,h=>by simpa[iJ] using h
 | a::ps,b::t,W,ha,h=>by
  have h1:((W.setCell ⟨G,0,aD⟩ (.string (str t))).setCell a (aA aB (byI b))).heap[G]?=aC (.cells #[.string (str t)] T (0,0)):=
   (heap_setCell_other _ a G _ (ha a (aDe ..))).trans (heap_setCell_same W G 0 _ _ _ h)
  exact Bu ps t _ (fun c hc=>ha c (aC3 _ hc)) h1
theorem Wp {t:List UInt8} (h:6<=t.length):∃ k n q f u rk t1,t=k::n::q::f::u::rk::t1:=by
 match t,h with
 | k::n::q::f::u::rk::t1,_=>exact⟨k,n,q,f,u,rk,t1,rfl⟩
 | [],h | [_],h | [_,_],h | [_,_,_],h | [_,_,_,_],h | [_,_,_,_,_],h=>simp at h
theorem nI (b:UInt8):I64 (byI b):=by
 have:=b.toNat_lt;unfold byI I64;omega
theorem pT:∀ (n:Nat) (t:List UInt8) (y:Piece),y∈dO n t->I64 y.Len/\I64 y.N
 | 0,_,_,h=>by cases h
 | n+1,[],_,h=>by cases h
 | n+1,[_],_,h=>by cases h
 | n+1,a::b::t,y,h=>by
  rcases aCQ.1 h with rfl | h
  ·exact⟨nI a,nI b⟩
  ·exact pT n t y h
theorem uX:∀ (n:Nat) (t:List UInt8) (y:Run),y∈iM n t->I64 y.At/\I64 y.N
 | 0,_,_,h=>by cases h
 | n+1,[],_,h=>by cases h
 | n+1,[_],_,h=>by cases h
 | n+1,a::b::t,y,h=>by
  rcases aCQ.1 h with rfl | h
  ·exact⟨nI a,nI b⟩
  ·exact uX n t y h
theorem Rx (w W:World) (t:List UInt8) (s:Nat) (tmps:Array Value) (x:bX) (r:List UInt8) (pv cv:Value) (h2:tmps[2]?.getD undef=.pointer (aC ⟨s+1,0,aD⟩)) (h3:tmps[3]?.getD undef=.pointer (aC ⟨s+1+1,0,aD⟩)) (h4:tmps[4]?.getD undef=.pointer (aC ⟨s+1+1+1,0,aD⟩))
  (row:W.heap[s+1]?=aC (.cells #[aA aB x.aJ,aA aB x.N,aA aB x.aP.aG,aA aB x.aP.aI,aA aB x.aP.aH,aA aB x.aP.aJ,pv,cv] 31 (0,0))) (rest:W.heap[s+1+1]?=aC (.cells #[.string (str r)] 9 (0,0))) (is:W.heap[s+1+1+1]?=aC (.cells #[.bool true] 4 (0,0))) (hx:Ext w W) (hact:jI t=aC (x,r)) (hp:aW W pv x.aP.aF) (hc:bE W cv x.Cap) (np:rG w.heap.size W pv) (nc:rG w.heap.size W cv) :
  bodyPostD prog f60 (Gw w t) .ret { tmps:=tmps,defers:=[{ target:=.fn (.func 104) #[.pointer (aC ⟨s,0,aD⟩),.pointer (aC ⟨s+1,0,aD⟩),.pointer (aC ⟨s+1+1,0,aD⟩),.pointer (aC ⟨s+1+1+1,0,aD⟩)],args:=#[]}]} W:=by
 refine leaves_cons (f:=104) (args:=#[.pointer (aC ⟨s,0,aD⟩),.pointer (aC ⟨s+1,0,aD⟩),.pointer (aC ⟨s+1+1,0,aD⟩),.pointer (aC ⟨s+1+1+1,0,aD⟩)]) (by simp) (by simp[go_sem]) ?_;refine(To s (s+1) (s+1+1) (s+1+1+1) W).mono ?_;rintro e u' w'' ⟨rfl,rfl,hw⟩;obtain rfl:=hw.symm;have b0:W.cell? ⟨s+1,0,aD⟩=aC (aA aB x.aJ):=cell_of_row W (s+1) 0 _ _ _ row;have b1:W.cell? ⟨s+1,1,aD⟩=aC (aA aB x.N):=cell_of_row W (s+1) 1 _ _ _ row;have b2:W.cell? ⟨s+1,2,aD⟩=aC (aA aB x.aP.aG):=cell_of_row W (s+1) 2 _ _ _ row;have b3:W.cell? ⟨s+1,3,aD⟩=aC (aA aB x.aP.aI):=cell_of_row W (s+1) 3 _ _ _ row;have b4:W.cell? ⟨s+1,4,aD⟩=aC (aA aB x.aP.aH):=cell_of_row W (s+1) 4 _ _ _ row;have b5:W.cell? ⟨s+1,5,aD⟩=aC (aA aB x.aP.aJ):=cell_of_row W (s+1) 5 _ _ _ row;have b6:W.cell? ⟨s+1,6,aD⟩=aC (pv):=cell_of_row W (s+1) 6 _ _ _ row;have b7:W.cell? ⟨s+1,7,aD⟩=aC (cv):=cell_of_row W (s+1) 7 _ _ _ row;have c2:=cell_of_row W (s+1+1) 0 _ _ _ rest;have c3:=cell_of_row W (s+1+1+1) 0 _ _ _ is;show Leaves _ _ _ _ [] (settle _) W;refine⟨.tuple #[.agg #[aA aB x.aJ,aA aB x.N,aA aB x.aP.aG,aA aB x.aP.aI,aA aB x.aP.aH,aA aB x.aP.aJ,pv,cv],.string (str r),.bool true],?_,hx,Or.inl ⟨x,r,pv,cv,hact,rfl,hp,hc,np,nc⟩⟩;simp[results,results60,h2,h3,h4,asAddr,b0,b1,b2,b3,b4,b5,b6,b7,c2,c3,go_sem]
theorem Ry (t:List UInt8) (w:World) (s:Nat) (hs:w.heap.size=s):aBR t w s ((((((w.alloc (.cells #[.string (str t)] 9)).alloc (.cells #[aA aB 0,aA aB 0,aA aB 0,aA aB 0,aA aB 0,aA aB 0,aE aD 0 0,aE aD 0 0] 31)).alloc (.cells #[.string ByteArray.empty] 9)).alloc (.cells #[.bool false] 4)).alloc (.cells #[.string (str t)] 147)).alloc (.cells #[.pointer (aC ⟨s+1+1+1+1,0,aD⟩)] 145)):=by
 obtain⟨w1,h1⟩:∃ x,w.alloc (.cells #[.string (str t)] 9)=x:=⟨_,rfl⟩;have e1:=heap_alloc_new w (.cells #[.string (str t)] 9);have s1:w1.heap.size=s+1:=by rw[<- h1,aD3,hs]
 have x1:Ext w w1:=h1▸(Ext.rf w).al _;rw[h1,hs] at e1;rw[h1];obtain⟨w2,h2⟩:∃ x,w1.alloc (.cells #[aA aB 0,aA aB 0,aA aB 0,aA aB 0,aA aB 0,aA aB 0,aE aD 0 0,aE aD 0 0] 31)=x:=⟨_,rfl⟩;have e2:=heap_alloc_new w1 (.cells #[aA aB 0,aA aB 0,aA aB 0,aA aB 0,aA aB 0,aA aB 0,aE aD 0 0,aE aD 0 0] 31);have s2:w2.heap.size=s+1+1:=by rw[<- h2,aD3,s1]
 have x2:Ext w1 w2:=h2▸(Ext.rf w1).al _;rw[h2,s1] at e2;rw[h2];obtain⟨w3,h3⟩:∃ x,w2.alloc (.cells #[.string ByteArray.empty] 9)=x:=⟨_,rfl⟩;have e3:=heap_alloc_new w2 (.cells #[.string ByteArray.empty] 9);have s3:w3.heap.size=s+1+1+1:=by rw[<- h3,aD3,s2]
 have x3:Ext w2 w3:=h3▸(Ext.rf w2).al _;rw[h3,s2] at e3;rw[h3];obtain⟨w4,h4⟩:∃ x,w3.alloc (.cells #[.bool false] 4)=x:=⟨_,rfl⟩;have e4:=heap_alloc_new w3 (.cells #[.bool false] 4);have s4:w4.heap.size=s+1+1+1+1:=by rw[<- h4,aD3,s3]
 have x4:Ext w3 w4:=h4▸(Ext.rf w3).al _;rw[h4,s3] at e4;rw[h4];obtain⟨w5,h5⟩:∃ x,w4.alloc (.cells #[.string (str t)] 147)=x:=⟨_,rfl⟩;have e5:=heap_alloc_new w4 (.cells #[.string (str t)] 147);have s5:w5.heap.size=s+1+1+1+1+1:=by rw[<- h5,aD3,s4]
 have x5:Ext w4 w5:=h5▸(Ext.rf w4).al _;rw[h5,s4] at e5;rw[h5];obtain⟨w6,h6⟩:∃ x,w5.alloc (.cells #[.pointer (aC ⟨s+1+1+1+1,0,aD⟩)] 145)=x:=⟨_,rfl⟩;have e6:=heap_alloc_new w5 (.cells #[.pointer (aC ⟨s+1+1+1+1,0,aD⟩)] 145);have s6:w6.heap.size=s+1+1+1+1+1+1:=by rw[<- h6,aD3,s5]
 have x6:Ext w5 w6:=h6▸(Ext.rf w5).al _;rw[h6,s5] at e6;rw[h6];have y5:=x6;have y4:=x5.tr y5;have y3:=x4.tr y4;have y2:=x3.tr y3;have y1:=x2.tr y2;exact⟨x1.tr y1,s6,aV e1 y1,aV e2 y2,aV e3 y3,aV e4 y4,aV e5 y5,cell_of_row _ _ 0 _ _ _ e6⟩
theorem Zx (w:World) (t:List UInt8) :
  Calls prog 60 #[.string (str t)] w (Gw w t):=by
 have hmf:∀ (fn:Fn) (first cap:Array Value) (w:World),(Instr.makeFunc fn first cap).run prog w=.ok (.func fn first cap) w:=fun _ _ _ _=>rfl
 go_enter_defers func60,ntmps60
 go_wp2_with fail
 obtain⟨s,hs⟩:∃ s,w.heap.size=s:=⟨_,rfl⟩;have RA:=Ry t w s hs;rw[show ByteArray.empty=(⟨#[]⟩:ByteArray) from rfl] at RA;rw[hs];generalize (((((w.alloc (.cells #[.string (str t)] 9)).alloc (.cells #[aA aB 0,aA aB 0,aA aB 0,aA aB 0,aA aB 0,aA aB 0,aE aD 0 0,aE aD 0 0] 31)).alloc (.cells #[.string (⟨#[]⟩:ByteArray)] 9)).alloc (.cells #[.bool false] 4)).alloc (.cells #[.string (str t)] 147)).alloc (.cells #[.pointer (aC ⟨s+1+1+1+1,0,aD⟩)] 145)=W6 at *;have k5:=RA.ptr;have HRA:=hid RA;obtain⟨W7,hW7⟩:∃ W7,(W6.alloc (.cells #[.pointer (aC ⟨s+1,0,aD⟩),.pointer (aC ⟨s+1,1,aD⟩),.pointer (aC ⟨s+1,2,aD⟩),.pointer (aC ⟨s+1,3,aD⟩),.pointer (aC ⟨s+1,4,aD⟩),.pointer (aC ⟨s+1,5,aD⟩)] 150)).drew=W7:=⟨_,rfl⟩;have hx7:Ext W6 W7:=hW7▸((Ext.rf W6).al _).dr;have hl7:W7.heap[W6.heap.size]?=aC (.cells #[.pointer (aC ⟨s+1,0,aD⟩),.pointer (aC ⟨s+1,1,aD⟩),.pointer (aC ⟨s+1,2,aD⟩),.pointer (aC ⟨s+1,3,aD⟩),.pointer (aC ⟨s+1,4,aD⟩),.pointer (aC ⟨s+1,5,aD⟩)] 150 (0,0)):=hW7▸aV (heap_alloc_new W6 (.cells #[.pointer (aC ⟨s+1,0,aD⟩),.pointer (aC ⟨s+1,1,aD⟩),.pointer (aC ⟨s+1,2,aD⟩),.pointer (aC ⟨s+1,3,aD⟩),.pointer (aC ⟨s+1,4,aD⟩),.pointer (aC ⟨s+1,5,aD⟩)] 150)) (Ext.rf _).dr;have hg7:=aV RA.glass hx7;have ha7:=aV RA.act hx7;have INTO:=hid (show Calls prog 105 #[.pointer (aC ⟨s+1+1+1+1,0,aD⟩),aE (aC ⟨W6.heap.size,0,aD⟩) 6 6] W7 (fun e w'=>e=(if 6<=t.length then .returned (.tuple #[]) else .panicked qC)/\w'=iJ (s+1+1+1+1) [⟨s+1,0,aD⟩,⟨s+1,1,aD⟩,⟨s+1,2,aD⟩,⟨s+1,3,aD⟩,⟨s+1,4,aD⟩,⟨s+1,5,aD⟩] t W7) from Ez W7 (s+1+1+1+1) W6.heap.size [⟨s+1,0,aD⟩,⟨s+1,1,aD⟩,⟨s+1,2,aD⟩,⟨s+1,3,aD⟩,⟨s+1,4,aD⟩,⟨s+1,5,aD⟩] t (by simp) (cell_of_row _ _ 0 _ _ _ hg7) (frozen_of_row _ _ 0 _ _ hg7) hl7 (by rw[RA.size];omega) (fun a ha=>by
  simp only[aCQ,aD1,or_false] at ha;have hsz:=RA.size;rcases ha with rfl | rfl | rfl | rfl | rfl | rfl
  ·exact⟨by show s+1≠_;omega,by show s+1≠_;omega,⟨_,cell_of_row _ _ 0 _ _ _ ha7⟩,frozen_of_row _ _ 0 _ _ ha7⟩
  ·exact⟨by show s+1≠_;omega,by show s+1≠_;omega,⟨_,cell_of_row _ _ 1 _ _ _ ha7⟩,frozen_of_row _ _ 1 _ _ ha7⟩
  ·exact⟨by show s+1≠_;omega,by show s+1≠_;omega,⟨_,cell_of_row _ _ 2 _ _ _ ha7⟩,frozen_of_row _ _ 2 _ _ ha7⟩
  ·exact⟨by show s+1≠_;omega,by show s+1≠_;omega,⟨_,cell_of_row _ _ 3 _ _ _ ha7⟩,frozen_of_row _ _ 3 _ _ ha7⟩
  ·exact⟨by show s+1≠_;omega,by show s+1≠_;omega,⟨_,cell_of_row _ _ 4 _ _ _ ha7⟩,frozen_of_row _ _ 4 _ _ ha7⟩
  ·exact⟨by show s+1≠_;omega,by show s+1≠_;omega,⟨_,cell_of_row _ _ 5 _ _ _ ha7⟩,frozen_of_row _ _ 5 _ _ ha7⟩))
 have HW7:=hid hW7;have HX7:=hid hx7;clear RA hW7 hl7 hg7 ha7 hx7;refine cI 16 (fun W=>W.cell? ⟨s+1+1+1+1+1,0,aD⟩=aC (.pointer (aC ⟨s+1+1+1+1,0,aD⟩))) (by kernel_rfl) k5 (fun hHeld=>?_);refine tkT 0 ?_ (hQ:=by exact fun _ _ _ h=>gR (by decide) h);refine tkT 1 ?_ (hQ:=by exact fun _ _ _ h=>gR (by decide) h);refine tkT 2 ?_ (hQ:=by exact fun _ _ _ h=>gR (by decide) h);refine tkT 3 ?_ (hQ:=by exact fun _ _ _ h=>gR (by decide) h);refine tkT 4 ?_ (hQ:=by exact fun _ _ _ h=>gR (by decide) h);refine tkT 5 ?_ (hQ:=by exact fun _ _ _ h=>gR (by decide) h);refine tkT 6 ?_ (hQ:=by exact fun _ _ _ h=>gR (by decide) h);refine tkT 7 ?_ (hQ:=by exact fun _ _ _ h=>gR (by decide) h);refine tkT 8 ?_ (hQ:=by exact fun _ _ _ h=>gR (by decide) h);refine tkT 9 ?_ (hQ:=by exact fun _ _ _ h=>gR (by decide) h);refine tkT 10 ?_ (hQ:=by exact fun _ _ _ h=>gR (by decide) h);refine tkT 11 ?_ (hQ:=by exact fun _ _ _ h=>gR (by decide) h);refine tkT 12 ?_ (hQ:=by exact fun _ _ _ h=>gR (by decide) h);refine tkT 13 ?_ (hQ:=by exact fun _ _ _ h=>gR (by decide) h);refine tkT 14 ?_ (hQ:=by exact fun _ _ _ h=>gR (by decide) h);refine cK (i:=15) (by kernel_rfl) rfl (fun K hK=>?_);simp only[zA,zB,zC];go_simp;rw[HW7.out];refine hK.out _ _ ?_ (fun hHeld=>?_)
 ·(exact HX7.out.ce' hHeld)
 clear hK K;refine dS (t:=16) (by kernel_rfl) rfl (by kernel_rfl) (fun K hK=>?_);simp only[zA,zB,zC];go_simp;have hps:∀ a∈([⟨s+1,0,aD⟩,⟨s+1,1,aD⟩,⟨s+1,2,aD⟩,⟨s+1,3,aD⟩,⟨s+1,4,aD⟩,⟨s+1,5,aD⟩]:List Addr),∃ i,a=⟨s+1,i,aD⟩:=fun a ha=>by
  simp only[aCQ,aD1,or_false] at ha;rcases ha with rfl | rfl | rfl | rfl | rfl | rfl <;> exact⟨_,rfl⟩
 by_cases h6:6<=t.length
 ·rw[if_pos h6] at INTO;refine INTO.out.mono ?_;rintro e W8 ⟨rfl,hW8⟩;refine hK.out _ _ ?_;clear hK K;have hbk:∀ k,k≠s+1+1+1+1->k≠s+1->W8.heap[k]?=W7.heap[k]?:=fun k h1 h2=>by
   rw[hW8];exact tZ _ _ _ h1 (fun a ha=>by obtain⟨i,rfl⟩:=hps a ha;exact h2)
  have hx8:Ext w W8:=by
   rw[hW8];exact Ar (by omega) _ _ _ (HRA.out.ext.tr HX7.out) (fun a ha=>by obtain⟨i,rfl⟩:=hps a ha;exact⟨by show w.heap.size<=s+1;omega,rfl⟩)
  have hr8:=Fc (G:=s+1+1+1+1) (X:=s+1) (by omega) [⟨s+1,0,aD⟩,⟨s+1,1,aD⟩,⟨s+1,2,aD⟩,⟨s+1,3,aD⟩,⟨s+1,4,aD⟩,⟨s+1,5,aD⟩] t W7 _ hps (aV HRA.out.act HX7.out);have hg8:=Bu (G:=s+1+1+1+1) [⟨s+1,0,aD⟩,⟨s+1,1,aD⟩,⟨s+1,2,aD⟩,⟨s+1,3,aD⟩,⟨s+1,4,aD⟩,⟨s+1,5,aD⟩] t W7 (fun a ha=>by obtain⟨i,rfl⟩:=hps a ha;show s+1+1+1+1≠s+1;omega) (aV HRA.out.glass HX7.out);rw[<- hW8] at hr8 hg8;have ht8:=(hbk s (by omega) (by omega)).trans (aV HRA.out.text HX7.out);have he8:=(hbk (s+1+1) (by omega) (by omega)).trans (aV HRA.out.rest HX7.out);have hi8:=(hbk (s+1+1+1) (by omega) (by omega)).trans (aV HRA.out.is HX7.out);have hp8:W8.cell? ⟨s+1+1+1+1+1,0,aD⟩=aC (.pointer (aC ⟨s+1+1+1+1,0,aD⟩)):=by
   rw[aD2 (a:=⟨s+1+1+1+1+1,0,aD⟩) (hbk (s+1+1+1+1+1) (by omega) (by omega))];exact HX7.out.ce' HRA.out.ptr
  obtain⟨k,n,q,f,u,rk,t1,rfl⟩:∃ k n q f u rk t1,t=k::n::q::f::u::rk::t1:=Wp h6;have hr8':W8.heap[s+1]?=aC (.cells #[aA aB (byI k),aA aB (byI n),aA aB (byI q),aA aB (byI f),aA aB (byI u),aA aB (byI rk),aE aD 0 0,aE aD 0 0] 31 (0,0)):=hr8;have hg8':W8.heap[s+1+1+1+1]?=aC (.cells #[.string (str t1)] 147 (0,0)):=hg8;have PL:=hid (In W8 (s+1+1+1+1+1) (s+1+1+1+1) 3 t1 hp8 (cell_of_row _ _ 0 _ _ _ hg8') (frozen_of_row _ _ 0 _ _ hg8') (by omega) (by omega));rw[show ((3:Nat):Int)=3 from rfl] at PL;have HR8:=hid hr8';have HT8:=hid ht8;have HE8:=hid he8;have HI8:=hid hi8;have HX8:=hid hx8;have HP8:=hid hp8;clear hr8 hg8 hr8' hg8' ht8 he8 hi8 hx8 hbk hW8 INTO h6
  go_wp2_with fail
  refine PL.out.mono ?_;rintro e W9 ⟨hR9,hgot⟩;have hsz8:s+1+1+1+1+1 < W8.heap.size:=aCf _ _ HP8.out;have hk9:∀ j,j < W8.heap.size->j≠s+1+1+1+1->W9.heap[j]?=W8.heap[j]?:=fun j h1 h2=>hR9.block j h1 (fun e=>h2 (Option.some.inj e));have hx9:Ext w W9:=HX8.out.gr (v:=aE (aC ⟨s+1+1+1+1,0,aD⟩) 0 0) hR9 (fun j hj=>by have e:=Option.some.inj hj;have e2:s+1+1+1+1=j:=e;omega);have hr9:=(hk9 (s+1) (by omega) (by omega)).trans HR8.out;have ht9:=(hk9 s (by omega) (by omega)).trans HT8.out;have he9:=(hk9 (s+1+1) (by omega) (by omega)).trans HE8.out;have hi9:=(hk9 (s+1+1+1) (by omega) (by omega)).trans HI8.out;have hp9:W9.cell? ⟨s+1+1+1+1+1,0,aD⟩=aC (.pointer (aC ⟨s+1+1+1+1,0,aD⟩)):=by
   rw[aD2 (a:=⟨s+1+1+1+1+1,0,aD⟩) (hk9 _ (by omega) (by show s+1+1+1+1+1≠s+1+1+1+1;omega))];exact HP8.out
  rcases hgot with ⟨n1,r1,v,rfl,hn1,hr1,rfl,hown,hg9,hf9⟩ | ⟨hno,rfl⟩
  ·have hpv:aW W9 v (dO n1.toNat r1):=bY (base:=W8.heap.size) (e:=44) (by rw[jX _ _ hr1];exact hown) (fun y hy=>pT _ _ y hy) (by rw[jX _ _ hr1];omega);obtain⟨va,vc,hvf,_⟩:=hpv.form;rw[jX _ _ hr1] at hvf;subst hvf;have hfar:∀ j,(Value.slice va n1.toNat vc).ownBlock=aC j->W8.heap.size<=j:=fun j hj=>(hown.lt j hj).1;have k6:=cell_of_row W9 (s+1) 6 _ _ _ hr9;have f6:=frozen_of_row W9 (s+1) 6 _ _ hr9;have PLW:=hid PL;clear PL hR9 hk9
   go_wp2_with fail
   obtain⟨W10,hW10⟩:∃ W10,W9.setCell ⟨s+1,6,aD⟩ (aE va n1.toNat vc)=W10:=⟨_,rfl⟩;have hr10:W10.heap[s+1]?=aC (.cells #[aA aB (byI k),aA aB (byI n),aA aB (byI q),aA aB (byI f),aA aB (byI u),aA aB (byI rk),aE va n1.toNat vc,aE aD 0 0] 31 (0,0)):=by rw[<- hW10];exact heap_setCell_same W9 (s+1) 6 _ _ _ hr9
   have hb10:∀ j,j≠s+1->W10.heap[j]?=W9.heap[j]?:=fun j h=>by rw[<- hW10];exact heap_setCell_other W9 ⟨s+1,6,aD⟩ j _ h
   have ht10:=(hb10 s (by omega)).trans ht9;have he10:=(hb10 (s+1+1) (by omega)).trans he9;have hi10:=(hb10 (s+1+1+1) (by omega)).trans hi9;have hx10:Ext w W10:=by rw[<- hW10];exact hx9.se (b:=s+1) (o:=6) (by omega) _
   have hp10:W10.cell? ⟨s+1+1+1+1+1,0,aD⟩=aC (.pointer (aC ⟨s+1+1+1+1,0,aD⟩)):=by
    rw[aD2 (a:=⟨s+1+1+1+1+1,0,aD⟩) (hb10 _ (by show s+1+1+1+1+1≠s+1;omega))];exact hp9
   have hg10:W10.cell? ⟨s+1+1+1+1,0,aD⟩=aC (.string (str (r1.drop (2*n1.toNat)))):=by
    rw[aD2 (a:=⟨s+1+1+1+1,0,aD⟩) (hb10 _ (by show s+1+1+1+1≠s+1;omega))];exact hg9
   have hf10:W10.frozen? ⟨s+1+1+1+1,0,aD⟩=false:=by
    rw[aEx (a:=⟨s+1+1+1+1,0,aD⟩) (hb10 _ (by show s+1+1+1+1≠s+1;omega))];exact hf9
   have hown10:W10.ownsRow W8.heap.size 44 2 (aE va n1.toNat vc) n1.toNat (cA Piece.Len Piece.N (dO n1.toNat r1)):=by
    rw[<- hW10];exact bW hown (aY W9 (s+1) 6 _) (by omega)
   rw[hW10];have RL:=hid (Om W10 (s+1+1+1+1+1) (s+1+1+1+1) 48 (r1.drop (2*n1.toNat)) hp10 hg10 hf10 (by omega) (by omega));rw[show ((48:Nat):Int)=48 from rfl] at RL;have HR10:=hid hr10;have HT10:=hid ht10;have HE10:=hid he10;have HI10:=hid hi10;have HX10:=hid hx10;have HP10:=hid hp10;have HOW10:=hid hown10;clear hr10 hb10 ht10 he10 hi10 hx10 hp10 hg10 hf10 hown10 hW10 hown hg9 hf9 hr9 ht9 he9 hi9 hx9 hp9 hpv k6 f6 PLW;refine RL.out.mono ?_;rintro e W11 ⟨hR11,hgot⟩;have hsz10:s+1+1+1+1+1 < W10.heap.size:=aCf _ _ HP10.out;have hk11:∀ j,j < W10.heap.size->j≠s+1+1+1+1->W11.heap[j]?=W10.heap[j]?:=fun j h1 h2=>hR11.block j h1 (fun e=>h2 (Option.some.inj e));have hx11:Ext w W11:=HX10.out.gr (v:=aE (aC ⟨s+1+1+1+1,0,aD⟩) 0 0) hR11 (fun j hj=>by have e:=Option.some.inj hj;have e2:s+1+1+1+1=j:=e;omega);have hr11:=(hk11 (s+1) (by omega) (by omega)).trans HR10.out;have ht11:=(hk11 s (by omega) (by omega)).trans HT10.out;have he11:=(hk11 (s+1+1) (by omega) (by omega)).trans HE10.out;have hi11:=(hk11 (s+1+1+1) (by omega) (by omega)).trans HI10.out;rcases hgot with ⟨n2,r2,v2,hn2e,hn2,hr2,rfl,hown2,hg11,hf11⟩ | ⟨hno,rfl⟩
   ·have hcv:bE W11 v2 (iM n2.toNat r2):=bY (base:=W10.heap.size) (e:=48) (by rw[mT _ _ hr2];exact hown2) (fun y hy=>uX _ _ y hy) (by rw[mT _ _ hr2];omega);obtain⟨ca,cc,hvf,_⟩:=hcv.form;rw[mT _ _ hr2] at hvf;subst hvf;have k7:=cell_of_row W11 (s+1) 7 _ _ _ hr11;have f7:=frozen_of_row W11 (s+1) 7 _ _ hr11;clear RL
    go_wp2_with fail
    obtain⟨W12,hW12⟩:∃ W12,W11.setCell ⟨s+1,7,aD⟩ (aE ca n2.toNat cc)=W12:=⟨_,rfl⟩;rw[hW12];have hr12:W12.heap[s+1]?=aC (.cells #[aA aB (byI k),aA aB (byI n),aA aB (byI q),aA aB (byI f),aA aB (byI u),aA aB (byI rk),aE va n1.toNat vc,aE ca n2.toNat cc] 31 (0,0)):=by rw[<- hW12];exact heap_setCell_same W11 (s+1) 7 _ _ _ hr11
    have hb12:∀ j,j≠s+1->W12.heap[j]?=W11.heap[j]?:=fun j h=>by rw[<- hW12];exact heap_setCell_other W11 ⟨s+1,7,aD⟩ j _ h
    have b0:W12.cell? ⟨s+1,0,aD⟩=aC (aA aB (byI k)):=cell_of_row W12 (s+1) 0 _ _ _ hr12;have b1:W12.cell? ⟨s+1,1,aD⟩=aC (aA aB (byI n)):=cell_of_row W12 (s+1) 1 _ _ _ hr12;have b2:W12.cell? ⟨s+1,2,aD⟩=aC (aA aB (byI q)):=cell_of_row W12 (s+1) 2 _ _ _ hr12;have b3:W12.cell? ⟨s+1,3,aD⟩=aC (aA aB (byI f)):=cell_of_row W12 (s+1) 3 _ _ _ hr12;have b4:W12.cell? ⟨s+1,4,aD⟩=aC (aA aB (byI u)):=cell_of_row W12 (s+1) 4 _ _ _ hr12;have b5:W12.cell? ⟨s+1,5,aD⟩=aC (aA aB (byI rk)):=cell_of_row W12 (s+1) 5 _ _ _ hr12;have b6:W12.cell? ⟨s+1,6,aD⟩=aC (aE va n1.toNat vc):=cell_of_row W12 (s+1) 6 _ _ _ hr12;have b7:W12.cell? ⟨s+1,7,aD⟩=aC (aE ca n2.toNat cc):=cell_of_row W12 (s+1) 7 _ _ _ hr12;have g4:W12.cell? ⟨s+1+1+1+1,0,aD⟩=aC (.string (str (r2.drop (2*n2.toNat)))):=by
     rw[aD2 (a:=⟨s+1+1+1+1,0,aD⟩) (hb12 _ (by show s+1+1+1+1≠s+1;omega))];exact hg11
    have g5:W12.cell? ⟨s+1+1+1+1+1,0,aD⟩=aC (.pointer (aC ⟨s+1+1+1+1,0,aD⟩)):=by
     rw[aD2 (a:=⟨s+1+1+1+1+1,0,aD⟩) (hb12 _ (by show s+1+1+1+1+1≠s+1;omega)),aD2 (a:=⟨s+1+1+1+1+1,0,aD⟩) (hk11 _ (by show s+1+1+1+1+1 < _;omega) (by show s+1+1+1+1+1≠s+1+1+1+1;omega))];exact HP10.out
    replace b0:=fun p:bF W12=>p.cell b0;replace b1:=fun p:bF W12=>p.cell b1;replace b2:=fun p:bF W12=>p.cell b2;replace b3:=fun p:bF W12=>p.cell b3;replace b4:=fun p:bF W12=>p.cell b4;replace b5:=fun p:bF W12=>p.cell b5;replace b6:=fun p:bF W12=>p.cell b6;replace b7:=fun p:bF W12=>p.cell b7;replace g4:=fun p:bF W12=>p.cell g4;replace g5:=fun p:bF W12=>p.cell g5;refine pR 5 (by kernel_rfl) (by kernel_rfl) ?_;simp only[List.take_succ_cons,List.take_zero,aDw,List.drop_zero]
    repeat (go_big_quiet_step (fail))
    refine wpQuiet_nil ?_;rintro w' ⟨p,rfl⟩;have hx13:=p.h;clear b0 b1 b2 b3 b4 b5 b6 b7 g4 g5;generalize p.v=W13 at *;have hr13:=aV hr12 hx13;have he13:=aV ((hb12 (s+1+1) (by omega)).trans he11) hx13;have hi13:=aV ((hb12 (s+1+1+1) (by omega)).trans hi11) hx13;have rr1:(W13.setRow (s+1) #[aA aB (byI k),aA aB (byI n),aA aB (byI q),aA aB (byI f),aA aB (byI u),aA aB (byI rk),aE va n1.toNat vc,aE ca n2.toNat cc]).heap[s+1+1]?=aC (.cells #[.string ByteArray.empty] 9 (0,0)):=by rw[setRow_other W13 (s+1) _ _ (by omega)];exact he13
    have i1:(W13.setRow (s+1) #[aA aB (byI k),aA aB (byI n),aA aB (byI q),aA aB (byI f),aA aB (byI u),aA aB (byI rk),aE va n1.toNat vc,aE ca n2.toNat cc]).heap[s+1+1+1]?=aC (.cells #[.bool false] 4 (0,0)):=by rw[setRow_other W13 (s+1) _ _ (by omega)];exact hi13
    have r2c:=cell_of_row _ (s+1+1) 0 _ _ _ rr1;have r2f:=frozen_of_row _ (s+1+1) 0 _ _ rr1;have i2h:((W13.setRow (s+1) #[aA aB (byI k),aA aB (byI n),aA aB (byI q),aA aB (byI f),aA aB (byI u),aA aB (byI rk),aE va n1.toNat vc,aE ca n2.toNat cc]).setCell ⟨s+1+1,0,aD⟩ (.string (str (r2.drop (2*n2.toNat))))).heap[s+1+1+1]?=aC (.cells #[.bool false] 4 (0,0)):=(heap_setCell_other _ ⟨s+1+1,0,aD⟩ _ _ (by show s+1+1+1≠s+1+1;omega)).trans i1;have i2c:=cell_of_row _ (s+1+1+1) 0 _ _ _ i2h;have i2f:=frozen_of_row _ (s+1+1+1) 0 _ _ i2h
    go_wp2_with (refine wpList_store_row rfl 31 _ _ rfl (s+1) #[aA aB (byI k),aA aB (byI n),aA aB (byI q),aA aB (byI f),aA aB (byI u),aA aB (byI rk),aE va n1.toNat vc,aE ca n2.toNat cc] rfl rfl 31 _ hr13 mD rfl (by simp[aCh]) ?_)
    have hsz8:s+1+1+1+1+1 < W8.heap.size:=aCf _ _ HP8.out;have keep:∀ (base:Nat) (T:TypeId) (v:Value) (m:Nat) (xs:List Value),s+6<=base->W13.ownsRow base T 2 v m xs->(((W13.setRow (s+1) #[aA aB (byI k),aA aB (byI n),aA aB (byI q),aA aB (byI f),aA aB (byI u),aA aB (byI rk),aE va n1.toNat vc,aE ca n2.toNat cc]).setCell ⟨s+1+1,0,aD⟩ (.string (str (r2.drop (2*n2.toNat))))).setCell ⟨s+1+1+1,0,aD⟩ (.bool true)).ownsRow base T 2 v m xs:=fun base T v m xs hb h=>
     bW (bW (bW h (bO W13 (s+1) _) (by omega)) (aY _ (s+1+1) 0 _) (by omega)) (aY _ (s+1+1+1) 0 _) (by omega)
    have to13:∀ (base:Nat) (T:TypeId) (v:Value) (m:Nat) (xs:List Value),s+6<=base->W11.ownsRow base T 2 v m xs->W13.ownsRow base T 2 v m xs:=fun base T v m xs hb h=>by
     refine bC ?_ hx13;rw[<- hW12];exact bW h (aY W11 (s+1) 7 _) (by omega)
    have hpo:=keep _ _ _ _ _ (by omega) (to13 _ _ _ _ _ (by omega) (bW HOW10.out hR11 (by omega)));have hco:=keep _ _ _ _ _ (by omega) (to13 _ _ _ _ _ (by omega) hown2);have hpv:=bY (f:=Piece.Len) (g:=Piece.N) (xs:=dO n1.toNat r1) (by rw[jX _ _ hr1];exact hpo) (fun y hy=>pT _ _ y hy) (by rw[jX _ _ hr1];omega);have hcv2:=bY (f:=Run.At) (g:=Run.N) (xs:=iM n2.toNat r2) (by rw[mT _ _ hr2];exact hco) (fun y hy=>uX _ _ y hy) (by rw[mT _ _ hr2];omega);have hxe:Ext w (((W13.setRow (s+1) #[aA aB (byI k),aA aB (byI n),aA aB (byI q),aA aB (byI f),aA aB (byI u),aA aB (byI rk),aE va n1.toNat vc,aE ca n2.toNat cc]).setCell ⟨s+1+1,0,aD⟩ (.string (str (r2.drop (2*n2.toNat))))).setCell ⟨s+1+1+1,0,aD⟩ (.bool true)):=((((by rw[<- hW12];exact hx11.se (b:=s+1) (o:=7) (by omega) _:Ext w W12).tr hx13).sr (b:=s+1) (by omega) _).se (b:=s+1+1) (o:=0) (by omega) _).se (b:=s+1+1+1) (o:=0) (by omega) _;have hrow:(((W13.setRow (s+1) #[aA aB (byI k),aA aB (byI n),aA aB (byI q),aA aB (byI f),aA aB (byI u),aA aB (byI rk),aE va n1.toNat vc,aE ca n2.toNat cc]).setCell ⟨s+1+1,0,aD⟩ (.string (str (r2.drop (2*n2.toNat))))).setCell ⟨s+1+1+1,0,aD⟩ (.bool true)).heap[s+1]?=aC (.cells #[aA aB (byI k),aA aB (byI n),aA aB (byI q),aA aB (byI f),aA aB (byI u),aA aB (byI rk),aE va n1.toNat vc,aE ca n2.toNat cc] 31 (0,0)):=(heap_setCell_other _ ⟨s+1+1+1,0,aD⟩ _ _ (by show s+1≠s+1+1+1;omega)).trans ((heap_setCell_other _ ⟨s+1+1,0,aD⟩ _ _ (by show s+1≠s+1+1;omega)).trans (setRow_heap W13 (s+1) _ _ _ _ hr13));have hrest:(((W13.setRow (s+1) #[aA aB (byI k),aA aB (byI n),aA aB (byI q),aA aB (byI f),aA aB (byI u),aA aB (byI rk),aE va n1.toNat vc,aE ca n2.toNat cc]).setCell ⟨s+1+1,0,aD⟩ (.string (str (r2.drop (2*n2.toNat))))).setCell ⟨s+1+1+1,0,aD⟩ (.bool true)).heap[s+1+1]?=aC (.cells #[.string (str (r2.drop (2*n2.toNat)))] 9 (0,0)):=(heap_setCell_other _ ⟨s+1+1+1,0,aD⟩ _ _ (by show s+1+1≠s+1+1+1;omega)).trans (heap_setCell_same _ (s+1+1) 0 _ _ _ rr1);have his:=heap_setCell_same _ (s+1+1+1) 0 _ _ (.bool true) i2h;have hact:jI (k::n::q::f::u::rk::n1::r1)=aC (⟨byI k,byI n,⟨byI q,byI f,byI u,byI rk,dO n1.toNat r1⟩,iM n2.toNat r2⟩,r2.drop (2*n2.toNat)):=by
     show (if n1.toNat<=3/\2*n1.toNat<=r1.length then _ else aD)=_;rw[if_pos ⟨hn1,hr1⟩,hn2e];exact if_pos ⟨hn2,hr2⟩
    exact Rx w _ _ s _ ⟨byI k,byI n,⟨byI q,byI f,byI u,byI rk,dO n1.toNat r1⟩,iM n2.toNat r2⟩ (r2.drop (2*n2.toNat)) _ _ rfl rfl rfl hrow hrest his hxe hact hpv hcv2 (rG.owned hpo (by omega)) (rG.owned hco (by omega))
   ·have hnone:jI (k::n::q::f::u::rk::n1::r1)=none:=by
     show (if n1.toNat<=3/\2*n1.toNat<=r1.length then _ else aD)=aD;rw[if_pos ⟨hn1,hr1⟩];cases hd:r1.drop (2*n1.toNat) with
     | nil=>rfl
     | cons n2 r2=>exact if_neg (hno n2 r2 hd)
    have CG:=hid (fun tm h2 h3 h4=>tI w W11 (k::n::q::f::u::rk::n1::r1) s tm _ _ _ h2 h3 h4 hs hx11 ht11 rfl hr11 he11 hi11 hnone);clear hR11 hk11 hx11 hr11 ht11 he11 hi11 hno hnone RL
    go_wp2_with fail
    exact CG.out _ rfl rfl rfl
  ·have hnone:jI (k::n::q::f::u::rk::t1)=none:=by
    cases t1 with
    | nil=>rfl
    | cons n1 r1=>exact if_neg (hno n1 r1 rfl)
   have CG:=hid (fun tm h2 h3 h4=>tI w W9 (k::n::q::f::u::rk::t1) s tm _ _ _ h2 h3 h4 hs hx9 ht9 rfl hr9 he9 hi9 hnone);clear hR9 hk9 hx9 hr9 ht9 he9 hi9 hp9 hno hnone PL
   go_wp2_with fail
   exact CG.out _ rfl rfl rfl
 ·rw[if_neg h6] at INTO;refine INTO.out.mono ?_;rintro e W8 ⟨rfl,hW8⟩;have hbk:∀ k,k≠s+1+1+1+1->k≠s+1->W8.heap[k]?=W7.heap[k]?:=fun k h1 h2=>by
   rw[hW8];exact tZ _ _ _ h1 (fun a ha=>by obtain⟨i,rfl⟩:=hps a ha;exact h2)
  obtain⟨cs',c1,c2⟩:=Km (G:=s+1+1+1+1) (X:=s+1) (by omega) [⟨s+1,0,aD⟩,⟨s+1,1,aD⟩,⟨s+1,2,aD⟩,⟨s+1,3,aD⟩,⟨s+1,4,aD⟩,⟨s+1,5,aD⟩] t W7 _ hps (aV HRA.out.act HX7.out);rw[<- hW8] at c2;exact tI w W8 t s _ cs' _ _ rfl rfl rfl hs (by
   rw[hW8];exact Ar (by omega) _ _ _ (HRA.out.ext.tr HX7.out) (fun a ha=>by obtain⟨i,rfl⟩:=hps a ha;exact⟨by show w.heap.size<=s+1;omega,rfl⟩)) ((hbk s (by omega) (by omega)).trans (aV HRA.out.text HX7.out)) c1 c2 ((hbk (s+1+1) (by omega) (by omega)).trans (aV HRA.out.rest HX7.out)) ((hbk (s+1+1+1) (by omega) (by omega)).trans (aV HRA.out.is HX7.out)) (Ub h6)
def sX (w:World) (cs:List Value) (x:bX):Prop:=
 ∃ pv cv,cs=[aA aB x.aJ,aA aB x.N,aA aB x.aP.aG,aA aB x.aP.aI,aA aB x.aP.aH,aA aB x.aP.aJ,pv,cv]/\aW w pv x.aP.aF/\bE w cv x.Cap/\(I64 x.aP.aG/\I64 x.aP.aI/\I64 x.aP.aH/\I64 x.aP.aJ)/\I64 x.aJ/\I64 x.N
theorem sX.mono {w w':World} {cs:List Value} {x:bX} (h:sX w cs x) (hx:Ext w w'):sX w' cs x:=by
 obtain⟨pv,cv,h1,h2,h3,h4⟩:=h;exact⟨pv,cv,h1,h2.mono hx,h3.mono hx,h4⟩
theorem sX.eight {w:World} {cs:List Value} {x:bX} (h:sX w cs x):cs.length=8:=by
 obtain⟨pv,cv,rfl,_⟩:=h;rfl
theorem sX.one {w:World} {cs:List Value} {x:bX} (h:sX w cs x):∀ u∈cs,u.oneCell'=true:=by
 obtain⟨pv,cv,rfl,hp,hc,_⟩:=h;obtain⟨a,c,rfl,_⟩:=hp.form;obtain⟨a2,c2,rfl,_⟩:=hc.form;simp[aCh]
theorem sX.grown {W W':World} {cs:List Value} {x:bX} {row:Option Nat} (h:sX W cs x) (hg:W.grownBy W' row) (ha:∀ u∈cs,qM u row):sX W' cs x:=by
 obtain⟨pv,cv,rfl,hp,hc,hi⟩:=h;exact⟨pv,cv,rfl,gL hp hg (ha _ (by simp)),gL hc hg (ha _ (by simp)),hi⟩
def Zf (w:World) (b o:Nat) (x:bX):Prop:=∃ cs,sX w cs x/\∀ (j:Nat) u,cs[j]?=aC u->w.cell? ⟨b,o+j,aD⟩=aC u
theorem Zf.mono (w w':World) (b o:Nat) (x:bX) (hx:Ext w w') (h:Zf w b o x):Zf w' b o x:=by
 obtain⟨cs,h1,h2⟩:=h;exact⟨cs,h1.mono hx,fun j u hu=>hx.ce' (h2 j u hu)⟩
abbrev rI:=SV 8 Zf
theorem rI.mono {w w':World} {v:Value} {xs:List bX} (h:rI w v xs) (hx:Ext w w'):rI w' v xs:=SV.mono Zf.mono h hx
theorem aBs {α:Type}:∀ (css:List (List α)),(∀ cs∈css,cs.length=8)->∀ k j,j < 8->css.flatten[k*8+j]?=(css[k]?).bind (fun cs=>cs[j]?)
 | [],_,k,j,_=>by simp
 | cs::css,h,k,j,hj=>by
  have h1:=h cs (aDe ..);rw[List.flatten_cons];cases k with
  | zero=>
   rw[Nat.zero_mul,Nat.zero_add,aDp (by omega)];rfl
  | succ k=>
   rw[aDq (by omega),h1,show (k+1)*8+j - 8=k*8+j by omega,aBs css (fun c hc=>h c (aC3 _ hc)) k j hj];rfl
structure Rh (base:Nat) (W:World) (v:Value) (l:List bX) (css:List (List Value)):Prop where
 row:W.ownsRow base 31 8 v l.length css.flatten
 len:css.length=l.length
 each:∀ (k:Nat) (cs:List Value) (x:bX),css[k]?=aC cs->l[k]?=aC x->sX W cs x
 low:∀ cs∈css,∀ u∈cs,∀ a n c,u=aE (aC a) n c->a.block < W.heap.size/\∀ g,v.ownBlock=aC g->a.block≠g
def zI (base:Nat) (W:World) (v:Value) (l:List bX):Prop:=∃ css,Rh base W v l css
theorem zI.none (base:Nat) (W:World):zI base W (aE aD 0 0) []:=
 ⟨[],aCD _ _ _ _,rfl,fun k cs x h=>by simp at h,fun cs h=>by simp at h⟩
theorem Rh.snoc {base g cap:Nat} {W W3 W5:World} {v:Value} {l:List bX} {x:bX} {css:List (List Value)} {cs:List Value} (h:Rh base W v l css) (hx:Ext W W3) (hc:sX W3 cs x) (hn:∀ u∈cs,rG W.heap.size W3 u)
  (hown:W5.ownsRow base 31 8 (aE (aC ⟨g,0,aD⟩) (l.length+1) cap) (l.length+1) (css.flatten++cs)) (hg:W3.grownBy W5 v.ownBlock) (hgg:v.ownBlock=aC g\/g=W3.heap.size) :
  zI base W5 (aE (aC ⟨g,0,aD⟩) (l++[x]).length cap) (l++[x]):=by
 have hlen:(l++[x]).length=l.length+1:=by simp
 have hlt:∀ r,v.ownBlock=aC r->r < W.heap.size:=fun r hr=>(h.row.lt r hr).2;have hA:∀ ds∈css++[cs],∀ u∈ds,∀ a n c,u=aE (aC a) n c->a.block < W3.heap.size/\∀ r,v.ownBlock=aC r->a.block≠r:=fun ds hd u hu a n c e=>by
  rcases List.mem_append.1 hd with h1 | h1
  ·have:=h.low ds h1 u hu a n c e;exact⟨aCi this.1 hx.size,this.2⟩
  ·rw[aDj.1 h1] at hu;have:=hn u hu a n c e;exact⟨this.2,fun r hr e'=>by have:=hlt r hr;omega⟩
 refine⟨css++[cs],by rw[hlen,List.flatten_append];simpa using hown,by simp[h.len],fun k ds y hk hy=>?_,fun ds hd u hu a n c e=>⟨aCi (hA ds hd u hu a n c e).1 hg.size,fun g' hg'=>?_⟩⟩
 ·refine sX.grown (W:=W3) ?_ hg (fun u hu a n c e he=>(hA ds (aCr hk) u hu a n c e).2 a.block he.symm rfl);by_cases hkb:k < l.length
  ·rw[aDp (by rw[h.len];exact hkb)] at hk;rw[aDp hkb] at hy;exact(h.each k ds y hk hy).mono hx
  ·have hkl:=(aCl.1 hy).1;have hkk:k=l.length:=by simp at hkl;omega
   subst hkk;rw[aDq (by rw[h.len];omega),h.len] at hk;rw[aDq (by omega)] at hy;simp at hk hy;subst hk;subst hy;exact hc
 ·obtain rfl:g=g':=by simpa[Value.ownBlock] using hg'
  rcases hgg with h1 | h1
  ·exact(hA ds hd u hu a n c e).2 g h1
  ·have:=(hA ds hd u hu a n c e).1;omega
theorem Rh.eight {base:Nat} {W:World} {v:Value} {l:List bX} {css:List (List Value)} (h:Rh base W v l css):∀ cs∈css,cs.length=8:=fun cs hc=>by
 obtain⟨k,hk⟩:=List.mem_iff_getElem?.1 hc;have hkl:=(aCl.1 hk).1;obtain⟨x,hx⟩:=bU (f:=l) (k:=k) (by rw[<- h.len];exact hkl);exact(h.each k cs x hk hx).eight
theorem zI.v {base:Nat} {W:World} {v:Value} {l:List bX} (h:zI base W v l) (h60:l.length<=60):rI W v l:=by
 obtain⟨css,h⟩:=h;rcases h.row.2 with ⟨rfl,h0⟩ | ⟨g,cap,cur,rfl,hb,hg,hcp,hm,hcs,htk⟩
 ·exact .inl ⟨List.eq_nil_of_length_eq_zero h0,Option.none,0,rfl,by omega⟩
 ·refine .inr ⟨g,0,cap,rfl,hcp,by unfold maxLen at hm;omega,by omega,(aCg.1 hg).1,fun k x hk=>?_⟩;have hkb:=(aCl.1 hk).1;obtain⟨cs,hcs'⟩:=bU (f:=css) (k:=k) (by rw[h.len];exact hkb);refine⟨cs,h.each k cs x hcs' hk,fun j u hj=>?_⟩;have h7:=h.eight cs (aCr hcs');have hj7:j < 8:=by have:=(aCl.1 hj).1;omega
  have e:css.flatten[k*8+j]?=aC u:=by rw[aBs css h.eight k j hj7,hcs'];exact hj
  have:=h.row.cells (g:=g) rfl (k*8+j) u e;rw[mB] at this
  rwa [show 0+(k*8+j)=0+k*8+j by omega] at this
theorem zI.ext {base:Nat} {W W':World} {v:Value} {l:List bX} (h:zI base W v l) (hx:Ext W W'):zI base W' v l:=by
 obtain⟨css,h⟩:=h;exact⟨css,bC h.row hx,h.len,fun k cs x h1 h2=>(h.each k cs x h1 h2).mono hx,fun cs hc u hu a n c e=>⟨aCi (h.low cs hc u hu a n c e).1 hx.size,(h.low cs hc u hu a n c e).2⟩⟩
theorem zI.form {base:Nat} {W:World} {v:Value} {l:List bX} (h:zI base W v l):∃ a c,v=aE a l.length c:=by
 obtain⟨css,h⟩:=h;rcases h.row.2 with ⟨rfl,h0⟩ | ⟨g,cap,cur,rfl,_⟩
 ·exact⟨Option.none,0,by rw[h0]⟩
 ·exact⟨_,cap,rfl⟩
def mO:Nat->List UInt8->List bX × List UInt8
 | 0,t=>([],t)
 | n+1,t=>match jI t with
  | none=>([],t)
  | some (x,r)=>(x::(mO n r).1,(mO n r).2)
theorem xB {n:Nat} {t:List UInt8} (h:jI t=aD):mO n t=([],t):=by
 cases n with
 | zero=>rfl
 | succ n=>simp only[mO,h]
theorem Gm {n:Nat} {t r:List UInt8} {x:bX} (h:jI t=aC (x,r)):mO (n+1) t=(x::(mO n r).1,(mO n r).2):=by simp only[mO,h]
theorem Le {t r:List UInt8} {x:bX} (h:jI t=aC (x,r)):∃ d,t=d++r/\8<=d.length:=by
 match t,h with
 | k::n::q::f::u::rk::n1::r1,h=>
  simp only[jI] at h;split at h
  ·next h1=>
   cases hd:r1.drop (2*n1.toNat) with
   | nil=>rw[hd] at h;simp at h
   | cons n2 r2=>
    rw[hd] at h;simp only at h;split at h
    ·next h2=>
     simp only[Option.some.injEq,Prod.mk.injEq] at h;have e1:r1=r1.take (2*n1.toNat)++(n2::(r2.take (2*n2.toNat)++r2.drop (2*n2.toNat))):=by rw[aEA,<- hd,aEA]
     refine⟨k::n::q::f::u::rk::n1::(r1.take (2*n1.toNat)++(n2::r2.take (2*n2.toNat))),?_,by simp;omega⟩;rw[<- h.2];simpa using e1
    ·cases h
  ·cases h
theorem Qn {t r:List UInt8} {x:bX} (h:jI t=aC (x,r)):(I64 x.aP.aG/\I64 x.aP.aI/\I64 x.aP.aH/\I64 x.aP.aJ)/\I64 x.aJ/\I64 x.N:=by
 match t,h with
 | k::n::q::f::u::rk::n1::r1,h=>
  simp only[jI] at h;split at h
  ·split at h
   ·split at h
    ·simp only[Option.some.injEq,Prod.mk.injEq] at h;rw[<- h.1];exact⟨⟨nI _,nI _,nI _,nI _⟩,nI _,nI _⟩
    ·cases h
   ·cases h
  ·cases h
@[irreducible] def eQ (t:List UInt8):List bX × Int × Int:=if 4096 < t.length then([],0,2) else((mO 60 t).1,(t.length:Int) - ((mO 60 t).2.length:Int),0)
theorem xV {t:List UInt8} (h:4096 < t.length):eQ t=([],0,2):=by unfold eQ;rw[if_pos h]
theorem oV {t:List UInt8} (h:¬ 4096 < t.length):eQ t=((mO 60 t).1,(t.length:Int) - ((mO 60 t).2.length:Int),0):=by unfold eQ;rw[if_neg h]
structure pH (t:List UInt8) (l:List bX) (r:List UInt8):Prop where
 eq:mO 60 t=(l++(mO (60 - l.length) r).1,(mO (60 - l.length) r).2)
 behind:∃ d,t=d++r
theorem pH.begin (t:List UInt8):pH t [] t:=⟨rfl,[],rfl⟩
theorem pH.step {t r r':List UInt8} {l:List bX} {x:bX} (h:pH t l r) (h60:l.length < 60) (ha:jI r=aC (x,r')):pH t (l++[x]) r':=by
 obtain⟨d,hd⟩:=h.behind;obtain⟨d',hd',_⟩:=Le ha;refine⟨?_,d++d',by rw[hd,hd',List.append_assoc]⟩;rw[h.eq,show 60 - l.length=(60 - (l++[x]).length)+1 by simp;omega,Gm ha];simp
theorem pH.stop {t r:List UInt8} {l:List bX} (h:pH t l r) (ha:jI r=aD\/¬ l.length < 60):mO 60 t=(l,r):=by
 rw[h.eq];rcases ha with ha | ha
 ·rw[xB ha,List.append_nil]
 ·rw[show 60 - l.length=0 by omega];simp[mO]
def Dh (w:World) (q:List bX × Int × Int) (e:Ending) (w':World):Prop:=∃ v,e=.returned (.tuple #[v,aA aB q.2.1,aA aB q.2.2])/\rI w' v q.1/\Ext w w'
theorem mU {w w':World} {q:List bX × Int × Int} {l:List bX} {a b:Int} {v:Value} (h:q=(l,a,b)) (hv:rI w' v l) (hx:Ext w w'):Dh w q (.returned (.tuple #[v,aA aB a,aA aB b])) w':=by
 subst h;exact⟨v,rfl,hv,hx⟩
def aB7:Value->Nat
 | aE _ n _=>n
 | _=>0
theorem aBq (W:World) (cs:List Value) (T:TypeId) (h:cs.length=8):∀ (j:Nat) u,cs[j]?=aC u->(W.alloc (.cells cs.toArray T)).cell? ((⟨W.heap.size,0,aD⟩:Addr).add j)=aC u:=by
 have h0:(W.alloc (.cells cs.toArray T)).ownsRow W.heap.size T 8 (aE (aC ⟨W.heap.size,0,aD⟩) 1 1) 1 cs:=
  ⟨by rw[h],.inr ⟨W.heap.size,1,cs.toArray,rfl,aC8 _,heap_alloc_new W _,aC8 _,by decide,by simp[h],by rw[List.toList_toArray,List.take_of_length_le (by omega)]⟩⟩
 exact h0.cells (g:=W.heap.size) rfl
theorem w64 {n:Int} (h:-9223372036854775808<=n/\n<=9223372036854775807):wrap64 n=n:=by unfold wrap64;omega
theorem info31:(prog.info? 31).map (fun i=>(i.zero,i.size,i.bytes))=aC (aC (.agg #[aA aB 0,aA aB 0,aA aB 0,aA aB 0,aA aB 0,aA aB 0,aE aD 0 0,aE aD 0 0]),8,96):=by kernel_rfl
theorem Gv (w:World) (t:List UInt8) :
  Calls prog 22 #[.string (str t)] w (Dh w (eQ t)):=by
 obtain⟨T,hT⟩:∃ T,str t=T:=⟨_,rfl⟩;have hsz:T.size=t.length:=by rw[<- hT,fN]
 by_cases hm:4096 < t.length
 ·have hm':(4096:Int) < (T.size:Int):=by omega
  have hd:=deT hm';have HR:=hid (xV hm);clear hm hsz;rw[hT];clear hT;go_enter func22,ntmps22
  go_wp2_with fail
  go_ret3
  exact mU HR.out SV.nil (Ext.rf w)
 ·have hm':¬ (4096:Int) < (T.size:Int):=by omega
  have hd:=deF hm';obtain⟨ia,ia1,ia2,ia3,ia4⟩:=info_parts info31;have HR:=hid (oV hm);have HSZ:=hid hsz;have HT:=hid hT;have HM:=hid hm;rw[hT];clear hm hsz hT;go_enter func22,ntmps22
  go_wp2_with fail
  go_loopw [5,6] (fun v c wr=>∃ (l:List bX) (r:List UInt8) (a:Option Addr) (cp:Nat),v=aE a l.length cp/\c=.string (str r)/\l.length<=60/\Hid (pH t l r)/\Hid (zI w.heap.size wr v l)/\Hid (Ext w wr)) (fun v _ _=>60 - aB7 v)
  case atStart=>exact⟨[],t,aD,0,rfl,by rw[HT.out],aCw _,hid (pH.begin t),hid (zI.none _ _),hid (Ext.rf w)⟩
  case round=>
   obtain⟨l,r,a,cp,rfl,rfl,h60,HRT,HOW,HX⟩:=hrel;by_cases hlt:l.length < 60
   ·have hlt':(l.length:Int) < (60:Int):=by omega
    have hdl:=deT hlt';have RD:=hid (Zx wr r)
    go_wp2_with fail
    refine RD.out.mono ?_;rintro e w1 ⟨hx1,hor⟩;rcases hor with ⟨x,r',pv,cv,hact,rfl,hp,hc,np,nc⟩ | ⟨hact,rfl⟩
    ·obtain⟨hi4,hik,hin⟩:=Qn hact;have hbox:=heap_alloc_new w1 (.cells #[aA aB x.aJ,aA aB x.N,aA aB x.aP.aG,aA aB x.aP.aI,aA aB x.aP.aH,aA aB x.aP.aJ,pv,cv] 31);have hxb:=(Ext.rf w1).al (.cells #[aA aB x.aJ,aA aB x.N,aA aB x.aP.aG,aA aB x.aP.aI,aA aB x.aP.aH,aA aB x.aP.aJ,pv,cv] 31);have hxc:=hxb.al (.cells #[aA aB x.aJ,aA aB x.N,aA aB x.aP.aG,aA aB x.aP.aI,aA aB x.aP.aH,aA aB x.aP.aJ,pv,cv] 31);have hac:sX w1 [aA aB x.aJ,aA aB x.N,aA aB x.aP.aG,aA aB x.aP.aI,aA aB x.aP.aH,aA aB x.aP.aJ,pv,cv] x:=⟨pv,cv,rfl,hp,hc,hi4,hik,hin⟩;have hnew:∀ u∈([aA aB x.aJ,aA aB x.N,aA aB x.aP.aG,aA aB x.aP.aI,aA aB x.aP.aH,aA aB x.aP.aJ,pv,cv]:List Value),rG wr.heap.size w1 u:=fun u hu=>by
      simp only[aCQ,aD1,or_false] at hu;rcases hu with rfl | rfl | rfl | rfl | rfl | rfl | rfl | rfl
      ·intro a n c e;cases e
      ·intro a n c e;cases e
      ·intro a n c e;cases e
      ·intro a n c e;cases e
      ·intro a n c e;cases e
      ·intro a n c e;cases e
      ·exact np
      ·exact nc
     have hn8:=aBq (w1.alloc (.cells #[aA aB x.aJ,aA aB x.N,aA aB x.aP.aG,aA aB x.aP.aI,aA aB x.aP.aH,aA aB x.aP.aJ,pv,cv] 31)) [aA aB x.aJ,aA aB x.N,aA aB x.aP.aG,aA aB x.aP.aI,aA aB x.aP.aH,aA aB x.aP.aJ,pv,cv] 31 rfl;rw[aD3] at hn8;have hone:=hac.one;obtain⟨css,hA⟩:=HOW.out;have HO1:=hid (bC hA.row (hx1.tr hxc));have hsz0:=(HX.out.tr (hx1.tr hxc)).size;have HSZ0:=hid hsz0;have HSN:=hid (fun(g cap:Nat) (W5:World)=>hA.snoc (g:=g) (cap:=cap) (W5:=W5) (hx1.tr hxc) (hac.mono hxc) (fun u hu=>(hnew u hu).ext hxc));have HX1:=hid (HX.out.tr (hx1.tr hxc));have HOWN:=hid (fun rr hr=>(HOW.out.choose_spec.row.lt rr hr).1);have HRT2:=hid (HRT.out.step hlt hact);have HN8:=hid hn8;have HONE:=hid hone;have k0:=cell_of_row _ _ 0 _ _ _ hbox;have k1:=cell_of_row _ _ 1 _ _ _ hbox;have k2:=cell_of_row _ _ 2 _ _ _ hbox;have k3:=cell_of_row _ _ 3 _ _ _ hbox;have k4:=cell_of_row _ _ 4 _ _ _ hbox;have k5:=cell_of_row _ _ 5 _ _ _ hbox;have k6:=cell_of_row _ _ 6 _ _ _ hbox;have k7:=cell_of_row _ _ 7 _ _ _ hbox;obtain⟨pa,pc,rfl,_,_,_⟩:=hp.form;obtain⟨ca,cc,rfl,_,_,_⟩:=hc.form;generalize x.aP.aF.length=pn at *;generalize x.Cap.length=cn at *;clear hact hp hc np nc hi4 hik hin hbox hxb hxc hac hnew hn8 hone hA hsz0 hx1 RD HOW HX
     go_wp2_with (at_builtin;refine wpList_append_lies _ rfl _ _ 57 rfl w.heap.size 31 ia _ 8 96 underlying57 ia1 ia2 ia3 ia4 rfl (by decide) (aE a l.length cp) l.length css.flatten rfl HO1.out ⟨w1.heap.size+1,0,aD⟩ 1 1 [aA aB x.aJ,aA aB x.N,aA aB x.aP.aG,aA aB x.aP.aI,aA aB x.aP.aH,aA aB x.aP.aJ,aE pa pn pc,aE ca cn cc] rfl rfl HN8.out HONE.out (by omega) (by unfold maxLen;omega) (by omega) HSZ0.out (w1.heap.size+2) (by simp) ?_;intro g2 cap2 W2 hown hgrow hlie hlt2;have HO2:=hid (HSN.out g2 cap2 W2 hown hgrow (hlie.imp_right fun e=>e.trans (by simp only[aD3])));have HX2:=hid (HX1.out.gr (v:=aE a l.length cp) hgrow HOWN.out);clear hown hgrow hlie hlt2)
     go_roundw
     case rel=>
      have e:(l++[x]).length=l.length+1:=by simp
      exact⟨l++[x],r',_,_,by rw[e],rfl,by rw[e];omega,HRT2,by rw[e] at HO2;exact HO2,HX2⟩
     case measure=>simp[aB7];omega
    ·have HEND:=hid (mU (q:=eQ t) (w:=w) (w':=w1.alloc (.cells #[aA aB 0,aA aB 0,aA aB 0,aA aB 0,aA aB 0,aA aB 0,aE aD 0 0,aE aD 0 0] 31)) (l:=l) (a:=(t.length:Int) - (r.length:Int)) (b:=0) (v:=aE a l.length cp) (by
      have e:=HRT.out.stop (.inl hact);rw[HR.out,e]) ((HOW.out.ext (hx1.al _)).v h60) (HX.out.tr (hx1.al _)))
     rw[<- HSZ.out,<- fN r] at HEND;have hwr:wrap64 ((T.size:Int) - ((str r).size:Int))=(T.size:Int) - ((str r).size:Int):=w64 ⟨by rw[HSZ.out,fN];obtain⟨d,hd'⟩:=HRT.out.behind;have:=congrArg List.length hd';rw[aC2] at this;have:=HM.out;omega,by rw[HSZ.out,fN];have:=HM.out;omega⟩;rw[<- hwr] at HEND;unfold dQ;clear hwr;clear hact hx1 RD HOW HX HRT
     go_wp2_with fail
     go_ret3
     exact HEND.out
   ·have hlt':¬ (l.length:Int) < (60:Int):=by omega
    have hdl:=deF hlt';have HEND:=hid (mU (q:=eQ t) (w:=w) (w':=wr) (l:=l) (a:=(t.length:Int) - (r.length:Int)) (b:=0) (v:=aE a l.length cp) (by
      have e:=HRT.out.stop (.inr hlt);rw[HR.out,e]) (HOW.out.v h60) HX.out)
    rw[<- HSZ.out,<- fN r] at HEND;have hwr:wrap64 ((T.size:Int) - ((str r).size:Int))=(T.size:Int) - ((str r).size:Int):=w64 ⟨by rw[HSZ.out,fN];obtain⟨d,hd'⟩:=HRT.out.behind;have:=congrArg List.length hd';rw[aC2] at this;have:=HM.out;omega,by rw[HSZ.out,fN];have:=HM.out;omega⟩;rw[<- hwr] at HEND;clear HOW HX HRT hwr
    go_wp2_with fail
    go_ret3
    exact HEND.out
theorem Nc {w:World} {a:Option Addr} {n cp k:Nat} {l:List bX} {x:bX} (h:rI w (aE a n cp) l) (hk:l[k]?=aC x) :
  ∃ b off pv cv,a=aC ⟨b,off,aD⟩/\b < w.heap.size/\aW w pv x.aP.aF/\bE w cv x.Cap/\(I64 x.aP.aG/\I64 x.aP.aI/\I64 x.aP.aH/\I64 x.aP.aJ)/\I64 x.aJ/\I64 x.N/\
   w.cell? ⟨b,off+k*8,aD⟩=aC (aA aB x.aJ)/\w.cell? ⟨b,off+k*8+1,aD⟩=aC (aA aB x.N)/\w.cell? ⟨b,off+k*8+2,aD⟩=aC (aA aB x.aP.aG)/\w.cell? ⟨b,off+k*8+3,aD⟩=aC (aA aB x.aP.aI)/\
   w.cell? ⟨b,off+k*8+4,aD⟩=aC (aA aB x.aP.aH)/\w.cell? ⟨b,off+k*8+5,aD⟩=aC (aA aB x.aP.aJ)/\w.cell? ⟨b,off+k*8+6,aD⟩=aC pv/\w.cell? ⟨b,off+k*8+7,aD⟩=aC cv:=by
 rcases h with ⟨rfl,_⟩ | ⟨b,off,cap,e,h1,h2,h3,h4,h5⟩
 ·simp at hk
 ·cases e;obtain⟨cs,⟨pv,cv,rfl,hp,hc,hi,h6,h7⟩,hcs⟩:=h5 k x hk;exact⟨b,off,pv,cv,rfl,h4,hp,hc,hi,h6,h7,hcs 0 _ rfl,hcs 1 _ rfl,hcs 2 _ rfl,hcs 3 _ rfl,hcs 4 _ rfl,hcs 5 _ rfl,hcs 6 _ rfl,hcs 7 _ rfl⟩
noncomputable def mA (s:aU) (x:bX):aU:=if(doR s x).2=0 then(doR s x).1 else s
noncomputable def kY (s:aU) (l:List bX):aU:=l.foldl mA s
theorem Fs {s:aU} {l:List bX} {k:Nat} {x:bX} (h:l[k]?=aC x):kY s (l.take (k+1))=mA (kY s (l.take k)) x:=by
 unfold kY;rw[List.take_add_one,h];simp[List.foldl_append]
@[irreducible] noncomputable def jW (l:List Queue) (q:List bX × Int × Int):aU × Int × Int:=
 if bK l≠0 then(eS,0,bK l) else if q.2.2≠0 then(eS,0,q.2.2) else(kY ⟨0,0,l,[]⟩ q.1,(q.1.length:Int),0)
theorem vU {l:List Queue} {q:List bX × Int × Int} (h:bK l≠0):jW l q=(eS,0,bK l):=by unfold jW;rw[if_pos h]
theorem vV {l:List Queue} {q:List bX × Int × Int} (h:bK l=0) (h2:q.2.2≠0):jW l q=(eS,0,q.2.2):=by unfold jW;rw[if_neg (fun e=>e h),if_pos h2]
theorem pS {l:List Queue} {q:List bX × Int × Int} (h:bK l=0) (h2:q.2.2=0):jW l q=(kY ⟨0,0,l,[]⟩ q.1,(q.1.length:Int),0):=by unfold jW;rw[if_neg (fun e=>e h),if_neg (fun e=>e h2)]
def Gu (w:World) (x:aU × Int × Int) (e:Ending) (w':World):Prop:=
 ∃ u v,e=.returned (.tuple #[.agg #[aA aB x.1.aL,aA aB x.1.aM,u,v],aA aB x.2.1,aA aB x.2.2])/\aX w' u x.1.aN/\bD w' v x.1.aK/\Ext w w'
theorem Ah {w w':World} {x:aU × Int × Int} {s:aU} {n m:Int} {u v:Value} (h:x=(s,n,m)) (h1:aX w' u s.aN) (h2:bD w' v s.aK) (hx:Ext w w'):Gu w x (.returned (.tuple #[.agg #[aA aB s.aL,aA aB s.aM,u,v],aA aB n,aA aB m])) w':=by
 subst h;exact⟨u,v,rfl,h1,h2,hx⟩
theorem StS.sink {B B2:Nat} {W:World} {u v:Value} {S:aU} (h:StS B W u v S) (hb:B2<=B):StS B2 W u v S:=by
 rcases h with h | h
 ·exact .inl (h.low hb (fun r hr=>by cases hr))
 ·exact .inr h
structure Ut (B:Nat) (W:World) (g:Nat) (s:aU) (tv bv:Value):Prop where
 box:W.heap[g]?=aC (.cells #[aA aB s.aL,aA aB s.aM,tv,bv] 25 (0,0))
 st:StS B W tv bv s
theorem Ut.ext {B:Nat} {W W':World} {g:Nat} {s:aU} {tv bv:Value} (h:Ut B W g s tv bv) (hx:Ext W W'):Ut B W' g s tv bv:=⟨aV h.box hx,h.st.later hx⟩
theorem Zr {B g cap:Nat} {W:World} {l:List Queue} (hq:gX (List.range B) W g l) (hc1:l.length<=cap) (hc2:cap<=9223372036854775807) (hg:B<=g) (ok:eY l):StS B W (aE (aC ⟨g,0,aD⟩) l.length cap) (aE aD 0 0) ⟨0,0,l,[]⟩:=by
 obtain⟨vs,h1,h2⟩:=hq;have hB:eZ (g::([]++List.range B)) B W (aE aD 0 0) []:=⟨[],aCD _ _ _ _,⟨rfl,fun k cs x h=>by simp at h⟩,(fun cs h=>nomatch h),(fun g h=>nomatch h)⟩;exact .inl ⟨g,cap,rfl,hc1,hc2,ok.n5,by simp,hg,h1.lt,by simp,(fun x hx=>nomatch hx),lM ok,hB,(fun r h=>nomatch h),⟨vs,h1,h2⟩⟩
theorem aAS (w:World) (v:Value) (l:List Queue) (hv:aX w v l) (h0:bK l=0) :
  Calls prog 64 #[v] w fun e w'=>∃ u,e=.returned (.tuple #[.agg #[aA aB 0,aA aB 0,u,aE aD 0 0],aA aB 0])/\StS w.heap.size w' u (aE aD 0 0) ⟨0,0,l,[]⟩/\Ext w w':=by
 have C:=hid (fun(W:World) (h:Ext w W)=>nD W v l (hv.mono h));have H0:=hid (heap_alloc_new w (.cells #[aA aB 0,aA aB 0,aE aD 0 0,aE aD 0 0] 25));have ok:=kK h0;rw[h0] at C;have O:=hid (fun(W:World) (h:Ext w W) (hb:w.heap.size < W.heap.size)=>sP [w.heap.size] w W v l hv h ok (fun r hr=>by have:=aDj.1 hr;omega));have OK:=hid ok;obtain⟨a,cap,rfl,_,_,_⟩:=hv.form;clear hv ok h0;generalize hln:l.length=n at *;go_enter func64,ntmps64
 go_wp2_with fail
 refine(C.out _ ((Ext.rf w).al _)).mono ?_;rintro e w1 ⟨rfl,hx1⟩
 go_wp2_with fail
 refine(O.out _ (((Ext.rf w).al _).tr hx1) (by have:=hx1.size;simp at this;omega)).mono ?_;rintro e w2 ⟨g,uc,rfl,hc1,hc2,hg,hQ,hN,hx2⟩;have hs1:w.heap.size+1<=w1.heap.size:=by have:=hx1.size;simpa using this
 have hgw:g≠w.heap.size:=by omega
 have HB:=hid (show w2.heap[w.heap.size]?=aC (.cells #[aA aB 0,aA aB 0,aE aD 0 0,aE aD 0 0] 25 (0,0)) from ((hx1.tr hx2).block _ (by simp)).trans H0.out);have hX:Ext w (w2.setRow w.heap.size #[aA aB 0,aA aB 0,aE (aC ⟨g,0,aD⟩) n uc,aE aD 0 0]):=((((Ext.rf w).al _).tr hx1).tr hx2).sr (aC8 _) _
 go_wp2_with (refine wpList_store_row rfl 25 _ _ rfl w.heap.size #[aA aB 0,aA aB 0,aE (aC ⟨g,0,aD⟩) n uc,aE aD 0 0] rfl rfl 25 #[aA aB 0,aA aB 0,aE aD 0 0,aE aD 0 0] HB.out size25 rfl (by simp[aCh]) ?_)
 have HB2:=setRow_heap w2 w.heap.size _ #[aA aB 0,aA aB 0,aE (aC ⟨g,0,aD⟩) n uc,aE aD 0 0] _ _ HB.out;have hgr:=bO w2 w.heap.size #[aA aB 0,aA aB 0,aE (aC ⟨g,0,aD⟩) n uc,aE aD 0 0];have hQ2:=hQ.kept hgr (aDj.2 rfl) hgw;have hN2:=(hN.kept hgr hgw).less (l:=l.length) (b2:=w.heap.size) (by omega) (by omega);have hQ3:=(hQ2.fresh (cs:=List.range w.heap.size) hN2 (fun r hr=>by have:=List.mem_range.1 hr;omega)).less (cs:=List.range w.heap.size) (fun r hr=>List.mem_append_right _ hr);have hS:=Zr (cap:=uc) hQ3 (by rw[hln];exact hc1) hc2 (by omega) OK.out;rw[hln] at hS;exact bodyPost_ret (bJ rfl _ _ w.heap.size 25 #[aA aB 0,aA aB 0,aE (aC ⟨g,0,aD⟩) n uc,aE aD 0 0] (0,0) _ rfl HB2 underlying25 rfl size25) rfl ⟨_,rfl,hS,hX⟩
theorem jU {W:World} {B:Nat} {t:TypeId} {a b c d:Value} (h:W.heap[B]?=aC (.cells #[a,b,c,d] t (0,0))) :
  W.cell? ⟨B,0,aD⟩=aC a/\W.cell? ⟨B,1,aD⟩=aC b/\W.cell? ⟨B,2,aD⟩=aC c/\W.cell? ⟨B,3,aD⟩=aC d:=
 ⟨cell_of_row W B 0 _ _ _ h,cell_of_row W B 1 _ _ _ h,cell_of_row W B 2 _ _ _ h,cell_of_row W B 3 _ _ _ h⟩
theorem pX (w:World) (v:Value) (l:List Queue) (t:List UInt8) (hv:aX w v l) :
  Calls prog 25 #[v,.string (str t)] w (Gu w (jW l (eQ t))):=by
 have TC:=hid (fun(W:World) (h:Ext w W)=>nD W v l (hv.mono h));have RP:=hid (fun(W:World)=>Gv W t);have BG:=hid (fun(W:World) (h:Ext w W) (h0:bK l=0)=>aAS W v l (hv.mono h) h0);have H0:=hid (heap_alloc_new w (.cells #[aA aB 0,aA aB 0,aE aD 0 0,aE aD 0 0] 25));have HX0:=hid ((Ext.rf w).al (.cells #[aA aB 0,aA aB 0,aE aD 0 0,aE aD 0 0] 25));obtain⟨va,vc,rfl,_,_,_⟩:=hv.form;clear hv;by_cases h0:bK l=0
 ·rw[h0] at TC;have BG:=hid (fun(W:World) (h:Ext w W)=>BG.out W h h0);have HR:=hid (fun h2=>pS (q:=eQ t) h0 h2);have HM:=hid (fun h2=>vV (q:=eQ t) h0 h2);clear h0;generalize eQ t=q at *;obtain⟨acts,cnt,code⟩:=q;generalize str t=T at *;generalize l.length=n at *;go_enter func25,ntmps25
  go_wp2_with fail
  refine(TC.out _ HX0.out).mono ?_;rintro e w1 ⟨rfl,hx1⟩
  go_wp2_with fail
  refine(RP.out w1).mono ?_;rintro e w2 ⟨av,rfl,hacts,hx2⟩;obtain⟨aa,ac,rfl,_,_,_⟩:=hacts.form;by_cases hc:code=0
  ·subst hc;have HDO:=hid (fun(W:World) (tv bv pv cv:Value) (s:aU) (x:bX) hl hb hp hc hI hN=>Uo W tv bv pv cv s x hl hb hp hc hI hN)
   go_wp2_with fail
   refine(BG.out w2 ((HX0.out.tr hx1).tr hx2)).mono ?_;rintro e w3 ⟨u,rfl,hu,hx3⟩;obtain⟨ua,uc,_,_,rfl,_⟩:=hu.forms;have HBX:=hid (show Ut (w.heap.size+1) (w3.alloc (.cells #[aA aB 0,aA aB 0,aE ua l.length uc,aE aD 0 0] 25)) w3.heap.size ⟨0,0,l,[]⟩ (aE ua l.length uc) (aE aD 0 0) from ⟨heap_alloc_new w3 _,(hu.sink (by have:=(hx1.tr hx2).size;simpa using this)).later ((Ext.rf w3).al _)⟩);have HAV:=hid (fun(W:World) (h:Ext w3 W)=>(hacts.mono hx3).mono h);have HX3:=hid (((HX0.out.tr hx1).tr hx2).tr hx3);have HZ:=hid (aV (aV (aV H0.out hx1) hx2) hx3);have hsz3:w.heap.size+1<=w3.heap.size:=by have:=((hx1.tr hx2).tr hx3).size;simpa using this
   have HS3:=hid hsz3;have HRR:=hid (HR.out trivial);clear hu hx1 hx2 hx3 hacts TC RP BG HM HR hsz3;generalize hz:acts.length=z at *;have HZL:=hid hz;clear hz
   go_wp2_with fail
   go_loopw [40] (fun c wr=>∃ (k:Nat) (tv bv:Value),c=aA aB k/\k<=z/\Hid (Ut (w.heap.size+1) wr w3.heap.size (kY ⟨0,0,l,[]⟩ (acts.take k)) tv bv)/\Ext w3 wr) (fun c _=>z - (intOf c).toNat)
   case atStart=>exact⟨0,_,_,rfl,aCw _,HBX,(Ext.rf w3).al _⟩
   case round=>
    obtain⟨k,tv,bv,rfl,hk,HB,hx⟩:=hrel;by_cases hlt:k < z
    ·have hlt':(k:Int) < (z:Int):=by omega
     have hdl:=deT hlt';obtain⟨x,hxk⟩:=bU (f:=acts) (k:=k) (by rw[HZL.out];exact hlt);obtain⟨b,off,pv,cv,rfl,hbl,hp,hc,hI,hK,hN,e0,e1,e2,e3,e4,e5,e6,e7⟩:=Nc (HAV.out wr hx) hxk;have HDK:=hid (Fs (s:=⟨0,0,l,[]⟩) hxk);generalize kY ⟨0,0,l,[]⟩ (acts.take k)=S at *;have hl:=HB.out.st.tree;have hb:=HB.out.st.books;obtain⟨ta,tc,rfl,_,_,_⟩:=hl.form;obtain⟨ba,bc,rfl,_,_,_⟩:=hb.form;obtain⟨pa,pc,rfl,_,_,_⟩:=hp.form;obtain⟨ca,cc,rfl,_,_,_⟩:=hc.form;obtain⟨n0,n1,n2,n3⟩:=jU HB.out.box;have hxb:=(Ext.rf wr).al (.cells #[aA aB x.aJ,aA aB x.N,aA aB x.aP.aG,aA aB x.aP.aI,aA aB x.aP.aH,aA aB x.aP.aJ,aE pa x.aP.aF.length pc,aE ca x.Cap.length cc] 31);have DO:=hid (HDO.out _ _ _ _ _ S x (hl.mono hxb) (hb.mono hxb) (hp.mono hxb) (hc.mono hxb) hI hN);have hg3:w3.heap.size < wr.heap.size:=(aCg.1 HB.out.box).1;obtain⟨S',er,hd⟩:∃ S' er,doR S x=(S',er):=⟨_,_,rfl⟩;rw[hd] at DO;have HD1:=hid (fun(h:er=0)=>(show mA S x=S' from by unfold mA;rw[hd,if_pos h]));have HD2:=hid (fun(h:er≠0)=>(show mA S x=S from by unfold mA;rw[hd,if_neg h]));have HSX:=hid (hx.tr hxb);have HXB:=hid hxb;have hszb:=hxb.size;have HSZB:=hid hszb;clear hd hszb;clear hp hc hl hb
     go_wp2_with fail
     refine DO.out.mono ?_;rintro e w5 ⟨u5,v5,rfl,hS5,hx5⟩;obtain⟨fa,fc,ga,gc,rfl,rfl⟩:=hS5.forms;have hxc:=(Ext.rf w5).al (.cells #[aA aB S'.aL,aA aB S'.aM,aE fa S'.aN.length fc,aE ga S'.aK.length gc] 25);have HS6:=hid (hS5.later hxc);have HX6:=hid ((HSX.out.tr hx5).tr hxc);have HX66:=hid ((HXB.out.tr hx5).tr hxc);clear hS5 hx5 hxc hxb hx DO;by_cases hz0:er=0
     ·subst hz0;have HB6:=hid (aV HB.out.box HX66.out);have HP:=hid (HS6.out.put (r:=w3.heap.size) (B2:=w.heap.size+1) (by have:=HSZB.out;omega) (by have:=HSZB.out;have:=HS3.out;omega) #[aA aB S'.aL,aA aB S'.aM,aE fa S'.aN.length fc,aE ga S'.aK.length gc]);have HR6:=hid (setRow_heap _ w3.heap.size _ #[aA aB S'.aL,aA aB S'.aM,aE fa S'.aN.length fc,aE ga S'.aK.length gc] _ _ HB6.out)
      go_wp2_with (refine wpList_store_row rfl 25 _ _ rfl w3.heap.size #[aA aB S'.aL,aA aB S'.aM,aE fa S'.aN.length fc,aE ga S'.aK.length gc] rfl rfl 25 _ HB6.out size25 rfl (by simp[aCh]) ?_)
      go_roundw
      case rel=>exact⟨k+1,_,_,by go_num,by omega,hid (by rw[HDK.out,HD1.out trivial];exact⟨HR6.out,HP.out⟩),HX6.out.sr (aC8 _) _⟩
      case measure=>simp[intOf];omega
     ·have hne:=neT hz0;have hz0':=eqF hz0;have HB6:=hid (HB.out.ext HX66.out)
      go_wp2_with fail
      go_roundw
      case rel=>exact⟨k+1,_,_,by go_num,by omega,hid (by rw[HDK.out,HD2.out hz0];exact HB6.out),HX6.out⟩
      case measure=>simp[intOf];omega
    ·obtain rfl:k=z:=by omega
     have hno:¬ (k:Int) < (k:Int):=by omega
     have hdl:=deF hno;have hkt:acts.take k=acts:=by rw[<- HZL.out,List.take_length]
     rw[hkt] at HB;have HTK:=hid hkt;clear hkt;generalize kY ⟨0,0,l,[]⟩ acts=S at *;have hl:=HB.out.st.tree;have hb:=HB.out.st.books;obtain⟨ta,tc,rfl,_,_,_⟩:=hl.form;obtain⟨ba,bc,rfl,_,_,_⟩:=hb.form;obtain⟨n0,n1,n2,n3⟩:=jU HB.out.box;have HZE:=hid (aV HZ.out hx);have HXE:=hid ((HX3.out.tr hx).sr (b:=w.heap.size) (aC8 _) #[aA aB S.aL,aA aB S.aM,aE ta S.aN.length tc,aE ba S.aK.length bc]);have HRE:=hid (setRow_heap wr w.heap.size _ #[aA aB S.aL,aA aB S.aM,aE ta S.aN.length tc,aE ba S.aK.length bc] _ _ HZE.out);have HPE:=hid (HB.out.st.put (r:=w.heap.size) (B2:=w.heap.size) (by omega) (by omega) #[aA aB S.aL,aA aB S.aM,aE ta S.aN.length tc,aE ba S.aK.length bc]);clear hl hb
     go_wp2_with (refine wpList_store_row rfl 25 _ _ rfl w.heap.size #[aA aB S.aL,aA aB S.aM,aE ta S.aN.length tc,aE ba S.aK.length bc] rfl rfl 25 _ HZE.out size25 rfl (by simp[aCh]) ?_)
     exact bodyPost_ret (bH (u1:=5) (u2:=6) rfl _ _ w.heap.size 25 #[aA aB S.aL,aA aB S.aM,aE ta S.aN.length tc,aE ba S.aK.length bc] (0,0) _ rfl HRE.out underlying25 rfl size25) rfl (Ah HRR.out HPE.out.tree HPE.out.books HXE.out)
  ·have hne:=neT hc;have HB:=hid (aV (aV H0.out hx1) hx2);have HXE:=hid (((HX0.out.tr hx1).tr hx2).sr (b:=w.heap.size) (aC8 _) #[aA aB 0,aA aB 0,aE aD 0 0,aE aD 0 0]);have HB2:=hid (setRow_heap w2 w.heap.size _ #[aA aB 0,aA aB 0,aE aD 0 0,aE aD 0 0] _ _ HB.out)
   go_wp2_with (refine wpList_store_row rfl 25 _ _ rfl w.heap.size #[aA aB 0,aA aB 0,aE aD 0 0,aE aD 0 0] rfl rfl 25 #[aA aB 0,aA aB 0,aE aD 0 0,aE aD 0 0] HB.out size25 rfl (by simp[aCh]) ?_)
   exact bodyPost_ret (bH (u1:=5) (u2:=6) rfl _ _ w.heap.size 25 #[aA aB 0,aA aB 0,aE aD 0 0,aE aD 0 0] (0,0) _ rfl HB2.out underlying25 rfl size25) rfl (Ah (s:=eS) (HM.out hc) SV.nil SV.nil HXE.out)
 ·have HR:=hid (vU (q:=eQ t) h0);have hne:=neT h0;clear h0;generalize eQ t=q at *;generalize str t=T at *;generalize l.length=n at *;generalize bK l=ce at *;go_enter func25,ntmps25
  go_wp2_with fail
  refine(TC.out _ HX0.out).mono ?_;rintro e w1 ⟨rfl,hx1⟩;have HB:=hid (aV H0.out hx1);have HXE:=hid ((HX0.out.tr hx1).sr (b:=w.heap.size) (aC8 _) #[aA aB 0,aA aB 0,aE aD 0 0,aE aD 0 0]);have HB2:=hid (setRow_heap w1 w.heap.size _ #[aA aB 0,aA aB 0,aE aD 0 0,aE aD 0 0] _ _ HB.out)
  go_wp2_with (refine wpList_store_row rfl 25 _ _ rfl w.heap.size #[aA aB 0,aA aB 0,aE aD 0 0,aE aD 0 0] rfl rfl 25 #[aA aB 0,aA aB 0,aE aD 0 0,aE aD 0 0] HB.out size25 rfl (by simp[aCh]) ?_)
  exact bodyPost_ret (bH (u1:=5) (u2:=6) rfl _ _ w.heap.size 25 #[aA aB 0,aA aB 0,aE aD 0 0,aE aD 0 0] (0,0) _ rfl HB2.out underlying25 rfl size25) rfl (Ah (s:=eS) (HR.out) SV.nil SV.nil HXE.out)
def u8 (n:Int):UInt8:=UInt8.ofNat n.toNat
theorem qI {n:Int} (h:jO n=false):byI (u8 n)=n:=by
 unfold jO at h;simp only[Bool.or_eq_false_iff,decide_eq_false_iff_not] at h;unfold byI u8;rw[UInt8.toNat_ofNat'];omega
theorem Zn {n:Nat} (h:n<=255):(u8 (n:Int)).toNat=n:=by
 unfold u8;rw[UInt8.toNat_ofNat',Int.toNat_natCast];omega
def fP (x:bX):List UInt8:=(fF x).map u8
theorem xG {x:bX} (h:(fF x).any jO=false) (h2:x.aP.aF.length<=3) (h3:x.Cap.length<=48):kP x=(str (fP x),0):=zS h (by omega)
theorem Bc {x:bX} (h:(kP x).2=0):(fF x).any jO=false/\x.aP.aF.length<=3/\x.Cap.length<=48/\(kP x).1=str (fP x):=by
 cases ho:(fF x).any jO with
 | true=>rw[wB ho] at h;exact absurd h (by decide)
 | false=>
  by_cases h2:3 < x.aP.aF.length\/48 < x.Cap.length
  ·rw[sY ho h2] at h;exact absurd h (by decide)
  ·exact⟨rfl,by omega,by omega,by rw[zS ho h2];rfl⟩
theorem yA:∀ (l:List Piece) (r:List UInt8),(kO l).any jO=false->dO l.length ((kO l).map u8++r)=l
 | [],_,_=>rfl
 | p::l,r,h=>by
  have e:kO (p::l)=p.Len::p.N::kO l:=rfl;rw[e,aEB,aEB,Bool.or_eq_false_iff,Bool.or_eq_false_iff] at h;rw[e];show ⟨byI (u8 p.Len),byI (u8 p.N)⟩::dO l.length ((kO l).map u8++r)=p::l;rw[qI h.1,qI h.2.1,yA l r h.2.2]
theorem Eb:∀ (l:List Run) (r:List UInt8),(lP l).any jO=false->iM l.length ((lP l).map u8++r)=l
 | [],_,_=>rfl
 | p::l,r,h=>by
  have e:lP (p::l)=p.At::p.N::lP l:=rfl;rw[e,aEB,aEB,Bool.or_eq_false_iff,Bool.or_eq_false_iff] at h;rw[e];show ⟨byI (u8 p.At),byI (u8 p.N)⟩::iM l.length ((lP l).map u8++r)=p::l;rw[qI h.1,qI h.2.1,Eb l r h.2.2]
theorem Gn {x:bX} (h:(fF x).any jO=false) (h2:x.aP.aF.length<=3) (h3:x.Cap.length<=48) (r:List UInt8):jI (fP x++r)=aC (x,r):=by
 have e:fP x++r=u8 x.aJ::u8 x.N::u8 x.aP.aG::u8 x.aP.aI::u8 x.aP.aH::u8 x.aP.aJ::u8 (x.aP.aF.length:Int)::((kO x.aP.aF).map u8++(u8 (x.Cap.length:Int)::((lP x.Cap).map u8++r))):=by
  unfold fP fF;simp
 have n1:=Zn (n:=x.aP.aF.length) (by omega);have n2:=Zn (n:=x.Cap.length) (by omega);have l1:((kO x.aP.aF).map u8).length=2*x.aP.aF.length:=by rw[aDk,nA]
 have l2:((lP x.Cap).map u8).length=2*x.Cap.length:=by rw[aDk,oP]
 unfold fF at h;rw[aEq,aEq,aEq,Bool.or_eq_false_iff,Bool.or_eq_false_iff,Bool.or_eq_false_iff] at h;obtain⟨⟨⟨g1,g2⟩,g3⟩,g4⟩:=h;simp only[aEB,List.any_nil,Bool.or_eq_false_iff] at g1;obtain⟨k1,k2,k3,k4,k5,k6,_⟩:=g1;rw[e];show (if(u8 (x.aP.aF.length:Int)).toNat<=3/\2*(u8 (x.aP.aF.length:Int)).toNat<=((kO x.aP.aF).map u8++(u8 (x.Cap.length:Int)::((lP x.Cap).map u8++r))).length then _ else aD)=_;rw[n1,if_pos ⟨h2,by rw[aC2,l1];omega⟩,aEC (by omega),aDC (by omega),aCZ];show (if(u8 (x.Cap.length:Int)).toNat<=48/\2*(u8 (x.Cap.length:Int)).toNat<=((lP x.Cap).map u8++r).length then aC _ else aD)=_;rw[n2,if_pos ⟨h3,by rw[aC2,l2];omega⟩,aEC (by omega),aDC (by omega),aCZ,qI k1,qI k2,qI k3,qI k4,qI k5,qI k6,yA _ _ g2,Eb _ _ g4]
def lgA:bX:=⟨1,0,lW 4,[]⟩
def lgB:bX:=⟨3,3,⟨0,0,0,0,[]⟩,[]⟩
def lgC:bX:=⟨0,256,⟨0,0,0,0,[]⟩,[]⟩
def lgD:bX:=⟨0,0,⟨0,0,0,0,[]⟩,[]⟩
def tA:List UInt8:=[1,0,3,2,30,4,2,4,3,5,6,0]
def tB:List UInt8:=[3,3,0,0,0,0,0,0]
theorem wrA:kP lgA=(str tA,0):=by rw[xG (by decide) (by decide) (by decide)];rfl
theorem wrB:kP lgB=(str tB,0):=by rw[xG (by decide) (by decide) (by decide)];rfl
theorem wrC:kP lgC=(ByteArray.empty,3):=wB (by decide)
theorem repA:eQ (tA++tB++[1])=([lgA,lgB],20,0):=by rw[oV (by decide)];rfl
theorem repB:eQ (tA++tB)=([lgA,lgB],20,0):=by rw[oV (by decide)];rfl
def Ml:aU:=⟨0,0,eW 10 0 6,[]⟩
theorem nilV:aZ Ml=0:=aBM
def aBG:List Run:=[⟨0,8⟩,⟨20,4⟩]
theorem Ye:bS (iD (eW 10 0 6) [] 3)=aBG:=by decide +kernel
theorem Zy:cE (lW 4):=by decide +kernel
theorem Zz:cZ (kN Ml (lW 4)) (lW 4)=[⟨0,2⟩,⟨1,6⟩]:=by
 show cZ (sp (bS (iD (eW 10 0 6) [] 3))) (lW 4)=_;rw[Ye,lX rfl];decide +kernel
theorem mayP:mK Ml (lW 4)=0:=Da nilV (Mb Td Zy (by decide)) (by decide)
def tR:List aT:=[⟨0,lW 4,[⟨0,2⟩,⟨1,6⟩]⟩]
theorem subP:dE Ml (lW 4)=(⟨0,1,eW 10 0 6,tR⟩,0,0):=by
 rw[rN mayP (by show ¬ ((0:Nat)=12\/(0:Int)=1048576);decide) (by rw[Zz];decide),Zz];rfl
theorem oneV:aZ ⟨0,1,eW 10 0 6,tR⟩=0:=(xM subP).1
theorem stayP:kM 3 tR=tR:=by
 have hb:=(dU (cM (cC oneV).1).1).2.2.2;have h1:=Mq (hb ⟨0,lW 4,[⟨0,2⟩,⟨1,6⟩]⟩ (by simp[tR])) 3;rw[show gG (fY (⟨0,lW 4,[⟨0,2⟩,⟨1,6⟩]⟩:aT).aP (⟨0,lW 4,[⟨0,2⟩,⟨1,6⟩]⟩:aT).aO) ((⟨0,lW 4,[⟨0,2⟩,⟨1,6⟩]⟩:aT).aO.length - 1)=11 by decide +kernel] at h1;unfold kM tR;rw[List.filter_cons,h1];rfl
theorem tickP:gV ⟨0,1,eW 10 0 6,tR⟩ 3=(⟨3,1,eW 10 0 6,tR⟩,0,0):=by
 rw[xK oneV (by decide) (by show ¬ (3:Int) < 0;decide)];show (aU.mk 3 1 (eW 10 0 6) (kM 3 tR),(tR.length:Int) - ((kM 3 tR).length:Int),(0:Int))=_;rw[stayP];rfl
theorem doneP:kY Ml [lgA,lgB]=⟨3,1,eW 10 0 6,tR⟩:=by
 have h1:mA Ml lgA=⟨0,1,eW 10 0 6,tR⟩:=by
  unfold mA;rw[Vp rfl,show dE Ml lgA.aP=_ from subP];rfl
 have h2:mA ⟨0,1,eW 10 0 6,tR⟩ lgB=⟨3,1,eW 10 0 6,tR⟩:=by
  unfold mA;rw[Vo rfl,show gV ⟨0,1,eW 10 0 6,tR⟩ lgB.N=_ from tickP];rfl
 show mA (mA Ml lgA) lgB=_;rw[h1,h2]
theorem recP:jW (eW 10 0 6) (eQ (tA++tB))=(⟨3,1,eW 10 0 6,tR⟩,2,0):=by
 rw[repB,pS Td rfl];show (kY Ml [lgA,lgB],((2:Nat):Int),(0:Int))=_;rw[doneP];rfl
theorem doNo {s:aU}:doR s lgD=(eS,7):=Mw (by decide) (by decide) (by decide) (by decide)
theorem zG {w:World} {pv cv:Value} {x:bX} {T:ByteArray} {c:Int} (h:kP x=(T,c)) (hp:aW w pv x.aP.aF) (hc:bE w cv x.Cap) (hI:I64 x.aP.aG/\I64 x.aP.aI/\I64 x.aP.aH/\I64 x.aP.aJ) (hK:I64 x.aJ) (hN:I64 x.N) :
  Calls prog 20 #[.agg #[aA aB x.aJ,aA aB x.N,aA aB x.aP.aG,aA aB x.aP.aI,aA aB x.aP.aH,aA aB x.aP.aJ,pv,cv]] w fun e w'=>e=.returned (.tuple #[.string T,aA aB c])/\Ext w w':=by
 have:=Yu w pv cv x hp hc hI hK hN;rwa [h] at this
theorem Za {w:World} {t:List UInt8} {T:ByteArray} {l:List bX} {n c:Int} (ht:str t=T) (h:eQ t=(l,n,c)) :
  Calls prog 22 #[.string T] w fun e w'=>∃ v,e=.returned (.tuple #[v,aA aB n,aA aB c])/\rI w' v l/\Ext w w':=by
 have:=Gv w t;rwa [h,ht] at this
theorem Ui {w:World} {v:Value} {l:List Queue} {t:List UInt8} {T:ByteArray} {S:aU} {n c:Int} (ht:str t=T) (h:jW l (eQ t)=(S,n,c)) (hv:aX w v l) :
  Calls prog 25 #[v,.string T] w fun e w'=>∃ u v,e=.returned (.tuple #[.agg #[aA aB S.aL,aA aB S.aM,u,v],aA aB n,aA aB c])/\aX w' u S.aN/\bD w' v S.aK/\Ext w w':=by
 have:=pX w v l t hv;rwa [h,ht] at this
theorem qF (w:World):Calls prog 11 #[] w fun e w'=>e=.returned (.bool true)/\Ext w w':=by
 have hv10:I64 (10:Int):=i64_small' (by decide) (by decide);have I0:I64 (0:Int):=i64_small' (by decide) (by decide);have IP:I64 (lW 4).aG/\I64 (lW 4).aI/\I64 (lW 4).aH/\I64 (lW 4).aJ:=⟨i64_small' (by decide) (by decide),i64_small' (by decide) (by decide),i64_small' (by decide) (by decide),i64_small' (by decide) (by decide)⟩;have eA:str tA++str tB++(⟨#[1]⟩:ByteArray)=str (tA++tB++[1]):=by decide +kernel
 have eB:str tA++str tB=str (tA++tB):=by decide +kernel
 have sA:(str tA).size=12:=rfl;have sB:(str tB).size=8:=rfl;have EA:=hid eA;have EB:=hid eB;have SA:=hid sA;have SB:=hid sB;clear eA eB sA sB;have WA:=hid (fun(W:World) (pv:Value) (hp:aW W pv Bj)=>zG (w:=W) (pv:=pv) (cv:=aE aD 0 0) wrA hp SV.nil IP (i64_small' (by decide) (by decide)) I0);have WB:=hid (fun(W:World)=>zG (w:=W) (pv:=aE aD 0 0) (cv:=aE aD 0 0) wrB SV.nil SV.nil ⟨I0,I0,I0,I0⟩ (i64_small' (by decide) (by decide)) (i64_small' (by decide) (by decide)));have WC:=hid (fun(W:World)=>zG (w:=W) (pv:=aE aD 0 0) (cv:=aE aD 0 0) wrC SV.nil SV.nil ⟨I0,I0,I0,I0⟩ I0 (i64_small' (by decide) (by decide)));have RA:=hid (fun(W:World) (T:ByteArray) (h:str (tA++tB++[1])=T)=>Za (w:=W) h repA);have RB:=hid (fun(W:World) (T:ByteArray) (v:Value) (h:str (tA++tB)=T) (hv:aX W v (eW 10 0 6))=>Ui (w:=W) h recP hv);have DD:=hid (fun(W:World) (tv bv:Value) (hl:aX W tv (eW 10 0 6)) (hb:bD W bv Vn)=>Uo W tv bv (aE aD 0 0) (aE aD 0 0) (farmS 10) lgD hl hb SV.nil SV.nil ⟨I0,I0,I0,I0⟩ I0);obtain⟨TA,hTA⟩:∃ T,str tA=T:=⟨_,rfl⟩;obtain⟨TB,hTB⟩:∃ T,str tB=T:=⟨_,rfl⟩;rw[hTA] at WA EA EB SA;rw[hTB] at WB EA EB SB;clear hTA hTB IP;go_enter func11,ntmps11
 go_wp2_with fail
 refine(Oq _ 4).mono ?_;rintro e w1 ⟨pb,rfl,hpv,hx1⟩;have CA:=hid (WA.out w1 _ hpv);have X1:=hid hx1;clear hpv hx1 WA
 go_wp2_with fail
 refine CA.out.mono ?_;rintro e w2 ⟨rfl,hx2⟩;have X2:=hid (X1.out.tr hx2);clear hx2 X1 CA
 go_wp2_with fail
 refine(WB.out _).mono ?_;rintro e w3 ⟨rfl,hx3⟩;have X3:=hid (X2.out.tr hx3);have ha1:=run_string_add_sum (P:=prog) w3 TA TB (by rw[SA.out,SB.out];decide);have ha2:=run_string_add_sum (P:=prog) w3 (TA++TB) ⟨#[1]⟩ (by rw[ByteArray.size_append,SA.out,SB.out];decide);clear hx3 X2 WB
 go_wp2_with fail
 refine(RA.out _ _ EA.out.symm).mono ?_;rintro e w4 ⟨av,rfl,hav,hx4⟩;have X4:=hid (X3.out.tr hx4);obtain⟨aa,ac,h,_,_,_⟩:=hav.form;have h':av=aE aa 2 ac:=h;clear h;subst h';clear hx4 hav X3 RA
 go_wp2_with fail
 refine(Ky _).mono ?_;rintro e w5 ⟨rfl,FA,hx5⟩;have CB:=hid (RB.out w5 _ _ EB.out.symm (FA.v hv10 I0 (i64_small' (by decide) (by decide))));have X5:=hid (X4.out.tr hx5);have ha3:=run_string_add_sum (P:=prog) w5 TA TB (by rw[SA.out,SB.out];decide);clear FA hx5 X4 RB
 go_wp2_with fail
 refine CB.out.mono ?_;rintro e w6 ⟨u,v,rfl,hu,hv,hx6⟩;obtain⟨ua,uc,h,_,_,_⟩:=hu.form;have h':u=aE ua 4 uc:=h;clear h;subst h';obtain⟨va,vc,h,_,_,_⟩:=hv.form;have h':v=aE va 1 vc:=h;clear h;subst h';have X6:=hid (X5.out.tr hx6);have N6:=hid (fun(V:World) (h:Ext (w6.alloc (.cells #[aA aB 3,aA aB 1,aE ua 4 uc,aE va 1 vc] 25)) V)=>yD h);have XA6:=hid (X6.out.tr ((Ext.rf w6).al (.cells #[aA aB 3,aA aB 1,aE ua 4 uc,aE va 1 vc] 25)));clear hu hv hx6 X5 CB X6
 go_wp2_with fail
 refine(WC.out _).mono ?_;rintro e w7 ⟨rfl,hx7⟩;have X7:=hid (XA6.out.tr hx7);have Q7:=hid hx7;clear hx7 WC
 go_wp2_with fail
 refine(aAs _).mono ?_;rintro e w8 ⟨F,G,p1,q1,r1,s1,rfl,_,FA,hx8⟩;have CD:=hid (DD.out w8 _ _ (FA.tree hv10) FA.books);have X8:=hid (X7.out.tr hx8);have Q8:=hid (Q7.out.tr hx8);clear FA hx8 DD X7 Q7;rw[doNo] at CD
 go_wp2_with fail
 refine(wK CD.out).mono ?_;rintro e w9 ⟨u,v,h,hu,hv,hx9⟩;obtain⟨a9,c9,h2,_,_,_⟩:=hu.form;have h2':u=aE a9 0 c9:=h2;obtain⟨b9,d9,h3,_,_,_⟩:=hv.form;have h3':v=aE b9 0 d9:=h3;clear h2 h3;subst h2' h3';have h':e=.returned (.tuple #[.agg #[aA aB 0,aA aB 0,aE a9 0 c9,aE b9 0 d9],aA aB 7]):=h;clear h;subst h';have hal:=(Ext.rf w9).al (.cells #[aA aB 0,aA aB 0,aE a9 0 c9,aE b9 0 d9] 25);have X9:=hid (X8.out.tr (hx9.tr hal));obtain⟨n0,n1,n2,n3⟩:=N6.out _ (Q8.out.tr (hx9.tr hal));have sa:(TA.size:Int)=12:=by rw[SA.out];rfl
 have sb:(TB.size:Int)=8:=by rw[SB.out];rfl
 clear hu hv hx9 hal CD N6 Q8 X8 EA EB XA6
 go_wp2_with fail
 go_ret;exact⟨rfl,X9.out⟩
theorem Xj (x:bX):(fF x).length=8+2*x.aP.aF.length+2*x.Cap.length:=by
 unfold fF;simp only[aC2,aCj,List.length_nil,nA,oP];omega
end Go.Proofs.YtdcndkojmflhnaaGreat
