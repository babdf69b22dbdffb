/- log: the pen; each theorem names its own conditions. -/
import Derived.Test.YtdcndkojmflhnaaGreatPLogA
import Derived.Laws.BytesArg
set_option linter.unusedVariables false
set_option linter.unusedSimpArgs false
set_option maxRecDepth 100000
set_option maxHeartbeats 8000000
set_option linter.unusedSimpArgs false
set_option linter.unusedVariables false
namespace Go.Proofs.YtdcndkojmflhnaaGreat
open Go.RowKit
open List renaming getElem_toArray→zA,getElem_cons_zero→zB,getElem_cons_succ→zC,setIfInBounds_toArray→zD,set_cons_zero→zE,set_cons_succ→zF
def b8 (n:Int):Int:=n % 256
@[irreducible] def orB (a b:Bool):Bool:=a || b
theorem orB_eq (a b:Bool):orB a b=(a || b):=by unfold orB;rfl
def outB (n:Int):Bool:=decide (n < 0) || decide (255 < n)
def PenAt (av:List Nat) (base P:Nat) (W:World) (bs:List Int) (bad:Bool):Prop :=
 ∃ v,W.heap[P]?=some (.cells #[v,.bool bad] 102 (0,0))∧W.ownsRow base 5 1 v bs.length (bs.map fun n=>Value.int .u8 n)∧∀ r,v.ownBlock=some r→r ∉ av
theorem PenAt.more {av cv:List Nat} {base P:Nat} {W:World} {bs:List Int} {bad:Bool} (h:PenAt av base P W bs bad) (hc:∀ r∈cv,W.heap.size≤r):PenAt cv base P W bs bad:=by
 obtain ⟨v,h1,h2,h3⟩:=h
 exact ⟨v,h1,h2,fun r hr hm=>by have:=(h2.lt r hr).2;have:=hc r hm;omega⟩
theorem PenAt.less {av:List Nat} {base P:Nat} {W:World} {bs:List Int} {bad:Bool} (h:PenAt av base P W bs bad):PenAt [] base P W bs bad:=by
 obtain ⟨v,h1,h2,h3⟩:=h
 exact ⟨v,h1,h2,fun r hr hm=>(by cases hm)⟩
theorem PenAt.ext {av:List Nat} {base P:Nat} {W W':World} {bs:List Int} {bad:Bool} (h:PenAt av base P W bs bad) (hx:Ext W W'):PenAt av base P W' bs bad:=by
 obtain ⟨v,h1,h2,h3⟩:=h
 exact ⟨v,blk_ext h1 hx,ownsRow_ext h2 hx,h3⟩
theorem PenAt.cells {av:List Nat} {base P:Nat} {W:World} {bs:List Int} {bad:Bool} (h:PenAt av base P W bs bad):∃ v,W.cell? ⟨P,0,none⟩=some v∧W.cell? ⟨P,1,none⟩=some (.bool bad)∧W.frozen? ⟨P,0,none⟩=false∧W.frozen? ⟨P,1,none⟩=false ∧
  W.ownsRow base 5 1 v bs.length (bs.map fun n=>Value.int .u8 n)∧(∀ r,v.ownBlock=some r→r ∉ av)∧W.heap[P]?=some (.cells #[v,.bool bad] 102 (0,0)):=by
 obtain ⟨v,h1,h2,h3⟩:=h
 exact ⟨v,cell_of_row _ _ 0 _ _ _ h1,cell_of_row _ _ 1 _ _ _ h1,frozen_of_row _ _ 0 _ _ h1,frozen_of_row _ _ 1 _ _ h1,h2,h3,h1⟩
theorem PenAt.push {av:List Nat} {base P:Nat} {W W2 W5:World} {v v2:Value} {bs:List Int} {bad:Bool} {y:Int} (h1:W.heap[P]?=some (.cells #[v,.bool bad] 102 (0,0))) (hx:Ext W W2) (hown:W.ownsRow base 5 1 v bs.length (bs.map fun n=>Value.int .u8 n)) (hP:P < base) (hav:∀ r,v.ownBlock=some r→r ∉ av) (hlow:∀ r∈av,r < W2.heap.size)
  (hg:W2.grownBy W5 v.ownBlock) (ho:W5.ownsRow base 5 1 v2 (bs.length+1) ((bs.map fun n=>Value.int .u8 n)++[.int .u8 y])) (hlie:∀ r,v2.ownBlock=some r→v.ownBlock=some r∨W2.heap.size≤r):PenAt av base P (W5.setCell ⟨P,0,none⟩ v2) (bs++[y]) bad:=by
 have hp5:W5.heap[P]?=some (.cells #[v,.bool bad] 102 (0,0)):=(hg.block P (Array.getElem?_eq_some_iff.1 (blk_ext h1 hx)).1 (fun e=>by have:=(hown.lt _ e.symm).1;omega)).trans (blk_ext h1 hx)
 refine ⟨v2,heap_setCell_same W5 P 0 _ _ _ hp5,?_,fun r hr hm=>?_⟩
 ·rw [List.length_append,List.map_append]
  exact ownsRow_grown ho (grown_set W5 P 0 _) hP
 ·rcases hlie r hr with h | h
  ·exact hav r h hm
  ·have:=hlow r hm;omega
theorem penPut_any (A w0:World) (base P:Nat) (bs:List Int) (bad:Bool) (xs:List Int) (hpen:PenAt [] base P w0 bs bad) (hA:Ext A w0) (hAP:A.heap.size≤P) (hP:P < base) (hb:base≤w0.heap.size) (hn:bs.length+xs.length≤140737488355000) (hi:∀ x∈xs,I64 x) :
  Calls Tryz.prog 57 #[.pointer (some ⟨P,0,none⟩),.slice (some ⟨w0.heap.size,0,none⟩) xs.length xs.length] (w0.alloc (.cells (xs.map fun n=>Value.int .i64 n).toArray 3)) fun e w'=>e=.returned (.tuple #[])∧PenAt [] base P w' (bs++xs.map b8) (orB bad (xs.any outB))∧Ext A w'∧w0.heap.size≤w'.heap.size:=by
 obtain ⟨ib,ib1,ib2,ib3,ib4⟩:=info_parts (show (Tryz.prog.info? 5).map (fun i=>(i.zero,i.size,i.bytes))=some (some (.int .u8 0),1,1) from by kernel_rfl)
 obtain ⟨w,hw⟩:∃ w,w0.alloc (.cells (xs.map fun n=>Value.int .i64 n).toArray 3)=w:=⟨_,rfl⟩
 rw [hw]
 have hx0:Ext w0 w:=hw▸(Ext.rf w0).al _
 have hlb:w.heap[w0.heap.size]?=some (.cells (xs.map fun n=>Value.int .i64 n).toArray 3 (0,0)):=hw▸heap_alloc_new w0 _
 have hp:=(hpen.more (cv:=[w0.heap.size]) (fun r hr=>by rw [List.mem_singleton.1 hr];exact Nat.le_refl _)).ext hx0
 have hPlt:P < w0.heap.size:=by omega
 have HPEN:=hid hp
 have HLB:=hid hlb
 have HA0:=hid (hA.tr hx0)
 have HI:=hid hi
 have hsz:=hx0.size
 clear hw hpen hA hlb hp
 generalize hlen:xs.length=n at *
 generalize hbl:bs.length=bn at *
 have HLEN:=hid hlen
 have HBL:=hid hbl
 clear hlen hbl
 obtain ⟨LB,hLB⟩:∃ LB,w0.heap.size=LB:=⟨_,rfl⟩
 rw [hLB] at HPEN HLB hb hPlt hsz ⊢
 clear hLB hx0
 go_enter Tryz.func57,Tryz.ntmps57
 go_wp2_with fail
 go_loopw [8] (fun c wr=>∃ k:Nat,c=.int .i64 k∧k≤n∧Hid (PenAt [LB] base P wr (bs++(xs.take k).map b8) (orB bad ((xs.take k).any outB)))∧Hid (Ext A wr)∧Hid (wr.heap[LB]?=some (.cells (xs.map fun n=>Value.int .i64 n).toArray 3 (0,0)))∧LB≤wr.heap.size) (fun c _=>n - (intOf c).toNat)
 case atStart=>exact ⟨0,rfl,Nat.zero_le _,hid (by rw [show bs++(xs.take 0).map b8=bs from by simp];rw [show orB bad ((xs.take 0).any outB)=bad from by rw [orB_eq];simp];exact HPEN.out),HA0,HLB,hsz⟩
 case round =>
  obtain ⟨k,rfl,hk,HPE,HXA,HL2,hs2⟩:=hrel
  by_cases hlt:k < n
  ·have hlt':(k:Int) < (n:Int):=by omega
   obtain ⟨x,hx⟩:=getA (f:=xs) (k:=k) (by rw [HLEN.out];exact hlt)
   have hcl:(bs++(xs.take k).map b8).length≤140737488354999:=by
    rw [List.length_append,List.length_map,List.length_take,HBL.out,HLEN.out]
    omega
   have HNEXT:=hid (show bs++(xs.take (k+1)).map b8=(bs++(xs.take k).map b8)++[b8 x]∧orB bad ((xs.take (k+1)).any outB)=(orB bad ((xs.take k).any outB) || decide (x < 0) || decide (255 < x)) from by
    rw [List.take_add_one,hx]
    refine ⟨by simp,?_⟩
    rw [List.any_append,orB_eq,orB_eq]
    simp [outB,Bool.or_assoc])
   have HPF:=HPE.out
   clear HPE
   generalize bs++(xs.take k).map b8=cb at *
   obtain ⟨v,k0,k1,f0,f1,hown,hav,hblk⟩:=HPF.cells
   have c0:wr.cell? ⟨LB,k,none⟩=some (.int .i64 x):=by
    rw [cell_of_row wr LB k _ _ _ HL2.out]
    simp [List.getElem?_map,hx]
   by_cases hb0:orB bad ((xs.take k).any outB)=true
   ·have HNX:=hid (show orB bad ((xs.take (k+1)).any outB)=true from by rw [HNEXT.out.2];simp [hb0])
    obtain ⟨W1,hW1⟩:∃ W1,wr.setCell ⟨P,1,none⟩ (.bool true)=W1:=⟨_,rfl⟩
    have hs1:W1.heap.size=wr.heap.size:=by rw [← hW1];simp [World.setCell]
    have hb1:W1.heap[P]?=some (.cells #[v,.bool true] 102 (0,0)):=by rw [← hW1];exact heap_setCell_same wr P 1 _ _ _ hblk
    have ho1:W1.ownsRow base 5 1 v cb.length (cb.map fun n=>Value.int .u8 n):=by rw [← hW1];exact ownsRow_grown hown (grown_set wr P 1 _) hP
    have HB1:=hid hb1
    have HO1:=hid ho1
    have HOA:=hid (ho1.alloc (.cells #[.int .u8 (x % 256)] 5))
    have HN1:=hid (new1 W1 hs1.symm (.int .u8 (x % 256)) 5)
    have HXA1:=hid (show Ext A W1 from by rw [← hW1];exact HXA.out.se (b:=P) (o:=1) hAP _)
    have HL1:=hid (show W1.heap[LB]?=some (.cells (xs.map fun n=>Value.int .i64 n).toArray 3 (0,0)) from by rw [← hW1,heap_setCell_other wr ⟨P,1,none⟩ _ _ (by show LB≠P;omega)];exact HL2.out)
    have HS1:=hid hs1
    have HW1:=hid hW1
    have HAV:=hid hav
    have HVL:=hid (fun r hr=>(hown.lt r hr).1)
    have HSZ:=hid (show base≤(W1.alloc (.cells #[.int .u8 (x % 256)] 5)).heap.size from by rw [World.size_alloc,hs1];omega)
    have hne:¬ LB=P:=by omega
    clear hown hav hblk hx HPF hb1 ho1 hW1 hs1
    go_wp2_with (at_builtin;rw [HW1.out];(refine wpList_append_lies _ rfl _ _ 100 rfl base 5 ib _ 1 1 Tryz.underlying100 ib1 ib2 ib3 ib4 rfl (by decide) v cb.length (cb.map fun n=>Value.int .u8 n) rfl HOA.out ⟨wr.heap.size,0,none⟩ 1 1 [.int .u8 (x % 256)] rfl rfl HN1.out (by simp [Value.oneCell']) (by omega) (by unfold maxLen;omega) (by omega) HSZ.out (wr.heap.size+1) (by rw [World.size_alloc,HS1.out]) ?_);intro g2 cp2 W5 hown hgrow hlie hlt3;have hp5:=(hgrow.block P (Nat.lt_of_lt_of_le (Array.getElem?_eq_some_iff.1 HB1.out).1 ((Ext.rf W1).al _).size) (fun e=>by have:=HVL.out _ e.symm;omega)).trans (blk_ext HB1.out ((Ext.rf W1).al _));have k5:=cell_of_row W5 P 0 _ _ _ hp5;have f5:=frozen_of_row W5 P 0 _ _ hp5;have HG:=hid hgrow;have HO5:=hid hown;have HLI:=hid hlie;clear hown hgrow hlie hp5)
    have hsz5:=HG.out.size
    rw [World.size_alloc,HS1.out] at hsz5
    go_roundw
    case rel=>exact ⟨k+1,by go_num,by omega,hid (by
     rw [HNEXT.out.1,HNX.out]
     exact PenAt.push HB1.out ((Ext.rf W1).al _) HO1.out hP HAV.out (fun r hr=>by rw [List.mem_singleton.1 hr,World.size_alloc,HS1.out];omega) HG.out HO5.out (fun r hr=>by
      have e:g2=r:=Option.some.inj hr
      rcases HLI.out with h | h
      ·exact .inl (by rw [h,e])
      ·right;rw [World.size_alloc,HS1.out];omega)),hid (((HXA1.out.al _).gr (v:=v) HG.out (fun r hr=>by have:=HVL.out r hr;omega)).se (b:=P) (o:=0) hAP _),hid (by
     rw [heap_setCell_other W5 ⟨P,0,none⟩ _ _ (by show LB≠P;omega)]
     have h1:=blk_ext HL1.out ((Ext.rf W1).al (.cells #[.int .u8 (x % 256)] 5))
     exact (HG.out.block LB (Array.getElem?_eq_some_iff.1 h1).1 (fun e=>HAV.out LB e.symm (List.mem_singleton.2 rfl))).trans h1),by
     have e:∀ a u,(W5.setCell a u).heap.size=W5.heap.size:=fun a u=>by simp [World.setCell]
     rw [e];omega⟩
    case measure=>simp [intOf];omega
   ·have hb1:orB bad ((xs.take k).any outB)=false:=by simpa using hb0
    clear hb0
    by_cases h1:x < 0
    ·have HNX:=hid (show orB bad ((xs.take (k+1)).any outB)=true from by rw [HNEXT.out.2];simp [hb1,h1])
     obtain ⟨W1,hW1⟩:∃ W1,wr.setCell ⟨P,1,none⟩ (.bool true)=W1:=⟨_,rfl⟩
     have hs1:W1.heap.size=wr.heap.size:=by rw [← hW1];simp [World.setCell]
     have hb1:W1.heap[P]?=some (.cells #[v,.bool true] 102 (0,0)):=by rw [← hW1];exact heap_setCell_same wr P 1 _ _ _ hblk
     have ho1:W1.ownsRow base 5 1 v cb.length (cb.map fun n=>Value.int .u8 n):=by rw [← hW1];exact ownsRow_grown hown (grown_set wr P 1 _) hP
     have HB1:=hid hb1
     have HO1:=hid ho1
     have HOA:=hid (ho1.alloc (.cells #[.int .u8 (x % 256)] 5))
     have HN1:=hid (new1 W1 hs1.symm (.int .u8 (x % 256)) 5)
     have HXA1:=hid (show Ext A W1 from by rw [← hW1];exact HXA.out.se (b:=P) (o:=1) hAP _)
     have HL1:=hid (show W1.heap[LB]?=some (.cells (xs.map fun n=>Value.int .i64 n).toArray 3 (0,0)) from by rw [← hW1,heap_setCell_other wr ⟨P,1,none⟩ _ _ (by show LB≠P;omega)];exact HL2.out)
     have HS1:=hid hs1
     have HW1:=hid hW1
     have HAV:=hid hav
     have HVL:=hid (fun r hr=>(hown.lt r hr).1)
     have HSZ:=hid (show base≤(W1.alloc (.cells #[.int .u8 (x % 256)] 5)).heap.size from by rw [World.size_alloc,hs1];omega)
     have hne:¬ LB=P:=by omega
     clear hown hav hblk hx HPF hb1 ho1 hW1 hs1
     go_wp2_with (at_builtin;rw [HW1.out];(refine wpList_append_lies _ rfl _ _ 100 rfl base 5 ib _ 1 1 Tryz.underlying100 ib1 ib2 ib3 ib4 rfl (by decide) v cb.length (cb.map fun n=>Value.int .u8 n) rfl HOA.out ⟨wr.heap.size,0,none⟩ 1 1 [.int .u8 (x % 256)] rfl rfl HN1.out (by simp [Value.oneCell']) (by omega) (by unfold maxLen;omega) (by omega) HSZ.out (wr.heap.size+1) (by rw [World.size_alloc,HS1.out]) ?_);intro g2 cp2 W5 hown hgrow hlie hlt3;have hp5:=(hgrow.block P (Nat.lt_of_lt_of_le (Array.getElem?_eq_some_iff.1 HB1.out).1 ((Ext.rf W1).al _).size) (fun e=>by have:=HVL.out _ e.symm;omega)).trans (blk_ext HB1.out ((Ext.rf W1).al _));have k5:=cell_of_row W5 P 0 _ _ _ hp5;have f5:=frozen_of_row W5 P 0 _ _ hp5;have HG:=hid hgrow;have HO5:=hid hown;have HLI:=hid hlie;clear hown hgrow hlie hp5)
     have hsz5:=HG.out.size
     rw [World.size_alloc,HS1.out] at hsz5
     go_roundw
     case rel=>exact ⟨k+1,by go_num,by omega,hid (by
      rw [HNEXT.out.1,HNX.out]
      exact PenAt.push HB1.out ((Ext.rf W1).al _) HO1.out hP HAV.out (fun r hr=>by rw [List.mem_singleton.1 hr,World.size_alloc,HS1.out];omega) HG.out HO5.out (fun r hr=>by
       have e:g2=r:=Option.some.inj hr
       rcases HLI.out with h | h
       ·exact .inl (by rw [h,e])
       ·right;rw [World.size_alloc,HS1.out];omega)),hid (((HXA1.out.al _).gr (v:=v) HG.out (fun r hr=>by have:=HVL.out r hr;omega)).se (b:=P) (o:=0) hAP _),hid (by
      rw [heap_setCell_other W5 ⟨P,0,none⟩ _ _ (by show LB≠P;omega)]
      have h1:=blk_ext HL1.out ((Ext.rf W1).al (.cells #[.int .u8 (x % 256)] 5))
      exact (HG.out.block LB (Array.getElem?_eq_some_iff.1 h1).1 (fun e=>HAV.out LB e.symm (List.mem_singleton.2 rfl))).trans h1),by
      have e:∀ a u,(W5.setCell a u).heap.size=W5.heap.size:=fun a u=>by simp [World.setCell]
      rw [e];omega⟩
     case measure=>simp [intOf];omega
    ·by_cases h2:255 < x
     ·have HNX:=hid (show orB bad ((xs.take (k+1)).any outB)=true from by rw [HNEXT.out.2];simp [hb1,h1,h2])
      obtain ⟨W1,hW1⟩:∃ W1,wr.setCell ⟨P,1,none⟩ (.bool true)=W1:=⟨_,rfl⟩
      have hs1:W1.heap.size=wr.heap.size:=by rw [← hW1];simp [World.setCell]
      have hb1:W1.heap[P]?=some (.cells #[v,.bool true] 102 (0,0)):=by rw [← hW1];exact heap_setCell_same wr P 1 _ _ _ hblk
      have ho1:W1.ownsRow base 5 1 v cb.length (cb.map fun n=>Value.int .u8 n):=by rw [← hW1];exact ownsRow_grown hown (grown_set wr P 1 _) hP
      have HB1:=hid hb1
      have HO1:=hid ho1
      have HOA:=hid (ho1.alloc (.cells #[.int .u8 (x % 256)] 5))
      have HN1:=hid (new1 W1 hs1.symm (.int .u8 (x % 256)) 5)
      have HXA1:=hid (show Ext A W1 from by rw [← hW1];exact HXA.out.se (b:=P) (o:=1) hAP _)
      have HL1:=hid (show W1.heap[LB]?=some (.cells (xs.map fun n=>Value.int .i64 n).toArray 3 (0,0)) from by rw [← hW1,heap_setCell_other wr ⟨P,1,none⟩ _ _ (by show LB≠P;omega)];exact HL2.out)
      have HS1:=hid hs1
      have HW1:=hid hW1
      have HAV:=hid hav
      have HVL:=hid (fun r hr=>(hown.lt r hr).1)
      have HSZ:=hid (show base≤(W1.alloc (.cells #[.int .u8 (x % 256)] 5)).heap.size from by rw [World.size_alloc,hs1];omega)
      have hne:¬ LB=P:=by omega
      clear hown hav hblk hx HPF hb1 ho1 hW1 hs1
      go_wp2_with (at_builtin;rw [HW1.out];(refine wpList_append_lies _ rfl _ _ 100 rfl base 5 ib _ 1 1 Tryz.underlying100 ib1 ib2 ib3 ib4 rfl (by decide) v cb.length (cb.map fun n=>Value.int .u8 n) rfl HOA.out ⟨wr.heap.size,0,none⟩ 1 1 [.int .u8 (x % 256)] rfl rfl HN1.out (by simp [Value.oneCell']) (by omega) (by unfold maxLen;omega) (by omega) HSZ.out (wr.heap.size+1) (by rw [World.size_alloc,HS1.out]) ?_);intro g2 cp2 W5 hown hgrow hlie hlt3;have hp5:=(hgrow.block P (Nat.lt_of_lt_of_le (Array.getElem?_eq_some_iff.1 HB1.out).1 ((Ext.rf W1).al _).size) (fun e=>by have:=HVL.out _ e.symm;omega)).trans (blk_ext HB1.out ((Ext.rf W1).al _));have k5:=cell_of_row W5 P 0 _ _ _ hp5;have f5:=frozen_of_row W5 P 0 _ _ hp5;have HG:=hid hgrow;have HO5:=hid hown;have HLI:=hid hlie;clear hown hgrow hlie hp5)
      have hsz5:=HG.out.size
      rw [World.size_alloc,HS1.out] at hsz5
      go_roundw
      case rel=>exact ⟨k+1,by go_num,by omega,hid (by
       rw [HNEXT.out.1,HNX.out]
       exact PenAt.push HB1.out ((Ext.rf W1).al _) HO1.out hP HAV.out (fun r hr=>by rw [List.mem_singleton.1 hr,World.size_alloc,HS1.out];omega) HG.out HO5.out (fun r hr=>by
        have e:g2=r:=Option.some.inj hr
        rcases HLI.out with h | h
        ·exact .inl (by rw [h,e])
        ·right;rw [World.size_alloc,HS1.out];omega)),hid (((HXA1.out.al _).gr (v:=v) HG.out (fun r hr=>by have:=HVL.out r hr;omega)).se (b:=P) (o:=0) hAP _),hid (by
       rw [heap_setCell_other W5 ⟨P,0,none⟩ _ _ (by show LB≠P;omega)]
       have h1:=blk_ext HL1.out ((Ext.rf W1).al (.cells #[.int .u8 (x % 256)] 5))
       exact (HG.out.block LB (Array.getElem?_eq_some_iff.1 h1).1 (fun e=>HAV.out LB e.symm (List.mem_singleton.2 rfl))).trans h1),by
       have e:∀ a u,(W5.setCell a u).heap.size=W5.heap.size:=fun a u=>by simp [World.setCell]
       rw [e];omega⟩
      case measure=>simp [intOf];omega
     ·have g1:=deF h1
      have g2:=deF h2
      have HNX:=hid (show orB bad ((xs.take (k+1)).any outB)=false from by rw [HNEXT.out.2];simp [hb1,h1,h2])
      obtain ⟨W1,hW1⟩:∃ W1,wr.setCell ⟨P,1,none⟩ (.bool false)=W1:=⟨_,rfl⟩
      have hs1:W1.heap.size=wr.heap.size:=by rw [← hW1];simp [World.setCell]
      have hb1:W1.heap[P]?=some (.cells #[v,.bool false] 102 (0,0)):=by rw [← hW1];exact heap_setCell_same wr P 1 _ _ _ hblk
      have ho1:W1.ownsRow base 5 1 v cb.length (cb.map fun n=>Value.int .u8 n):=by rw [← hW1];exact ownsRow_grown hown (grown_set wr P 1 _) hP
      have HB1:=hid hb1
      have HO1:=hid ho1
      have HOA:=hid (ho1.alloc (.cells #[.int .u8 x] 5))
      have HN1:=hid (new1 W1 hs1.symm (.int .u8 x) 5)
      have HXA1:=hid (show Ext A W1 from by rw [← hW1];exact HXA.out.se (b:=P) (o:=1) hAP _)
      have HL1:=hid (show W1.heap[LB]?=some (.cells (xs.map fun n=>Value.int .i64 n).toArray 3 (0,0)) from by rw [← hW1,heap_setCell_other wr ⟨P,1,none⟩ _ _ (by show LB≠P;omega)];exact HL2.out)
      have HS1:=hid hs1
      have HW1:=hid hW1
      have HAV:=hid hav
      have HVL:=hid (fun r hr=>(hown.lt r hr).1)
      have HSZ:=hid (show base≤(W1.alloc (.cells #[.int .u8 x] 5)).heap.size from by rw [World.size_alloc,hs1];omega)
      have hne:¬ LB=P:=by omega
      clear hown hav hblk hx HPF hb1 ho1 hW1 hs1
      go_wp2_with (at_builtin;rw [HW1.out];(refine wpList_append_lies _ rfl _ _ 100 rfl base 5 ib _ 1 1 Tryz.underlying100 ib1 ib2 ib3 ib4 rfl (by decide) v cb.length (cb.map fun n=>Value.int .u8 n) rfl HOA.out ⟨wr.heap.size,0,none⟩ 1 1 [.int .u8 x] rfl rfl HN1.out (by simp [Value.oneCell']) (by omega) (by unfold maxLen;omega) (by omega) HSZ.out (wr.heap.size+1) (by rw [World.size_alloc,HS1.out]) ?_);intro g2 cp2 W5 hown hgrow hlie hlt3;have hp5:=(hgrow.block P (Nat.lt_of_lt_of_le (Array.getElem?_eq_some_iff.1 HB1.out).1 ((Ext.rf W1).al _).size) (fun e=>by have:=HVL.out _ e.symm;omega)).trans (blk_ext HB1.out ((Ext.rf W1).al _));have k5:=cell_of_row W5 P 0 _ _ _ hp5;have f5:=frozen_of_row W5 P 0 _ _ hp5;have HG:=hid hgrow;have HO5:=hid hown;have HLI:=hid hlie;clear hown hgrow hlie hp5)
      have hsz5:=HG.out.size
      rw [World.size_alloc,HS1.out] at hsz5
      go_roundw
      case rel=>exact ⟨k+1,by go_num,by omega,hid (by
       rw [HNEXT.out.1,HNX.out,show b8 x=x from by unfold b8;omega]
       exact PenAt.push HB1.out ((Ext.rf W1).al _) HO1.out hP HAV.out (fun r hr=>by rw [List.mem_singleton.1 hr,World.size_alloc,HS1.out];omega) HG.out HO5.out (fun r hr=>by
        have e:g2=r:=Option.some.inj hr
        rcases HLI.out with h | h
        ·exact .inl (by rw [h,e])
        ·right;rw [World.size_alloc,HS1.out];omega)),hid (((HXA1.out.al _).gr (v:=v) HG.out (fun r hr=>by have:=HVL.out r hr;omega)).se (b:=P) (o:=0) hAP _),hid (by
       rw [heap_setCell_other W5 ⟨P,0,none⟩ _ _ (by show LB≠P;omega)]
       have h1:=blk_ext HL1.out ((Ext.rf W1).al (.cells #[.int .u8 x] 5))
       exact (HG.out.block LB (Array.getElem?_eq_some_iff.1 h1).1 (fun e=>HAV.out LB e.symm (List.mem_singleton.2 rfl))).trans h1),by
       have e:∀ a u,(W5.setCell a u).heap.size=W5.heap.size:=fun a u=>by simp [World.setCell]
       rw [e];omega⟩
      case measure=>simp [intOf];omega
  ·obtain rfl:k=n:=by omega
   have hno:¬ (k:Int) < (k:Int):=by omega
   have hfin:=HPE.out
   rw [List.take_of_length_le (by rw [HLEN.out];exact Nat.le_refl _)] at hfin
   have HFIN:=hid hfin
   clear hfin HPE
   go_wp2_with fail
   go_end0
   exact ⟨rfl,HFIN.out.less,HXA.out,hs2⟩
theorem penPut_at {A w0:World} {base P lb n:Nat} {bs:List Int} {bad:Bool} {cs:Array Value} (xs:List Int) (hlb:lb=w0.heap.size) (hcs:cs=(xs.map fun n=>Value.int .i64 n).toArray) (hxs:n=xs.length) (hpen:PenAt [] base P w0 bs bad) (hA:Ext A w0) (hAP:A.heap.size≤P) (hP:P < base) (hb:base≤w0.heap.size) (hn:bs.length+xs.length≤140737488355000) (hi:∀ x∈xs,I64 x) :
  Calls Tryz.prog 57 #[.pointer (some ⟨P,0,none⟩),.slice (some ⟨lb,0,none⟩) n n] (w0.alloc (.cells cs 3)) fun e w'=>e=.returned (.tuple #[])∧PenAt [] base P w' (bs++xs.map b8) (orB bad (xs.any outB))∧Ext A w'∧w0.heap.size≤w'.heap.size:=by
 subst hlb hcs hxs
 exact penPut_any A w0 base P bs bad xs hpen hA hAP hP hb hn hi
end Go.Proofs.YtdcndkojmflhnaaGreat
