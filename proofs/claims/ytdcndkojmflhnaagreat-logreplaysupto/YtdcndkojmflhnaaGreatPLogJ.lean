/- The reference: numbers, ActBytes; each theorem names its own conditions. -/
import Derived.Test.YtdcndkojmflhnaaGreatPLogI
set_option linter.unusedVariables false
set_option linter.unusedSimpArgs false
set_option maxRecDepth 100000
set_option maxHeartbeats 8000000
set_option linter.unusedSimpArgs false
set_option linter.unusedVariables false
namespace Go.Proofs.YtdcndkojmflhnaaGreat
open Go.RowKit
open List renaming getElem_toArray→zA,getElem_cons_zero→zB,getElem_cons_succ→zC,setIfInBounds_toArray→zD,set_cons_zero→zE,set_cons_succ→zF
theorem nums_i64 {x:Act1} (hp:∀ y∈x.Req.Pieces,I64 y.Len∧I64 y.N) (hc:∀ y∈x.Cap,I64 y.At∧I64 y.N) (hI:I64 x.Req.Queue∧I64 x.Req.From∧I64 x.Req.Until∧I64 x.Req.Kind) (hK:I64 x.Kind) (hN:I64 x.N) (h1:x.Req.Pieces.length≤17592186044416) (h2:x.Cap.length≤17592186044416):∀ n∈numsOf x,I64 n:=by
 intro n hn
 unfold numsOf at hn
 rw [List.mem_append,List.mem_append,List.mem_append] at hn
 have hpl:I64 (x.Req.Pieces.length:Int):=by unfold I64;omega
 have hcl:I64 (x.Cap.length:Int):=by unfold I64;omega
 obtain ⟨i1,i2,i3,i4⟩:=hI
 rcases hn with ((hn | hn) | hn) | hn
 ·simp only [List.mem_cons,List.not_mem_nil,or_false] at hn
  rcases hn with rfl | rfl | rfl | rfl | rfl | rfl | rfl <;> assumption
 ·obtain ⟨y,hy,hm⟩:=List.mem_flatMap.1 hn
  simp only [List.mem_cons,List.not_mem_nil,or_false] at hm
  rcases hm with rfl | rfl
  ·exact (hp y hy).1
  ·exact (hp y hy).2
 ·rw [List.mem_singleton.1 hn];exact hcl
 ·obtain ⟨y,hy,hm⟩:=List.mem_flatMap.1 hn
  simp only [List.mem_cons,List.not_mem_nil,or_false] at hm
  rcases hm with rfl | rfl
  ·exact (hc y hy).1
  ·exact (hc y hy).2
theorem numsA_len (x:Act1):(numsOf x).length=8+2*x.Req.Pieces.length+2*x.Cap.length:=by
 unfold numsOf
 simp only [List.length_append,List.length_cons,List.length_nil,flatP_len,flatC_len]
 omega
theorem intsV_two (l:List Int) (a b:Int):intsV (l++[a,b])=intsV l++[.int .i64 a,.int .i64 b]:=by simp [intsV]
theorem two_news (W:World) {B:Nat} (hB:B=W.heap.size) (a b:Int):∀ (j:Nat) u,[Value.int .i64 a,.int .i64 b][j]?=some u→(W.alloc (.cells #[.int .i64 a,.int .i64 b] 3)).cell? ((⟨B,0,none⟩:Addr).add j)=some u:=new2 W hB _ _ _
theorem numbers_any (w:World) (pv cv:Value) (x:Act1) (hp:PiecesV w pv x.Req.Pieces) (hc:RunsV w cv x.Cap) (hI:I64 x.Req.Queue∧I64 x.Req.From∧I64 x.Req.Until∧I64 x.Req.Kind) (hK:I64 x.Kind) (hN:I64 x.N) (hsm:x.Req.Pieces.length+x.Cap.length≤4000000) :
  Calls Tryz.prog 58 #[.agg #[.int .i64 x.Kind,.int .i64 x.N,.int .i64 x.Req.Queue,.int .i64 x.Req.From,.int .i64 x.Req.Until,.int .i64 x.Req.Kind,pv,cv]] w fun e w'=>∃ v,e=.returned v∧IntsV w' v (numsOf x)∧Ext w w':=by
 obtain ⟨ii,ii1,ii2,ii3,ii4⟩:=info_parts Tryz.info3
 obtain ⟨A,hA⟩:∃ A,w.alloc (.cells #[.int .i64 x.Kind,.int .i64 x.N,.int .i64 x.Req.Queue,.int .i64 x.Req.From,.int .i64 x.Req.Until,.int .i64 x.Req.Kind,pv,cv] 31)=A:=⟨_,rfl⟩
 have hAs:A.heap.size=w.heap.size+1:=by rw [← hA,World.size_alloc]
 have hxA:Ext w A:=hA▸(Ext.rf w).al _
 have hbA:A.heap[w.heap.size]?=some (.cells #[.int .i64 x.Kind,.int .i64 x.N,.int .i64 x.Req.Queue,.int .i64 x.Req.From,.int .i64 x.Req.Until,.int .i64 x.Req.Kind,pv,cv] 31 (0,0)):=hA▸heap_alloc_new w _
 obtain ⟨pa,pc,rfl,hp1,hp2,hp3,hpE⟩:=sv_at hp
 obtain ⟨ca,cc,rfl,hc1,hc2,hc3,hcE⟩:=sv_at hc
 have HI:=hid (nums_i64 (x:=x) (fun y hy=>by
  obtain ⟨k,hk⟩:=List.mem_iff_getElem?.1 hy
  obtain ⟨b,off,_,_,hE⟩:=hpE (by have:=(List.getElem?_eq_some_iff.1 hk).1;omega)
  exact (hE k y hk).2.2) (fun y hy=>by
  obtain ⟨k,hk⟩:=List.mem_iff_getElem?.1 hy
  obtain ⟨b,off,_,_,hE⟩:=hcE (by have:=(List.getElem?_eq_some_iff.1 hk).1;omega)
  exact (hE k y hk).2.2) hI hK hN hp3 hc3)
 have HPE:=hid hpE
 have HCE:=hid hcE
 have HBA:=hid hbA
 have HXA:=hid hxA
 have HA:=hid hA
 have HAS:=hid hAs
 have HL:=hid (numsA_len x)
 clear hp hc hpE hcE hbA hxA hA hAs hK hN hI
 generalize hpn:x.Req.Pieces.length=pn at *
 generalize hcn:x.Cap.length=cn at *
 have HPN:=hid hpn
 have HCN:=hid hcn
 clear hpn hcn
 go_enter Tryz.func58,Tryz.ntmps58
 go_wp2_with fail
 rw [HA.out]
 have hal:=(Ext.rf A).al (.cells #[.int .i64 x.Kind,.int .i64 x.N,.int .i64 x.Req.Queue,.int .i64 x.Req.From,.int .i64 x.Req.Until,.int .i64 x.Req.Kind,.int .i64 (pn:Int)] 3)
 have hown0:(A.alloc (.cells #[.int .i64 x.Kind,.int .i64 x.N,.int .i64 x.Req.Queue,.int .i64 x.Req.From,.int .i64 x.Req.Until,.int .i64 x.Req.Kind,.int .i64 (pn:Int)] 3)).ownsRow A.heap.size 3 1 (.slice (some ⟨w.heap.size+1,0,none⟩) 7 7) 7 (intsV [x.Kind,x.N,x.Req.Queue,x.Req.From,x.Req.Until,x.Req.Kind,(pn:Int)]):=by
  rw [← HAS.out]
  exact ⟨by simp [intsV],.inr ⟨A.heap.size,7,_,rfl,Nat.le_refl _,heap_alloc_new A _,Nat.le_refl _,by decide,rfl,rfl⟩⟩
 have HAL:=hid hal
 have HOWN0:=hid hown0
 clear hal hown0
 go_loopw [3,4] (fun v c wr=>∃ (k:Nat) (ov:Value),ov=v∧c=.int .i64 k∧k≤pn∧Hid (wr.ownsRow A.heap.size 3 1 ov (7+2*k) (intsV ([x.Kind,x.N,x.Req.Queue,x.Req.From,x.Req.Until,x.Req.Kind,(pn:Int)]++flatP (x.Req.Pieces.take k))))∧Hid (Ext A wr)) (fun _ c _=>pn - (intOf c).toNat)
 case atStart=>exact ⟨0,_,rfl,rfl,Nat.zero_le _,HOWN0,HAL⟩
 case round =>
  obtain ⟨k,ov,rfl,rfl,hk,HOW,HX⟩:=hrel
  have hsz:=HX.out.size
  have c6:wr.cell? ⟨w.heap.size,6,none⟩=some (.slice pa pn pc):=cell_of_row _ _ 6 _ _ _ (blk_ext HBA.out HX.out)
  by_cases hlt:k < pn
  ·have hlt':(k:Int) < (pn:Int):=by omega
   obtain ⟨y,hy⟩:=getA (f:=x.Req.Pieces) (k:=k) (by rw [HPN.out];exact hlt)
   obtain ⟨b,off,rfl,hb,hE⟩:=HPE.out (by omega)
   obtain ⟨d0,d1,hi⟩:=hE k y hy
   replace d0:=HXA.out.ce' d0
   replace d1:=HXA.out.ce' d1
   have c6A:A.cell? ⟨w.heap.size,6,none⟩=some (.slice (some ⟨b,off,none⟩) pn pc):=cell_of_row _ _ 6 _ _ _ HBA.out
   have t1:=deF (show ¬ (k:Int) < 0 by omega)
   have t2:=deF (show ¬ (pn:Int)≤(k:Int) by omega)
   have t3:=deF (show ¬ pn≤k by omega)
   have HY:=hid hy
   have HOWN:=hid (fun g hg=>own_lt HOW.out g hg)
   clear hE hy hi
   go_wp2_with fail
   clear c6
   go_region_held3 (fun W'=>W'.cell? ⟨w.heap.size,6,none⟩=some (.slice (some ⟨b,off,none⟩) pn pc)∧W'.cell? ⟨b,off+k*2,none⟩=some (.int .i64 y.Len)∧W'.cell? ⟨b,off+k*2+1,none⟩=some (.int .i64 y.N))
    ((refine keep3 ?_ c6A d0 d1;(repeat (first | exact HX2.out | exact HX.out | refine Ext.dr ?_ | refine Ext.al ?_ _))))
    ((refine step_append_own (by rfl) _ _ _ (by rfl) A.heap.size 3 ii _ 1 8 Tryz.underlying67 ii1 ii2 ii3 ii4 rfl (by decide) ov (7+2*k) _ (by rfl) (HOW.out.drew.alloc _) ⟨wr.heap.size,0,none⟩ 2 2 [.int .i64 y.Len,.int .i64 y.N] (by rfl) (by rfl) (two_news _ (by simp) _ _) (one2 _ _ _ _) (by unfold maxLen;omega) (by omega) (by simp;omega) ?_;intro v2 W2 hown2 hgrow2;have HX2:=hid ((HX.out.dr.al (.cells #[.int .i64 y.Len,.int .i64 y.N] 3)).gr hgrow2 HOWN.out);have HO2:=hid hown2;clear hown2 hgrow2))
   go_wp2_with fail
   go_roundw
   case rel=>exact ⟨k+1,_,rfl,by go_num,by omega,hid (by
    rw [flatP_take HY.out,← List.append_assoc,intsV_two,show 7+2*(k+1)=7+2*k+2 by omega]
    exact HO2.out),HX2⟩
   case measure=>simp [intOf];omega
  ·obtain rfl:k=pn:=by omega
   have hno:¬ (k:Int) < (k:Int):=by omega
   have hfin:=HOW.out
   rw [show x.Req.Pieces.take k=x.Req.Pieces from List.take_of_length_le (by rw [HPN.out];exact Nat.le_refl _)] at hfin
   have c7:wr.cell? ⟨w.heap.size,7,none⟩=some (.slice ca cn cc):=cell_of_row _ _ 7 _ _ _ (blk_ext HBA.out HX.out)
   have HOWN:=hid (fun g hg=>own_lt hfin g hg)
   clear HOW
   go_wp2_with (at_builtin;refine wpList_append_own _ rfl _ _ 67 rfl A.heap.size 3 ii _ 1 8 Tryz.underlying67 ii1 ii2 ii3 ii4 rfl (by decide) _ _ _ rfl (hfin.alloc _) ⟨wr.heap.size,0,none⟩ 1 1 [.int .i64 (cn:Int)] rfl rfl (new1 _ rfl _ _) (one1 _ _) (by unfold maxLen;omega) (by omega) (by simp;omega) ?_)
   intro v3 W3 hown3 hgrow3 hnil3
   have hx3:=(HX.out.al (.cells #[.int .i64 (cn:Int)] 3)).gr hgrow3 HOWN.out
   have HX3:=hid hx3
   have HO3:=hid (show W3.ownsRow A.heap.size 3 1 v3 (7+2*k+1+2*0) (intsV ([x.Kind,x.N,x.Req.Queue,x.Req.From,x.Req.Until,x.Req.Kind,(k:Int)]++flatP x.Req.Pieces++[(cn:Int)]++flatC (x.Cap.take 0))) from by
    rw [List.take_zero,show flatC []=[] from rfl,List.append_nil,intsV_snoc]
    exact hown3)
   clear hx3 hown3 hgrow3 hnil3 hfin c6 c7
   go_wp2_with fail
   go_loopw [3,5] (fun v c wr=>∃ (j:Nat) (ov:Value),ov=v∧c=.int .i64 j∧j≤cn∧Hid (wr.ownsRow A.heap.size 3 1 ov (7+2*k+1+2*j) (intsV ([x.Kind,x.N,x.Req.Queue,x.Req.From,x.Req.Until,x.Req.Kind,(k:Int)]++flatP x.Req.Pieces++[(cn:Int)]++flatC (x.Cap.take j))))∧Hid (Ext A wr)) (fun _ c _=>cn - (intOf c).toNat)
   case atStart=>exact ⟨0,_,rfl,rfl,Nat.zero_le _,HO3,HX3⟩
   case round =>
    obtain ⟨j,ov,rfl,rfl,hj,HOW,HX4⟩:=hrel
    have hsz4:=HX4.out.size
    have c7:wr.cell? ⟨w.heap.size,7,none⟩=some (.slice ca cn cc):=cell_of_row _ _ 7 _ _ _ (blk_ext HBA.out HX4.out)
    by_cases hjl:j < cn
    ·have hjl':(j:Int) < (cn:Int):=by omega
     obtain ⟨y,hy⟩:=getA (f:=x.Cap) (k:=j) (by rw [HCN.out];exact hjl)
     obtain ⟨b,off,rfl,hb,hE⟩:=HCE.out (by omega)
     obtain ⟨d0,d1,hi⟩:=hE j y hy
     replace d0:=HXA.out.ce' d0
     replace d1:=HXA.out.ce' d1
     have c7A:A.cell? ⟨w.heap.size,7,none⟩=some (.slice (some ⟨b,off,none⟩) cn cc):=cell_of_row _ _ 7 _ _ _ HBA.out
     have t1:=deF (show ¬ (j:Int) < 0 by omega)
     have t2:=deF (show ¬ (cn:Int)≤(j:Int) by omega)
     have t3:=deF (show ¬ cn≤j by omega)
     have HY:=hid hy
     have HOWN4:=hid (fun g hg=>own_lt HOW.out g hg)
     clear hE hy hi
     go_wp2_with fail
     clear c7
     go_region_held3 (fun W'=>W'.cell? ⟨w.heap.size,7,none⟩=some (.slice (some ⟨b,off,none⟩) cn cc)∧W'.cell? ⟨b,off+j*2,none⟩=some (.int .i64 y.At)∧W'.cell? ⟨b,off+j*2+1,none⟩=some (.int .i64 y.N))
      ((refine keep3 ?_ c7A d0 d1;(repeat (first | exact HX2.out | exact HX4.out | refine Ext.dr ?_ | refine Ext.al ?_ _))))
      ((refine step_append_own (by rfl) _ _ _ (by rfl) A.heap.size 3 ii _ 1 8 Tryz.underlying67 ii1 ii2 ii3 ii4 rfl (by decide) ov (7+2*k+1+2*j) _ (by rfl) (HOW.out.drew.alloc _) ⟨wr.heap.size,0,none⟩ 2 2 [.int .i64 y.At,.int .i64 y.N] (by rfl) (by rfl) (two_news _ (by simp) _ _) (one2 _ _ _ _) (by unfold maxLen;omega) (by omega) (by simp;omega) ?_;intro v2 W2 hown2 hgrow2;have HX2:=hid ((HX4.out.dr.al (.cells #[.int .i64 y.At,.int .i64 y.N] 3)).gr hgrow2 HOWN4.out);have HO2:=hid hown2;clear hown2 hgrow2))
     go_wp2_with fail
     go_roundw
     case rel=>exact ⟨j+1,_,rfl,by go_num,by omega,hid (by
      rw [flatC_take HY.out,← List.append_assoc,intsV_two,show 7+2*k+1+2*(j+1)=7+2*k+1+2*j+2 by omega]
      exact HO2.out),HX2⟩
     case measure=>simp [intOf];omega
    ·obtain rfl:j=cn:=by omega
     have hno2:¬ (j:Int) < (j:Int):=by omega
     have hend:IntsV wr ov (numsOf x):=intsV_own (by
      have h:=HOW.out
      rw [show x.Cap.take j=x.Cap from List.take_of_length_le (by rw [HCN.out];exact Nat.le_refl _)] at h
      rw [HL.out,show 8+2*k+2*j=7+2*k+1+2*j by omega]
      unfold numsOf
      rw [HPN.out,HCN.out]
      exact h) HI.out (by rw [HL.out];omega)
     have HEND:=hid hend
     clear hend HOW
     go_wp2_with fail
     go_ret
     exact ⟨_,rfl,HEND.out,HXA.out.tr HX4.out⟩
theorem anyO_take {l:List Int} {k:Nat} {n:Int} (h:(l.take k).any outB=false) (hn:l[k]?=some n) (ho:outB n=false):(l.take (k+1)).any outB=false:=by
 rw [List.take_add_one,hn,List.any_append,h]
 simp [ho]
theorem anyO_at {l:List Int} {k:Nat} {n:Int} (hn:l[k]?=some n) (ho:outB n=true):l.any outB=true:=List.any_eq_true.2 ⟨n,List.mem_of_getElem? hn,ho⟩
theorem ActBytes_any (w:World) (pv cv:Value) (x:Act1) (hp:PiecesV w pv x.Req.Pieces) (hc:RunsV w cv x.Cap) (hI:I64 x.Req.Queue∧I64 x.Req.From∧I64 x.Req.Until∧I64 x.Req.Kind) (hK:I64 x.Kind) (hN:I64 x.N) (hsm:x.Req.Pieces.length+x.Cap.length≤4000000) :
  Calls Tryz.prog 21 #[.agg #[.int .i64 x.Kind,.int .i64 x.N,.int .i64 x.Req.Queue,.int .i64 x.Req.From,.int .i64 x.Req.Until,.int .i64 x.Req.Kind,pv,cv]] w fun e w'=>e=.returned (.tuple #[.string (writeR x).1,.int .i64 (writeR x).2])∧Ext w w':=by
 obtain ⟨ib,ib1,ib2,ib3,ib4⟩:=info_parts (show (Tryz.prog.info? 5).map (fun i=>(i.zero,i.size,i.bytes))=some (some (.int .u8 0),1,1) from by kernel_rfl)
 obtain ⟨A,hA⟩:∃ A,w.alloc (.cells #[.int .i64 x.Kind,.int .i64 x.N,.int .i64 x.Req.Queue,.int .i64 x.Req.From,.int .i64 x.Req.Until,.int .i64 x.Req.Kind,pv,cv] 31)=A:=⟨_,rfl⟩
 have hxA:Ext w A:=hA▸(Ext.rf w).al _
 have hbA:A.heap[w.heap.size]?=some (.cells #[.int .i64 x.Kind,.int .i64 x.N,.int .i64 x.Req.Queue,.int .i64 x.Req.From,.int .i64 x.Req.Until,.int .i64 x.Req.Kind,pv,cv] 31 (0,0)):=hA▸heap_alloc_new w _
 have NB:=hid (numbers_any A pv cv x (hp.mono hxA) (hc.mono hxA) hI hK hN hsm)
 obtain ⟨pa,pc,rfl,hp1,hp2,hp3⟩:=hp.form
 obtain ⟨ca,cc,rfl,hc1,hc2,hc3⟩:=hc.form
 have HBA:=hid hbA
 have HXA:=hid hxA
 have HA:=hid hA
 have HL:=hid (numsA_len x)
 have k0:=cell_of_row _ _ 0 _ _ _ hbA
 have k1:=cell_of_row _ _ 1 _ _ _ hbA
 have k2:=cell_of_row _ _ 2 _ _ _ hbA
 have k3:=cell_of_row _ _ 3 _ _ _ hbA
 have k4:=cell_of_row _ _ 4 _ _ _ hbA
 have k5:=cell_of_row _ _ 5 _ _ _ hbA
 have k6:=cell_of_row _ _ 6 _ _ _ hbA
 have k7:=cell_of_row _ _ 7 _ _ _ hbA
 clear hp hc hbA hxA hI hK hN
 generalize hpn:x.Req.Pieces.length=pn at *
 generalize hcn:x.Cap.length=cn at *
 have HPN:=hid hpn
 have HCN:=hid hcn
 clear hpn hcn
 go_enter Tryz.func21,Tryz.ntmps21
 go_wp2_with fail
 refine NB.out.mono ?_
 rintro e w1 ⟨vl,rfl,hvl,hx1⟩
 obtain ⟨la,lc,rfl,hl1,hl2,hl3,hlE⟩:=sv_at hvl
 have HLE:=hid hlE
 have HX1:=hid hx1
 have hl8:=HL.out
 generalize hnl:(numsOf x).length=nl at *
 have HNL:=hid hnl
 clear k0 k1 k2 k3 k4 k5 k6 k7 hvl hlE hx1 hnl
 obtain ⟨b,off,rfl,hb,hE⟩:=HLE.out (by omega)
 have HE:=hid hE
 have HL8:=hid hl8
 have hbig:nl≤8000008:=by omega
 clear HLE hE hl8
 go_wp2_with fail
 go_loopw [5] (fun c wr=>∃ k:Nat,c=.int .i64 k∧k≤nl∧Hid (((numsOf x).take k).any outB=false)∧Ext w1 wr) (fun c _=>nl - (intOf c).toNat)
 case atStart=>exact ⟨0,rfl,Nat.zero_le _,hid rfl,Ext.rf _⟩
 case round =>
  obtain ⟨k,rfl,hk,HNO,hx⟩:=hrel
  by_cases hlt:k < nl
  ·have hlt':(k:Int) < (nl:Int):=by omega
   obtain ⟨n,hn⟩:=getA (f:=numsOf x) (k:=k) (by rw [HNL.out];exact hlt)
   have c0:=hx.ce' (HE.out k n hn).1
   rw [Nat.mul_one] at c0
   have t1:=deF (show ¬ (k:Int) < 0 by omega)
   have t2:=deF (show ¬ (nl:Int)≤(k:Int) by omega)
   have t3:=deF (show ¬ nl≤k by omega)
   cases ho:outB n with
   | false =>
    have HNX:=hid (anyO_take HNO.out hn ho)
    have hin:0≤n∧n≤255:=by unfold outB at ho;simp only [Bool.or_eq_false_iff,decide_eq_false_iff_not] at ho;omega
    have WI:=hid (within_yes n 0 255 wr hin.1 hin.2)
    clear hn ho hin
    go_wp2_with fail
    refine WI.out.mono ?_
    rintro e w2 ⟨rfl,hw⟩
    obtain rfl:=hw.symm
    clear WI c0
    go_wp2_with fail
    go_roundw
    case rel=>exact ⟨k+1,by go_num,by omega,HNX,hx⟩
    case measure=>simp [intOf];omega
   | true =>
    have HR:=hid (writeR_out (anyO_at hn ho))
    have WI:=hid (within_no n 0 255 wr (by unfold outB at ho;simp only [Bool.or_eq_true,decide_eq_true_eq] at ho;omega))
    clear hn ho
    go_wp2_with fail
    refine WI.out.mono ?_
    rintro e w2 ⟨rfl,hw⟩
    obtain rfl:=hw.symm
    clear WI c0
    go_wp2_with fail
    go_ret2
    exact ⟨by rw [HR.out];rfl,HXA.out.tr (HX1.out.tr hx)⟩
  ·obtain rfl:k=nl:=by omega
   have hno:¬ (k:Int) < (k:Int):=by omega
   have hall:(numsOf x).any outB=false:=by have:=HNO.out;rwa [List.take_of_length_le (by rw [HNL.out];exact Nat.le_refl _)] at this
   have HALL:=hid hall
   have c6:wr.cell? ⟨w.heap.size,6,none⟩=some (.slice pa pn pc):=cell_of_row _ _ 6 _ _ _ (blk_ext HBA.out (HX1.out.tr hx))
   have c7:wr.cell? ⟨w.heap.size,7,none⟩=some (.slice ca cn cc):=cell_of_row _ _ 7 _ _ _ (blk_ext HBA.out (HX1.out.tr hx))
   by_cases h3:3 < pn
   ·have HR:=hid (writeR_many hall (.inl (by rw [HPN.out];exact h3)))
    have h3':(3:Int) < (pn:Int):=by omega
    have h3d:=deT h3'
    clear hall HNO
    go_wp2_with fail
    go_ret2
    exact ⟨by rw [HR.out];rfl,HXA.out.tr (HX1.out.tr hx)⟩
   ·by_cases h48:48 < cn
    ·have HR:=hid (writeR_many hall (.inr (by rw [HCN.out];exact h48)))
     have h3':¬ (3:Int) < (pn:Int):=by omega
     have h48':(48:Int) < (cn:Int):=by omega
     have h3d:=deF h3'
     have h48d:=deT h48'
     clear hall HNO
     go_wp2_with fail
     go_ret2
     exact ⟨by rw [HR.out];rfl,HXA.out.tr (HX1.out.tr hx)⟩
    ·have HR:=hid (writeR_ok hall (by rw [HPN.out,HCN.out];omega))
     have h3':¬ (3:Int) < (pn:Int):=by omega
     have h48':¬ (48:Int) < (cn:Int):=by omega
     have h3d:=deF h3'
     have h48d:=deF h48'
     have HXK:=hid hx
     clear hall HNO
     go_wp2_with fail
     clear c6 c7 hx
     generalize wr=w2 at *
     go_loopw [6,7] (fun v c wr=>∃ (j:Nat) (ov:Value),ov=v∧c=.int .i64 j∧j≤k∧Hid (wr.ownsRow w2.heap.size 5 1 ov j (((numsOf x).take j).map fun n=>Value.int .u8 n))∧Hid (Ext w2 wr)) (fun _ c _=>k - (intOf c).toNat)
     case atStart=>exact ⟨0,_,rfl,rfl,Nat.zero_le _,hid (World.ownsRow_nil _ _ _ _),hid (Ext.rf _)⟩
     case round =>
      obtain ⟨j,ov,rfl,rfl,hj,HOW,HX2⟩:=hrel
      have hsz:=HX2.out.size
      by_cases hjl:j < k
      ·have hjl':(j:Int) < (k:Int):=by omega
       obtain ⟨n,hn⟩:=getA (f:=numsOf x) (k:=j) (by rw [HNL.out];exact hjl)
       have c0:=(HXK.out.tr HX2.out).ce' (HE.out j n hn).1
       rw [Nat.mul_one] at c0
       have t1:=deF (show ¬ (j:Int) < 0 by omega)
       have t2:=deF (show ¬ (k:Int)≤(j:Int) by omega)
       have t3:=deF (show ¬ k≤j by omega)
       have hno:outB n=false:=by
        cases ho:outB n with
        | false=>rfl
        | true=>have h1:=anyO_at hn ho;rw [HALL.out] at h1;cases h1
       have hin:0≤n∧n≤255:=by unfold outB at hno;simp only [Bool.or_eq_false_iff,decide_eq_false_iff_not] at hno;omega
       obtain ⟨hin1,hin2⟩:=hin
       have hmod:n % 256=n:=by omega
       have g1:¬ n < 0:=by omega
       have g2:¬ 255 < n:=by omega
       have hown:=HOW.out
       have HOWN:=hid (fun g hg=>own_lt hown g hg)
       have HN:=hid (show ((numsOf x).take (j+1)).map (fun n=>Value.int .u8 n)=((numsOf x).take j).map (fun n=>Value.int .u8 n)++[.int .u8 n] from by rw [List.take_add_one,hn];simp)
       clear hn hno
       go_wp2_with (at_builtin;refine wpList_append_own _ rfl _ _ 100 rfl w2.heap.size 5 ib _ 1 1 Tryz.underlying100 ib1 ib2 ib3 ib4 rfl (by decide) _ _ _ rfl (hown.alloc _) ⟨wr.heap.size,0,none⟩ 1 1 [.int .u8 n] rfl rfl (new1 _ rfl _ _) (by simp [Value.oneCell']) (by unfold maxLen;omega) (by omega) (by simp;omega) ?_)
       intro v3 W3 hown3 hgrow3 hnil3
       have HX3:=hid ((HX2.out.al (.cells #[.int .u8 n] 5)).gr hgrow3 HOWN.out)
       have HO3:=hid hown3
       clear hown3 hgrow3 hnil3 hown c0 HOW
       go_wp2_with fail
       go_roundw
       case rel=>exact ⟨j+1,_,rfl,by go_num,by omega,hid (by rw [HN.out,List.map_take];exact HO3.out),HX3⟩
       case measure=>simp [intOf];omega
      ·obtain rfl:j=k:=by omega
       have hno2:¬ (j:Int) < (j:Int):=by omega
       have hown:=HOW.out
       rw [List.take_of_length_le (by rw [HNL.out];exact Nat.le_refl _)] at hown
       have hlen:1≤j:=by have:=HL8.out;omega
       obtain ⟨g,cap,rfl⟩:=own_some7 hown hlen
       have hcv:=run_convert_bytes_arg (P:=Tryz.prog) wr 100 5 Tryz.underlying100 (by kernel_rfl) g 0 j cap (numsOf x) HNL.out (fun i hi=>by
        have h:=hown.cells (g:=g) rfl i (.int .u8 ((numsOf x).getD i 0)) (by
         have hi':i < (numsOf x).length:=by rw [HNL.out];exact hi
         rw [List.getElem?_map,List.getElem?_eq_getElem hi']
         simp [List.getD,List.getElem?_eq_getElem hi'])
        rw [addr7] at h
        exact h) 9 (by kernel_rfl)
       clear hown HOW
       go_wp2_with fail
       go_ret2
       exact ⟨by rw [HR.out];rfl,HXA.out.tr (HX1.out.tr (HXK.out.tr HX2.out))⟩
end Go.Proofs.YtdcndkojmflhnaaGreat
