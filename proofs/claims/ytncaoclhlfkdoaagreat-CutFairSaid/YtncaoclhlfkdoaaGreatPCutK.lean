/- ChangeOf. -/
import Derived.Test.YtncaoclhlfkdoaaGreatPCutJ
set_option linter.unusedVariables false
set_option linter.unusedSimpArgs false
set_option maxRecDepth 100000
set_option maxHeartbeats 8000000
set_option linter.unusedSimpArgs false
set_option linter.unusedVariables false
namespace Go.Proofs.YtncaoclhlfkdoaaGreat
open Go.RowKit
open List renaming getElem_toArray→zA,getElem_cons_zero→zB,getElem_cons_succ→zC,setIfInBounds_toArray→zD,set_cons_zero→zE,set_cons_succ→zF
theorem own_one7 (W:World) (cs:List Value) (h:cs.length=7):(W.alloc (.cells cs.toArray 43)).ownsRow W.heap.size 43 7 (.slice (some ⟨W.heap.size,0,none⟩) 1 1) 1 cs :=
 ⟨by rw [h],.inr ⟨W.heap.size,1,cs.toArray,rfl,Nat.le_refl _,heap_alloc_new W _,Nat.le_refl _,by decide,by simp [h],by simp [← h]⟩⟩
theorem BCells.ext {W W':World} {g o:Nat} {x:Book} {pv bv:Value} (h:BCells W g o x pv bv) (hx:Ext W W'):BCells W' g o x pv bv :=
 ⟨hx.ce' h.1,hx.ce' h.2.1,hx.ce' h.2.2.1,hx.ce' h.2.2.2.1,hx.ce' h.2.2.2.2.1,hx.ce' h.2.2.2.2.2.1,hx.ce' h.2.2.2.2.2.2⟩
theorem mid_at {A:List Book} {j:Nat} {x y:Book} (hj:j≤A.length) (hy:A[j]?=some y):(A.take j++x::A.drop j)[j]?=some x∧(A.take j++x::A.drop j)[j+1]?=some y:=by
 have h:(A.take j).length=j:=by rw [List.length_take];omega
 refine ⟨?_,?_⟩
 ·rw [List.getElem?_append_right (by omega),h,Nat.sub_self];rfl
 ·rw [List.getElem?_append_right (by omega),h,show j+1 - j=1 by omega,List.getElem?_cons_succ,List.getElem?_drop];exact hy
theorem mid_swap {A:List Book} {j:Nat} {x y:Book} (hj:j < A.length) (hy:A[j]?=some y):((A.take j++x::A.drop j).set j y).set (j+1) x=A.take (j+1)++x::A.drop (j+1):=by
 have h:(A.take j).length=j:=by rw [List.length_take];omega
 obtain ⟨_,he⟩:=List.getElem?_eq_some_iff.1 hy
 rw [List.drop_eq_getElem_cons hj,he,List.set_append_right _ _ (by omega),List.set_append_right _ _ (by omega),h,Nat.sub_self,show j+1 - j=1 by omega,List.take_add_one,hy]
 simp
theorem ChangeIn.placed {w0 W W4 W5:World} {X gq qc gb cap g2 q cap2 vb vo vc:Nat} {c nx n:Int} {l:List Queue} {A b:List Book} {m d:List Int} {va vm vd pv bv:Value} {x:Book} {LB:List Bite} (h:ChangeIn w0 X gq qc gb cap c nx l A va b m d vm vd W) (hx:Ext W W4)
  (hbc:BookC W [.int .i64 x.Id,.int .i64 x.Req.Queue,.int .i64 x.Req.From,.int .i64 x.Req.Until,.int .i64 x.Req.Kind,pv,bv] x) (hap:∀ s∈([.int .i64 x.Id,.int .i64 x.Req.Queue,.int .i64 x.Req.From,.int .i64 x.Req.Until,.int .i64 x.Req.Kind,pv,bv]:List Value),∀ a n c,s=.slice (some a) n c→a.block < W.heap.size∧a.block≠gb∧w0.heap.size≤a.block∧a.block ∉ vm.ownBlock.toList++(vd.ownBlock.toList++(va.ownBlock.toList++[X]))∧∀ r,(Value.slice (some ⟨gq,0,none⟩) l.length qc).ownBlock=some r→a.block≠r)
  (hbv:BitesV W4 (.slice (some ⟨vb,vo,none⟩) LB.length vc) LB) (hne:LB≠[]) (hvf:W.heap.size≤vb) (hg:(W4.alloc (.cells #[.int .i64 n] 3)).grownBy W5 vm.ownBlock) (hlie:vm.ownBlock=some g2∨g2=W4.heap.size+1) :
  BookC W5 [.int .i64 x.Id,.int .i64 x.Req.Queue,.int .i64 x.Req.From,.int .i64 x.Req.Until,.int .i64 x.Req.Kind,pv,.slice (some ⟨vb,vo,none⟩) LB.length vc] ⟨x.Id,x.Req,LB⟩∧∀ s∈([.int .i64 x.Id,.int .i64 x.Req.Queue,.int .i64 x.Req.From,.int .i64 x.Req.Until,.int .i64 x.Req.Kind,pv,.slice (some ⟨vb,vo,none⟩) LB.length vc]:List Value),∀ a n c,s=.slice (some a) n c→a.block < W5.heap.size∧w0.heap.size≤a.block∧a.block ∉ (Value.slice (some ⟨g2,0,none⟩) q cap2).ownBlock.toList++(vd.ownBlock.toList++(va.ownBlock.toList++[X]))∧∀ r,(Value.slice (some ⟨gq,0,none⟩) l.length qc).ownBlock=some r→a.block≠r:=by
 have hal:=(Ext.rf W4).al (.cells #[.int .i64 n] 3)
 have hvl:vb < W4.heap.size:=sv2_low hbv hne ⟨vb,vo,none⟩ _ _ rfl
 have hs4:=hx.size
 have hs5:W4.heap.size+1≤W5.heap.size:=by have:=hg.size;rwa [World.size_alloc] at this
 have hvm:∀ r,vm.ownBlock=some r→w0.heap.size≤r∧r < W.heap.size:=fun r hr=>h.mrow.lt r hr
 have hold:=h.old
 have hgq:=h.ne.1.2.2.2.2.2
 have hlow:=h.ext.size
 obtain ⟨hp,hb,hi,hid⟩:=bookC_parts hbc
 refine ⟨⟨_,_,rfl,⟨_,rfl,sv2_apart (hp.mono (hx.tr hal)) hg ?_,hi⟩,sv2_apart (hbv.mono hal) hg ?_,hid⟩,fun s hs a n' c' e=>?_⟩
 ·intro a n' c' e hk
  exact (hap pv (by simp) a n' c' e).2.2.2.1 (List.mem_append_left _ (by rw [← hk];exact List.mem_singleton.2 rfl))
 ·intro a n' c' e hk
  cases e
  have h4:vb < W.heap.size:=(hvm _ hk.symm).2
  omega
 ·have hgx:∀ k,k∈(Value.slice (some ⟨g2,0,none⟩) q cap2).ownBlock.toList→vm.ownBlock=some k∨k=W4.heap.size+1:=fun k hk=>by
   have e2:k=g2:=by simpa [Value.ownBlock] using hk
   rw [e2];exact hlie
  have hcase:s=pv∨s=.slice (some ⟨vb,vo,none⟩) LB.length vc:=by
   rw [e] at hs ⊢
   simp only [List.mem_cons,List.not_mem_nil,or_false,reduceCtorEq,false_or] at hs
   exact hs
  rcases hcase with h1 | h1
  ·obtain ⟨p1,p2,p3,p4,p5⟩:=hap s (by rw [h1];simp) a n' c' e
   refine ⟨by omega,p3,fun hm=>?_,p5⟩
   rcases List.mem_append.1 hm with h2 | h2
   ·rcases hgx _ h2 with h3 | h3
    ·exact p4 (List.mem_append_left _ (by rw [h3];exact List.mem_singleton.2 rfl))
    ·omega
   ·exact p4 (List.mem_append_right _ h2)
  ·rw [h1] at e
   cases e
   refine ⟨by show vb < _;omega,by show _≤vb;omega,fun hm=>?_,fun r hr=>?_⟩
   ·rcases List.mem_append.1 hm with h2 | h2
    ·rcases hgx _ h2 with h3 | h3
     ·have:=(hvm _ h3).2
      have h4:vb < W.heap.size:=this
      omega
     ·have h4:vb=W4.heap.size+1:=h3
      omega
    ·have:=hold _ (List.mem_append_right _ h2)
     have h4:vb < W.heap.size:=this
     omega
   ·have h4:gq=r:=by simpa [Value.ownBlock] using hr
    show vb≠r
    omega
theorem bcells_of {W:World} {g k:Nat} {css:List (List Value)} {y:Book} {pv bv:Value} (q2:∀ cs∈css,cs.length=7) (q5:∀ (j:Nat) v,css.flatten[j]?=some v→W.cell? ⟨g,j,none⟩=some v)
  (hcs:css[k]?=some [.int .i64 y.Id,.int .i64 y.Req.Queue,.int .i64 y.Req.From,.int .i64 y.Req.Until,.int .i64 y.Req.Kind,pv,bv]):BCells W g (k*7) y pv bv:=by
 have h:∀ (j:Nat) v,j < 7→([.int .i64 y.Id,.int .i64 y.Req.Queue,.int .i64 y.Req.From,.int .i64 y.Req.Until,.int .i64 y.Req.Kind,pv,bv]:List Value)[j]?=some v→W.cell? ⟨g,k*7+j,none⟩=some v:=fun j v hj hv=>q5 _ _ (by rw [flat7 css q2 k j hj,hcs];exact hv)
 exact ⟨h 0 _ (by omega) rfl,h 1 _ (by omega) rfl,h 2 _ (by omega) rfl,h 3 _ (by omega) rfl,h 4 _ (by omega) rfl,h 5 _ (by omega) rfl,h 6 _ (by omega) rfl⟩
theorem take_flat {css:List (List Value)} {k:Nat} {cs:List Value} (h:css[k]?=some cs):(css.take (k+1)).flatten=(css.take k).flatten++cs:=by
 rw [List.take_add_one,h,List.flatten_append];simp
theorem ChangeOf_rest (w:World) (tv bv rv:Value) (s:State) (k:Nat) (f:List Run) (hl:QueuesV w tv s.Tree) (hb:BooksV w bv s.Books) (hr:RunsV w rv f) (h0:stateE s=0) (h1:k < s.Tree.length) (h2:CapOk f) :
  Calls Tryz.prog 16 #[.agg #[.int .i64 s.Clock,.int .i64 s.Next,tv,bv],.int .i64 (k:Int),rv] w (RetChange w (changeR s (k:Int) f)):=by
 have F:=hid (fun (W:World) (h:Ext w W)=>CheckState_any W tv bv s (hl.mono h) (hb.mono h))
 have CF:=hid (fun (W:World) (h:Ext w W)=>CapFine_any W rv f (hr.mono h))
 have WI:=hid (fun W=>within_yes (k:Int) 0 ((s.Tree.length:Int) - 1) W (by omega) (by omega))
 obtain ⟨ok,h12,hbok⟩:=right_of h0
 have OW:=hid (fun (W:World) (h:Ext w W)=>OwnState_any W tv bv s (hl.mono h) (hb.mono h) ok h12 hbok)
 obtain ⟨wb,hwb,HX,HSS,HZZ,hszb⟩:=two_boxes2 w s tv bv
 have HX0:=hid HX
 have HS0:=hid HSS
 have HZ0:=hid HZZ
 have HWB:=hid hwb
 have HSB:=hid hszb
 clear HX HSS HZZ hwb hszb
 have HR:=hid (changeR_ok h0 h1 h2)
 have H0:=hid h0
 have H2:=hid h2
 have HK:=hid h1
 have HOK:=hid hbok
 rw [h0] at F
 rw [deT h2] at CF
 obtain ⟨qa,qc0,rfl,_,_,_⟩:=hl.form
 obtain ⟨ba,bc,rfl,_,_,_⟩:=hb.form
 have hfl48:=capOk_len h2
 obtain ⟨fb,fo,fc,rfl,hrc,hrb,hrE⟩:=runs_some hr (capOk_ne h2)
 have HRN:=hid (pair_news hrE)
 have HRB:=hid hrb
 have HI2:=hid (show ∀ y∈f,I64 y.At∧I64 y.N from fun y hy=>by
  obtain ⟨i,hi⟩:=List.mem_iff_getElem?.1 hy
  obtain ⟨_,_,i1,i2⟩:=hrE i y hi
  exact ⟨i1,i2⟩)
 have HLN:=hid (cells2_length Run.At Run.N f)
 have hq5:decide ((k:Int) < 0)=false:=deF (by omega)
 clear hl hb hr h0 h2 hrE hrb
 generalize changeR s (k:Int) f=cr at *
 generalize hqn:s.Tree.length=n at *
 generalize hbz:s.Books.length=z at *
 generalize hfl:f.length=fl at *
 have HQN:=hid hqn
 have HBZ:=hid hbz
 have HFL:=hid hfl
 clear hqn hbz hfl
 go_enter Tryz.func16,Tryz.ntmps16
 go_wp2_with fail
 rw [HWB.out]
 refine (F.out _ HX0.out).mono ?_
 rintro e w2 ⟨rfl,hx2⟩
 obtain ⟨a0,a1,a2,a3⟩:=HS0.out w2 hx2
 have HXB2:=hid hx2
 clear hx2
 go_wp2_with fail
 refine (WI.out _).mono ?_
 rintro e w3 ⟨rfl,hw3⟩
 obtain rfl:=hw3.symm
 clear a0 a1 a2 a3
 go_wp2_with fail
 refine (CF.out _ (HX0.out.tr HXB2.out)).mono ?_
 rintro e w3 ⟨rfl,hx3⟩
 obtain ⟨a0,a1,a2,a3⟩:=HS0.out w3 (HXB2.out.tr hx3)
 have HXB3:=hid (HXB2.out.tr hx3)
 have HX3:=hid (HX0.out.tr HXB3.out)
 clear hx3
 go_wp2_with fail
 refine (OW.out _ HX3.out).mono ?_
 rintro e w7 ⟨u7,v7,rfl,hO7,hx7⟩
 clear a0 a1 a2 a3
 obtain ⟨gq,qc,rfl,hgB,hgs⟩:=hO7.uform
 obtain ⟨ra,rc,rfl,hrw⟩:=hO7.vform
 rw [HBZ.out] at hO7 hrw ⊢
 rw [HQN.out] at hO7 ⊢
 go_wp2_with fail
 obtain ⟨W8,hW8⟩:∃ W8,w7.alloc (.cells #[.int .i64 s.Clock,.int .i64 s.Next,.slice (some ⟨gq,0,none⟩) n qc,.slice ra z rc] 25)=W8:=⟨_,rfl⟩
 have hx8:Ext w7 W8:=hW8▸(Ext.rf w7).al _
 have hb8:W8.heap[w7.heap.size]?=some (.cells #[.int .i64 s.Clock,.int .i64 s.Next,.slice (some ⟨gq,0,none⟩) n qc,.slice ra z rc] 25 (0,0)):=hW8▸heap_alloc_new w7 _
 rw [hW8]
 have hO8:OwnS [w7.heap.size] wb.heap.size W8 (.slice (some ⟨gq,0,none⟩) n qc) (.slice ra z rc) s.Tree s.Books:=((hO7.low (B2:=wb.heap.size) HXB3.out.size (fun r hr=>hr)).box (r:=w7.heap.size) (Nat.le_refl _)).ext hx8
 have HO8:=hid hO8
 have HB8:=hid hb8
 have HX8:=hid (HX3.out.tr (hx7.tr hx8))
 have HXB8:=hid (HXB3.out.tr (hx7.tr hx8))
 have HX78:=hid hx8
 have HGQ:=hid (And.intro hgB hgs)
 have HS3:=hid (And.intro HX3.out.size hx7.size)
 have HRW:=hid hrw
 obtain ⟨ir,ir1,ir2,ir3,ir4⟩:=info_parts Tryz.info70
 clear hO8 hb8 hx7 hx8 hO7 hW8 hgB hgs hrw
 have e2:W8.cell? ⟨w7.heap.size,2,none⟩=some (.slice (some ⟨gq,0,none⟩) n qc):=cell_of_row _ _ 2 _ _ _ HB8.out
 refine wp_region_tail 8 (fun W=>W.cell? ⟨w7.heap.size,2,none⟩=some (.slice (some ⟨gq,0,none⟩) n qc)) (by kernel_rfl) e2 (fun hHeld=>?_)
 clear e2
 refine wpAnyT_take (i:=0) (v:=?_) rfl (by kernel_rfl) (fun _ _ _ h=>h) (Or.inl ⟨by rfl,?_⟩) (by assumption) ?_
 rotate_left
 ·intro W hSW
  simp only [zA,zB]
  (try dsimp only at hSW)
  go_simp
  (try with_reducible rfl)
 simp only [zA,zB,Act.put,zD,zE,zF]
 refine wpAnyT_take (i:=1) (v:=?_) rfl (by kernel_rfl) (fun _ _ _ h=>h) (Or.inl ⟨by rfl,?_⟩) (by assumption) ?_
 rotate_left
 ·intro W hSW
  simp only [zA,zB,zC]
  (try dsimp only at hSW)
  go_simp
  (try with_reducible rfl)
 simp only [zA,zB,zC,Act.put,zD,zE,zF]
 refine wpAnyT_take (i:=2) (v:=?_) rfl (by kernel_rfl) (fun _ _ _ h=>h) (Or.inl ⟨by rfl,?_⟩) (by assumption) ?_
 rotate_left
 ·intro W hSW
  simp only [zA,zB,zC]
  (try dsimp only at hSW)
  go_simp
  (try with_reducible rfl)
 simp only [zA,zB,zC,Act.put,zD,zE,zF]
 refine wpAnyT_take (i:=4) (v:=?_) rfl (by kernel_rfl) (fun _ _ _ h=>h) (Or.inl ⟨by rfl,?_⟩) (by assumption) ?_
 rotate_left
 ·intro W hSW
  simp only [zA,zB,zC]
  (try dsimp only at hSW)
  go_simp
  (try with_reducible rfl)
 simp only [zA,zB,zC,Act.put,zD,zE,zF]
 refine wpAnyT_go (i:=3) (by kernel_rfl) rfl (fun K hK=>?_)
 simp only [zA,zB,zC]
 go_simp
 obtain ⟨W9,hW9⟩:∃ W9,(W8.alloc (.cells #[] 70)).drew=W9:=⟨_,rfl⟩
 rw [hW9]
 have hx89:Ext W8 W9:=hW9▸((Ext.rf W8).al _).dr
 have hs9:W9.heap.size=W8.heap.size+1:=by rw [← hW9];exact World.size_alloc ..
 have how9:W9.ownsRow W8.heap.size 70 2 (.slice (some ⟨W8.heap.size,0,none⟩) 0 0) 0 []:=hW9▸ownsRow_ext (own_empty W8 _ 2 (by omega)) (Ext.rf _).dr
 refine hK.out _ _ ?_ (fun hHeld=>?_)
 ·(exact cell_of_row _ _ 2 _ _ _ (blk_ext HB8.out hx89))
 clear hK K
 refine wpAnyT_go (i:=5) (by kernel_rfl) rfl (fun K hK=>?_)
 simp only [zA,zB,zC]
 refine wp_append_own _ _ _ _ (by rfl) W8.heap.size 70 ir _ 2 16 Tryz.underlying26 ir1 ir2 ir3 ir4 rfl (by decide) (.slice (some ⟨W8.heap.size,0,none⟩) 0 0) 0 [] (by rfl) how9 ⟨fb,fo,none⟩ fl fc (cells2 Run.At Run.N f) (by rfl) HLN.out (fun j u hj=>ext_ceA (HX8.out.tr hx89) (HRN.out j u hj)) (pair_one _) (by unfold maxLen;omega) (by omega) (by omega) (fun v1 W10 hown1 hgrow1 hnil1=>?_)
 rw [Nat.zero_add,List.nil_append] at hown1
 obtain ⟨g1,c1,rfl⟩:=own_some7 hown1 (by have:=List.length_pos_iff.2 (capOk_ne H2.out);rw [HFL.out] at this;omega)
 have hx90:Ext W8 W10:=hx89.gr hgrow1 (fun r hr=>by cases hr;exact Nat.le_refl _)
 refine hK.out _ _ ?_ (fun hHeld=>?_)
 ·(exact cell_of_row _ _ 2 _ _ _ (blk_ext HB8.out hx90))
 clear hK K
 have hO10:=HO8.out.ext hx90
 rw [← HQN.out] at hO10
 obtain ⟨⟨old,k0⟩,f0⟩:=hO10.qcell (k:=k) (by rw [HQN.out];exact HK.out)
 refine wpAnyT_take (i:=6) (v:=?_) rfl (by kernel_rfl) (fun _ _ _ h=>h) (Or.inl ⟨by rfl,?_⟩) (by assumption) ?_
 rotate_left
 ·intro W hSW
  simp only [zA,zB,zC]
  (try dsimp only at hSW)
  go_simp
  (try with_reducible rfl)
 simp only [zA,zB,zC,Act.put,zD,zE,zF]
 refine wpAnyT_take (i:=7) (v:=?_) rfl (by kernel_rfl) (fun _ _ _ h=>h) (Or.inl ⟨by rfl,?_⟩) (by assumption) ?_
 rotate_left
 ·intro W hSW
  simp only [zA,zB,zC]
  (try dsimp only at hSW)
  go_simp
  (try with_reducible rfl)
 simp only [zA,zB,zC,Act.put,zD,zE,zF]
 have hg1:=own_lt hown1 g1 rfl
 have hcv:RunsV W10 (.slice (some ⟨g1,0,none⟩) fl c1) f:=sv_of_owns2 (base:=W8.heap.size) (e:=70) (by rw [HFL.out];exact hown1) HI2.out (by rw [HFL.out];omega)
 have hrb:∀ r,(Value.slice ra z rc).ownBlock=some r→r < w7.heap.size:=fun r hr=>(HRW.out r hr).2
 have hO11:=hO10.setC (k:=k) (by rw [HQN.out];exact HK.out) hcv (capOk_ne H2.out) (fun a m c e hm=>by
  cases e
  have h3:=HXB8.out.size
  have h4:=(Array.getElem?_eq_some_iff.1 HB8.out).1
  have h5:=HGQ.out.2
  have h6:=HX78.out.size
  simp only [List.mem_cons,List.mem_append,List.not_mem_nil,or_false,Option.mem_toList] at hm
  rcases hm with hm | hm | hm | hm
  ·omega
  ·have:=hrb _ hm;omega
  ·omega
  ·have:=range_lt hm;omega)
 rw [HQN.out] at hO11
 have hb11:(W10.setCell ⟨gq,k*3+2,none⟩ (.slice (some ⟨g1,0,none⟩) fl c1)).heap[w7.heap.size]?=some (.cells #[.int .i64 s.Clock,.int .i64 s.Next,.slice (some ⟨gq,0,none⟩) n qc,.slice ra z rc] 25 (0,0)):=by
  rw [heap_setCell_other W10 ⟨gq,k*3+2,none⟩ _ _ (by show w7.heap.size≠gq;have:=HGQ.out.2;omega)]
  exact blk_ext HB8.out hx90
 have hx11:Ext wb (W10.setCell ⟨gq,k*3+2,none⟩ (.slice (some ⟨g1,0,none⟩) fl c1)):=(HXB8.out.tr hx90).se (b:=gq) (o:=k*3+2) (by have:=HGQ.out.1;have:=HXB3.out.size;omega) _
 have HO11:=hid hO11
 have HB11:=hid hb11
 have HX11:=hid hx11
 clear hO10 hO11 hb11 hx11 hcv hown1 hgrow1 hnil1 hHeld hx89 hx90 hs9 how9 HO8 hg1
 refine wpAnyT_last (t:=8) (by kernel_rfl) rfl (by kernel_rfl) (fun K hK=>?_)
 simp only [zA,zB,zC]
 go_simp
 refine hK.out _ _ ?_
 clear hK K
 generalize W10.setCell ⟨gq,k*3+2,none⟩ (.slice (some ⟨g1,0,none⟩) fl c1)=W11 at *
 have hXl:wb.heap.size≤w7.heap.size:=by have:=HXB3.out.size;have:=HS3.out.2;omega
 have HOKT:=hid (treeOk_set (q:=k) (booksE_zero (formE_zero (stateE_zero H0.out).1).1).2.1 H2.out)
 have hcl:=(formE_zero (stateE_zero H0.out).1).2.1
 have HCL:=hid (show 0≤s.Clock∧s.Clock≤48 from ⟨hcl.1,hcl.2.1⟩)
 clear k0 f0
 rcases Nat.eq_zero_or_pos z with hz0 | hz0
 ·have hbn:s.Books=[]:=List.eq_nil_of_length_eq_zero (by rw [HBZ.out];exact hz0)
  clear hz0
  have hf:FitsT (setCap s.Tree k f) [] s.Clock.toNat:=fun t h1 h2 p hp=>by
   have:=cap_num HOKT.out hp t
   unfold leftT
   simp only [takenT]
   omega
  have hO:=HO11.out
  rw [hbn] at hO
  have HT:=hid (show Calls Tryz.prog 56 #[.slice (some ⟨gq,0,none⟩) n qc,.slice ra z rc,.int .i64 s.Clock] W11 (RetToo W11 (tooR (setCap s.Tree k f) [] s.Clock.toNat)) from by
   have:=tooRef_any W11 _ _ (setCap s.Tree k f) [] s.Clock.toNat (by have:=HCL.out;omega) hO.tree hO.books HOKT.out (fun x hx=>by cases hx) (by simp)
   rwa [Int.toNat_of_nonneg HCL.out.1] at this)
  rw [tooR_no hf] at HT
  clear hf hO
  have k0:W11.cell? ⟨w7.heap.size,0,none⟩=some (.int .i64 s.Clock):=cell_of_row _ _ 0 _ _ _ HB11.out
  have k2:W11.cell? ⟨w7.heap.size,2,none⟩=some (.slice (some ⟨gq,0,none⟩) n qc):=cell_of_row _ _ 2 _ _ _ HB11.out
  have k3:W11.cell? ⟨w7.heap.size,3,none⟩=some (.slice ra z rc):=cell_of_row _ _ 3 _ _ _ HB11.out
  go_wp2_with fail
  refine wp_loop_rounds 1 ?_
  rw [rounds_succ]
  go_wp2_with fail
  refine HT.out.mono ?_
  rintro e w12 ⟨rfl,hx12⟩
  clear k0 k2 k3
  have HB12:=hid (blk_ext HB11.out hx12)
  have HX12:=hid (HX11.out.tr hx12)
  have HO12:=hid (HO11.out.ext hx12)
  have HZ:=hid (HZ0.out _ (HX11.out.tr hx12))
  clear hx12
  have e0:w12.cell? ⟨w7.heap.size,0,none⟩=some (.int .i64 s.Clock):=cell_of_row _ _ 0 _ _ _ HB12.out
  have e1:w12.cell? ⟨w7.heap.size,1,none⟩=some (.int .i64 s.Next):=cell_of_row _ _ 1 _ _ _ HB12.out
  have e2:w12.cell? ⟨w7.heap.size,2,none⟩=some (.slice (some ⟨gq,0,none⟩) n qc):=cell_of_row _ _ 2 _ _ _ HB12.out
  have e3:w12.cell? ⟨w7.heap.size,3,none⟩=some (.slice ra z rc):=cell_of_row _ _ 3 _ _ _ HB12.out
  have HEND:=hid (show StS w.heap.size (w12.setRow (w.heap.size+1) #[.int .i64 s.Clock,.int .i64 s.Next,.slice (some ⟨gq,0,none⟩) n qc,.slice ra z rc]) (.slice (some ⟨gq,0,none⟩) n qc) (.slice ra z rc) (cutS s k f) from .inl (by
   have h:=(((HO12.out.under (r:=w.heap.size+1) (by have:=HSB.out;omega)).kept (grown_srow w12 (w.heap.size+1) #[.int .i64 s.Clock,.int .i64 s.Next,.slice (some ⟨gq,0,none⟩) n qc,.slice ra z rc]) (List.mem_cons_self ..)).low (ex2:=[]) (B2:=w.heap.size) HX0.out.size (fun r hr=>by cases hr))
   have e:(cutS s k f).Books=s.Books:=by show (endB s k f).1=s.Books;rw [end_none hbn,hbn]
   rw [e]
   exact h))
  have HX13:=hid ((HX0.out.tr HX12.out).sr (b:=w.heap.size+1) (by omega) #[.int .i64 s.Clock,.int .i64 s.Next,.slice (some ⟨gq,0,none⟩) n qc,.slice ra z rc])
  have HR13:=hid (setRow_heap w12 (w.heap.size+1) _ #[.int .i64 s.Clock,.int .i64 s.Next,.slice (some ⟨gq,0,none⟩) n qc,.slice ra z rc] _ _ HZ.out)
  have HRR:=hid (show cr=(cutS s k f,[],[],0) from by rw [HR.out,end_none hbn])
  clear hbn
  go_wp2_with fail
  refine wp_loop_rounds 1 ?_
  rw [rounds_succ]
  go_wp2_with (refine wpList_store_row rfl 25 _ _ rfl (w.heap.size+1) #[.int .i64 s.Clock,.int .i64 s.Next,.slice (some ⟨gq,0,none⟩) n qc,.slice ra z rc] rfl rfl 25 _ HZ.out Tryz.size25 rfl (by simp [Value.oneCell']) ?_)
  exact bodyPost_ret (results_row_three (u1:=7) (u2:=8) (u3:=9) rfl _ _ (w.heap.size+1) 25 #[.int .i64 s.Clock,.int .i64 s.Next,.slice (some ⟨gq,0,none⟩) n qc,.slice ra z rc] (0,0) _ rfl HR13.out Tryz.underlying25 rfl Tryz.size25) rfl (retChange_of (s:=cutS s k f) HRR.out HEND.out SV.nil SV.nil HX13.out)
 ·obtain ⟨gb,rc',e,_,_⟩:=HO11.out.vsome (by rw [HBZ.out];exact hz0)
  rw [HBZ.out] at e
  cases e
  have hln:(setCap s.Tree k f).length=n:=by rw [setCap_len,HQN.out]
  obtain ⟨L,hL⟩:∃ L,setCap s.Tree k f=L:=⟨_,rfl⟩
  have hA0:AwayIn wb w7.heap.size gq qc gb rc s.Clock s.Next L s.Books (sortB []) (.slice none 0 0) W11:=by
   rw [← hL]
   exact ⟨by rw [hln,HBZ.out];exact HB11.out,by rw [hln,HBZ.out];exact HO11.out,⟨[],World.ownsRow_nil _ _ _ _,⟨rfl,fun k cs x h=>(by simp at h)⟩,fun cs h=>(by cases h),fun g h=>(by cases h)⟩,by simp [Value.ownBlock],fun x h=>(by cases h),HX11.out,hXl⟩
  have HA0:=hid hA0
  have HLL:=hid hL
  rw [hL] at HOKT
  have HOKB:=hid (show ∀ x∈s.Books,BookOk L x from fun x hx=>hL▸bookOk_set.2 (HOK.out x hx))
  have HN12:=hid (show s.Books.length≤12 from by rw [HBZ.out];exact h12)
  have HLN2:=hid (show L.length=n from hL▸hln)
  obtain ⟨ib,ib1,ib2,ib3,ib4⟩:=info_parts Tryz.info43
  have HIB3:=hid ib3
  have HIB4:=hid ib4
  clear hA0 hL hln ib3 ib4
  go_wp2_with fail
  go_loopw [12] (fun va wr=>∃ (gq qc gb cap:Nat) (b a:List Book),Hid (AwayIn wb w7.heap.size gq qc gb cap s.Clock s.Next L b (sortB a) va wr)∧Hid (RelAt L s.Clock.toNat s.Books b a)) (fun _ wr=>boxLen w7.heap.size wr)
  case atStart=>exact ⟨gq,qc,gb,rc,s.Books,[],HA0,hid ⟨rfl,List.Sublist.refl _,by rw [List.append_nil]⟩⟩
  case round =>
   clear HA0 HO11 HB11
   obtain ⟨gq,qc,gb,cap,b,a,HA,HRL⟩:=hrel
   have hbok:∀ x∈b,BookOk L x:=fun x hx=>HOKB.out x (HRL.out.sub.subset hx)
   have hb12:b.length≤12:=Nat.le_trans HRL.out.sub.length_le HN12.out
   have HT:=hid (show Calls Tryz.prog 56 #[.slice (some ⟨gq,0,none⟩) L.length qc,.slice (some ⟨gb,0,none⟩) b.length cap,.int .i64 s.Clock] wr (RetToo wr (tooR L b s.Clock.toNat)) from by
    have:=tooRef_any wr _ _ L b s.Clock.toNat (by have:=HCL.out;omega) HA.out.own.tree HA.out.own.books HOKT.out hbok hb12
    rwa [Int.toNat_of_nonneg HCL.out.1] at this)
   have k0:wr.cell? ⟨w7.heap.size,0,none⟩=some (.int .i64 s.Clock):=cell_of_row _ _ 0 _ _ _ HA.out.box
   have k2:wr.cell? ⟨w7.heap.size,2,none⟩=some (.slice (some ⟨gq,0,none⟩) L.length qc):=cell_of_row _ _ 2 _ _ _ HA.out.box
   have k3:wr.cell? ⟨w7.heap.size,3,none⟩=some (.slice (some ⟨gb,0,none⟩) b.length cap):=cell_of_row _ _ 3 _ _ _ HA.out.box
   by_cases hf:FitsT L b s.Clock.toNat
   ·rw [tooR_no hf] at HT
    have HSTOP:=hid (show relL L s.Clock.toNat s.Books=(b,a) from HRL.out.go.symm.trans (rel_stop (too_no hf) _))
    clear hf
    go_wp2_with fail
    refine HT.out.mono ?_
    rintro e w12 ⟨rfl,hx12⟩
    clear k0 k2 k3
    have HA2:=hid (HA.out.later hx12)
    clear hx12 HT HA
    have hrb2:relB s k f=(b,a):=by show relL (setCap s.Tree k f) s.Clock.toNat s.Books=_;rw [HLL.out];exact HSTOP.out
    have hr1:(relB s k f).1=b:=by rw [hrb2]
    have hr2:(relB s k f).2=a:=by rw [hrb2]
    obtain ⟨hA1,hA2,hA3⟩:=away_is (q:=k) H0.out H2.out
    have hl0:LoopAt (setCap s.Tree k f) s.Clock s.Next (sortB (relB s k f).2) s.Books.length (endB s k f) 0 (relB s k f).1 [] []:=⟨rfl,rel_right H0.out H2.out,hA2,by rw [List.drop_zero,hA3];exact Nat.le_refl _⟩
    obtain ⟨R,hRe⟩:∃ R,endB s k f=R:=⟨_,rfl⟩
    rw [hr1,hr2,HLL.out,hRe] at hl0
    rw [hr2,HLL.out] at hA1
    obtain ⟨A,hA⟩:∃ A,sortB a=A:=⟨_,rfl⟩
    rw [hA] at hl0 hA1 HA2
    have HAE:=hid (show sortB (relB s k f).2=A from by rw [hr2];exact hA)
    have HL0:=hid hl0
    have HAB:=hid hA1
    have HRE:=hid hRe
    have hci:ChangeIn wb w7.heap.size gq qc gb cap s.Clock s.Next L A u12 b [] [] (.slice none 0 0) (.slice none 0 0) w12 :=
     ⟨HA2.out.box,HA2.out.own,HA2.out.away,HA2.out.live,World.ownsRow_nil _ _ _ _,World.ownsRow_nil _ _ _ _,fun r h=>(by cases h),fun r h=>(by cases h),HA2.out.apart,HA2.out.ext,HA2.out.low⟩
    obtain ⟨aa,ac,hva⟩:∃ a c,u12=.slice a A.length c:=by
     obtain ⟨css,o1,_⟩:=HA2.out.away
     rcases o1.2 with ⟨h,h0⟩ | ⟨g,cp,cur,h,_⟩
     ·exact ⟨none,0,by rw [h,h0]⟩
     ·exact ⟨_,_,h⟩
    subst hva
    have hnx:=(formE_zero (stateE_zero H0.out).1).2.1
    have HNX:=hid (show 0≤s.Next∧s.Next≤1048576 from ⟨hnx.2.2.1,hnx.2.2.2⟩)
    have HCI:=hid hci
    have hAl:A.length≤12:=by have h1:=HN12.out;have h2:=HL0.out.len;rw [List.drop_zero] at h2;omega
    have hN12:=HN12.out
    clear hrb2 hr1 hr2 hA1 hA2 hA3 hl0 hA hRe hci hnx HA2 HRL HSTOP hbok hb12
    generalize s.Books.length=N at *
    obtain ⟨al,hal⟩:∃ al,A.length=al:=⟨_,rfl⟩
    rw [hal] at HCI hAl ⊢
    have HAL:=hid hal
    clear hal
    obtain ⟨ii,ii1,ii2,ii3,ii4⟩:=info_parts Tryz.info3
    go_wp2_with fail
    go_loopw [20,21,22] (fun vm vd i wr=>∃ (gb cap j:Nat) (b:List Book) (m d:List Int),i=.int .i64 j∧j≤al∧Hid (ChangeIn wb w7.heap.size gq qc gb cap s.Clock s.Next L A (.slice aa al ac) b m d vm vd wr)∧Hid (LoopAt L s.Clock s.Next A N R j b m d)∧Hid (m.length+d.length=j)) (fun _ _ i _=>al - (intOf i).toNat)
    case atStart=>exact ⟨gb,cap,0,b,[],[],rfl,Nat.zero_le _,HCI,HL0,hid rfl⟩
    case round =>
     obtain ⟨gb,cap,j,b,m,d,rfl,hj,HC,HLA,HMD⟩:=hrel
     by_cases hlt:j < al
     ·obtain ⟨x,hx⟩:=getA (f:=A) (k:=j) (by rw [HAL.out];exact hlt)
      obtain ⟨ga,ca',pv,bv,e,⟨c0,c1,c2,c3,c4,c5,c6⟩,hbc,hap⟩:=HC.out.take hx
      cases e
      obtain ⟨hbkx,hidx⟩:=HAB.out x (List.mem_of_getElem? hx)
      obtain ⟨pa,pc,hpf,_⟩:=(bookC_parts hbc).1.form
      obtain ⟨ba',bc',hbf,_⟩:=(bookC_parts hbc).2.1.form
      subst hpf hbf
      have HX:=hid hx
      have HBC:=hid hbc
      have HAP:=hid hap
      have HBKX:=hid hbkx
      have HIDX:=hid hidx
      have k0:wr.cell? ⟨w7.heap.size,0,none⟩=some (.int .i64 s.Clock):=cell_of_row _ _ 0 _ _ _ HC.out.box
      have hXr:w7.heap.size < wr.heap.size:=(Array.getElem?_eq_some_iff.1 HC.out.box).1
      clear hx hbc hap hbkx hidx
      go_wp2_with fail
      obtain ⟨wq,hwq⟩:∃ wq,(wr.alloc (.cells #[.int .i64 x.Id,.int .i64 x.Req.Queue,.int .i64 x.Req.From,.int .i64 x.Req.Until,.int .i64 x.Req.Kind,.slice pa x.Req.Pieces.length pc,.slice ba' x.Bites.length bc'] 43)).alloc (.cells #[.int .i64 x.Req.Queue,.int .i64 (max x.Req.From s.Clock),.int .i64 x.Req.Until,.int .i64 x.Req.Kind,.slice pa x.Req.Pieces.length pc] 40)=wq:=⟨_,rfl⟩
      have hxq:Ext wr wq:=hwq▸((Ext.rf wr).al _).al _
      have hb1:wq.heap[wr.heap.size]?=some (.cells #[.int .i64 x.Id,.int .i64 x.Req.Queue,.int .i64 x.Req.From,.int .i64 x.Req.Until,.int .i64 x.Req.Kind,.slice pa x.Req.Pieces.length pc,.slice ba' x.Bites.length bc'] 43 (0,0)):=hwq▸(blk_ext (heap_alloc_new wr (.cells #[.int .i64 x.Id,.int .i64 x.Req.Queue,.int .i64 x.Req.From,.int .i64 x.Req.Until,.int .i64 x.Req.Kind,.slice pa x.Req.Pieces.length pc,.slice ba' x.Bites.length bc'] 43)) ((Ext.rf _).al _))
      have hb2:wq.heap[wr.heap.size+1]?=some (.cells #[.int .i64 x.Req.Queue,.int .i64 (max x.Req.From s.Clock),.int .i64 x.Req.Until,.int .i64 x.Req.Kind,.slice pa x.Req.Pieces.length pc] 40 (0,0)):=by
       rw [← hwq]
       have:=heap_alloc_new (wr.alloc (.cells #[.int .i64 x.Id,.int .i64 x.Req.Queue,.int .i64 x.Req.From,.int .i64 x.Req.Until,.int .i64 x.Req.Kind,.slice pa x.Req.Pieces.length pc,.slice ba' x.Bites.length bc'] 43)) (.cells #[.int .i64 x.Req.Queue,.int .i64 (max x.Req.From s.Clock),.int .i64 x.Req.Until,.int .i64 x.Req.Kind,.slice pa x.Req.Pieces.length pc] 40)
       rwa [World.size_alloc] at this
      rw [hwq]
      have BG:=hid (begun_any wq _ _ x s.Clock ((bookC_parts HBC.out).1.mono hxq) ((bookC_parts HBC.out).2.1.mono hxq))
      have HXQ:=hid hxq
      have HB1:=hid hb1
      have HB2:=hid hb2
      clear hxq hb1 hb2 hwq c0 c1 c2 c3 c4 c5 c6 k0
      refine BG.out.mono ?_
      rintro e W2 ⟨rfl,hx2⟩
      have HX2:=hid (HXQ.out.tr hx2)
      have HR1:=hid (blk_ext HB1.out hx2)
      have HR2:=hid (blk_ext HB2.out hx2)
      have r1:W2.cell? ⟨wr.heap.size+1,1,none⟩=some (.int .i64 (max x.Req.From s.Clock)):=cell_of_row _ _ 1 _ _ _ HR2.out
      have r2:W2.cell? ⟨wr.heap.size+1,2,none⟩=some (.int .i64 x.Req.Until):=cell_of_row _ _ 2 _ _ _ HR2.out
      have e0:W2.cell? ⟨wr.heap.size,0,none⟩=some (.int .i64 x.Id):=cell_of_row _ _ 0 _ _ _ HR1.out
      clear hx2 BG HB1 HB2 HXQ
      cases hbg:begunB s.Clock x with
      | true =>
       have hg:goneB L s.Clock b x=true:=by unfold goneB;rw [hbg];rfl
       clear hbg
       have HC2:=hid (HC.out.later HX2.out)
       have HLA2:=hid (HLA.out.gone HX.out hg)
       have HO1:=hid (HC2.out.drow.alloc (.cells #[.int .i64 x.Id] 3))
       have HN1:=hid (new1 W2 rfl (.int .i64 x.Id) 3)
       have HSZ:=hid (show wb.heap.size≤(W2.alloc (.cells #[.int .i64 x.Id] 3)).heap.size from (HC2.out.ext.al _).size)
       have hdl:d.length≤12:=by have:=HMD.out;omega
       go_wp2_with (at_builtin;refine wpList_append_lies _ rfl _ _ 27 rfl wb.heap.size 3 ii _ 1 8 Tryz.underlying27 ii1 ii2 ii3 ii4 rfl (by decide) u21 d.length (d.map fun n=>Value.int .i64 n) rfl HO1.out ⟨W2.heap.size,0,none⟩ 1 1 [.int .i64 x.Id] rfl rfl HN1.out (by simp [Value.oneCell']) (by omega) (by unfold maxLen;omega) (by omega) HSZ.out (W2.heap.size+1) (by simp) ?_;intro g2 cp2 W3 hown hgrow hlie hlt3)
       have hrel2:=(HC2.out.swap.push hown hgrow hlie).swap
       go_roundw
       case rel =>
        have e:(d++[x.Id]).length=d.length+1:=by simp
        rw [e] at hrel2
        exact ⟨_,_,j+1,b,m,d++[x.Id],by go_num,by omega,hid hrel2,HLA2,hid (by rw [e];have:=HMD.out;omega)⟩
       case measure=>simp [intOf];omega
      | false =>
       by_cases hlate:x.Req.Until≤max x.Req.From s.Clock
       ·have hg:goneB L s.Clock b x=true:=by unfold goneB;rw [deT hlate];simp
        have hlt1:¬ max x.Req.From s.Clock < x.Req.Until:=by omega
        have hlt2:=deF hlt1
        have HC2:=hid (HC.out.later HX2.out)
        have HLA2:=hid (HLA.out.gone HX.out hg)
        have HO1:=hid (HC2.out.drow.alloc (.cells #[.int .i64 x.Id] 3))
        have HN1:=hid (new1 W2 rfl (.int .i64 x.Id) 3)
        have HSZ:=hid (show wb.heap.size≤(W2.alloc (.cells #[.int .i64 x.Id] 3)).heap.size from (HC2.out.ext.al _).size)
        have hdl:d.length≤12:=by have:=HMD.out;omega
        go_wp2_with (at_builtin;refine wpList_append_lies _ rfl _ _ 27 rfl wb.heap.size 3 ii _ 1 8 Tryz.underlying27 ii1 ii2 ii3 ii4 rfl (by decide) u21 d.length (d.map fun n=>Value.int .i64 n) rfl HO1.out ⟨W2.heap.size,0,none⟩ 1 1 [.int .i64 x.Id] rfl rfl HN1.out (by simp [Value.oneCell']) (by omega) (by unfold maxLen;omega) (by omega) HSZ.out (W2.heap.size+1) (by simp) ?_;intro g2 cp2 W3 hown hgrow hlie hlt3)
        have hrel2:=(HC2.out.swap.push hown hgrow hlie).swap
        go_roundw
        case rel =>
         have e:(d++[x.Id]).length=d.length+1:=by simp
         rw [e] at hrel2
         exact ⟨_,_,j+1,b,m,d++[x.Id],by go_num,by omega,hid hrel2,HLA2,hid (by rw [e];have:=HMD.out;omega)⟩
        case measure=>simp [intOf];omega
       ·have hlt1:max x.Req.From s.Clock < x.Req.Until:=by omega
        have hlt2:=deT hlt1
        have hq:=laterQ_ok HBKX.out.req hlt1
        have hstr:=HLA.out.right
        obtain ⟨ok2,h122,hbok2⟩:=right_of hstr
        obtain ⟨q,hqn⟩:∃ q:Nat,x.Req.Queue=q:=⟨x.Req.Queue.toNat,by have:=HBKX.out.q0;omega⟩
        have hql:q < L.length:=by have:=HBKX.out.q1;omega
        have hfine:Fine (fold (roomT L b x.Req.Queue)):=by rw [hqn];exact room_fine hstr hql
        have RI:=hid (fun (W:World) (h:Ext wr W)=>show Calls Tryz.prog 61 #[.slice (some ⟨gq,0,none⟩) L.length qc,.slice (some ⟨gb,0,none⟩) b.length cap,.int .i64 x.Req.Queue] W (RetTab W (sp (fold (roomT L b x.Req.Queue)))) from by
         have:=roomRef_any W _ _ L b q hql (HC.out.own.tree.mono h) (HC.out.own.books.mono h) ok2 hbok2 h122
         rw [← hqn] at this
         have e:tab (roomT L b x.Req.Queue)=tab (sp (fold (roomT L b x.Req.Queue))):=tab_congr (fun t ht=>by rw [sp_fold ht])
         exact this.mono fun e' w' ⟨h1,h2⟩=>⟨by rw [h1,e],h2⟩)
        have PI:=hid (fun (W:World) (h:Ext wr W)=>show Calls Tryz.prog 60 #[.agg (tab (sp (fold (roomT L b x.Req.Queue)))),.agg #[.int .i64 x.Req.Queue,.int .i64 (max x.Req.From s.Clock),.int .i64 x.Req.Until,.int .i64 x.Req.Kind,.slice pa x.Req.Pieces.length pc]] W (RetPickF W (placedB L s.Clock b x)) from find_refF W (sp (fold (roomT L b x.Req.Queue))) (laterQ x.Req s.Clock) _ ((bookC_parts HBC.out).1.mono h) hq (tabOk_fine hfine))
        have HGG:=hid (show goneB L s.Clock b x=decide (placedB L s.Clock b x=[]) from by unfold goneB;rw [hbg,deF hlate];simp)
        have HBB:=hid (show backB L s.Clock b x=insB ⟨x.Id,x.Req,placedB L s.Clock b x⟩ b from rfl)
        have hcons:=HLA.out.cons HX.out
        have hb11:b.length < 12:=by have:=hcons.2.2.2;omega
        have HBR:=hid (fun hg=>back_right hstr HBKX.out HIDX.out hcons.1 hb11 hg)
        have HID1:=hid hcons.1
        clear hq hstr ok2 h122 hbok2 hqn hql hfine hlate hbg hcons
        generalize placedB L s.Clock b x=LB at *
        generalize sp (fold (roomT L b x.Req.Queue))=xt at *
        have k2:W2.cell? ⟨w7.heap.size,2,none⟩=some (.slice (some ⟨gq,0,none⟩) L.length qc):=HX2.out.ce' (cell_of_row _ _ 2 _ _ _ HC.out.box)
        have k3:W2.cell? ⟨w7.heap.size,3,none⟩=some (.slice (some ⟨gb,0,none⟩) b.length cap):=HX2.out.ce' (cell_of_row _ _ 3 _ _ _ HC.out.box)
        have r0:W2.cell? ⟨wr.heap.size+1,0,none⟩=some (.int .i64 x.Req.Queue):=cell_of_row _ _ 0 _ _ _ HR2.out
        have r3:W2.cell? ⟨wr.heap.size+1,3,none⟩=some (.int .i64 x.Req.Kind):=cell_of_row _ _ 3 _ _ _ HR2.out
        have r4:W2.cell? ⟨wr.heap.size+1,4,none⟩=some (.slice pa x.Req.Pieces.length pc):=cell_of_row _ _ 4 _ _ _ HR2.out
        go_wp2_with fail
        go_region_held3 (fun w'=>(w'.cell? ⟨w7.heap.size,2,none⟩=some (.slice (some ⟨gq,0,none⟩) L.length qc)∧w'.cell? ⟨w7.heap.size,3,none⟩=some (.slice (some ⟨gb,0,none⟩) b.length cap)∧w'.cell? ⟨wr.heap.size+1,0,none⟩=some (.int .i64 x.Req.Queue)∧w'.cell? ⟨wr.heap.size+1,1,none⟩=some (.int .i64 (max x.Req.From s.Clock))∧w'.cell? ⟨wr.heap.size+1,2,none⟩=some (.int .i64 x.Req.Until)∧w'.cell? ⟨wr.heap.size+1,3,none⟩=some (.int .i64 x.Req.Kind)∧w'.cell? ⟨wr.heap.size+1,4,none⟩=some (.slice pa x.Req.Pieces.length pc)))
         (first
          | go_keep
          | (
            go_split_ands
            exact ⟨hxk.ce' (by assumption),hxk.ce' (by assumption),hxk.ce' (by assumption),hxk.ce' (by assumption),hxk.ce' (by assumption),hxk.ce' (by assumption),hxk.ce' (by assumption)⟩))
         (first
          | (go_at_call 61;refine (RI.out _ HX2.out.dr).mono ?_;rintro e W3 ⟨rfl,hxk⟩;have HX3:=hid (HX2.out.dr.tr hxk);have HX23:=hid ((Ext.rf W2).dr.tr hxk))
          | (go_at_call 60;refine (PI.out _ HX3.out).mono ?_;rintro e W4 ⟨u4,bb,rfl,hxk,hy,hn⟩;have Hy:=hid hy;have Hn:=hid hn;have HX4:=hid (HX3.out.tr hxk);have HX24:=hid (HX23.out.tr hxk);clear hy hn))
        clear r0 r1 r2 r3 r4 k2 k3 e0 RI PI
        cases bb with
        | false =>
         have hg:goneB L s.Clock b x=true:=by rw [HGG.out,Hn.out rfl];rfl
         clear Hy Hn HBR HBB HID1 HX3 HX23
         have HC2:=hid (HC.out.later HX4.out)
         have HLA2:=hid (HLA.out.gone HX.out hg)
         have e0:W4.cell? ⟨wr.heap.size,0,none⟩=some (.int .i64 x.Id):=HX24.out.ce' (cell_of_row _ _ 0 _ _ _ HR1.out)
         have HO1:=hid (HC2.out.drow.alloc (.cells #[.int .i64 x.Id] 3))
         have HN1:=hid (new1 W4 rfl (.int .i64 x.Id) 3)
         have HSZ:=hid (show wb.heap.size≤(W4.alloc (.cells #[.int .i64 x.Id] 3)).heap.size from (HC2.out.ext.al _).size)
         have hdl:d.length≤12:=by have:=HMD.out;omega
         go_wp2_with (at_builtin;refine wpList_append_lies _ rfl _ _ 27 rfl wb.heap.size 3 ii _ 1 8 Tryz.underlying27 ii1 ii2 ii3 ii4 rfl (by decide) u21 d.length (d.map fun n=>Value.int .i64 n) rfl HO1.out ⟨W4.heap.size,0,none⟩ 1 1 [.int .i64 x.Id] rfl rfl HN1.out (by simp [Value.oneCell']) (by omega) (by unfold maxLen;omega) (by omega) HSZ.out (W4.heap.size+1) (by simp) ?_;intro g2 cp2 W3 hown hgrow hlie hlt3)
         have hrel2:=(HC2.out.swap.push hown hgrow hlie).swap
         go_roundw
         case rel =>
          have e:(d++[x.Id]).length=d.length+1:=by simp
          rw [e] at hrel2
          exact ⟨_,_,j+1,b,m,d++[x.Id],by go_num,by omega,hid hrel2,HLA2,hid (by rw [e];have:=HMD.out;omega)⟩
         case measure=>simp [intOf];omega
        | true =>
         obtain ⟨hLB,hbv,hfr⟩:=Hy.out rfl
         have hg:goneB L s.Clock b x=false:=by rw [HGG.out];exact deF hLB
         obtain ⟨hr1,hr2,_⟩:=HBR.out hg
         have HLX:=hid ((liveB_of (l:=L) (b:=[⟨x.Id,x.Req,LB⟩]) (fun y hy=>by rw [List.mem_singleton.1 hy];exact hr2)) _ (List.mem_singleton.2 rfl))
         obtain ⟨va,vc,hu4,_,_,_,hvE⟩:=bites_at hbv
         obtain ⟨vb,vo,hva,hvb,_⟩:=hvE (List.length_pos_iff.2 hLB)
         subst hva
         subst hu4
         have hvf:wr.heap.size≤vb:=by
          have h1:W3.heap.size≤vb:=hfr _ _ _ rfl
          have h2:=HX3.out.size
          omega
         have HLA2:=hid (HLA.out.put HX.out hg HBKX.out HIDX.out hN12)
         have HC2:=hid (HC.out.later HX4.out)
         have HBV:=hid (And.intro hbv (And.intro hLB hvf))
         have hR4:=blk_ext HR1.out HX24.out
         have HR4:=hid hR4
         have e0:W4.cell? ⟨wr.heap.size,0,none⟩=some (.int .i64 x.Id):=cell_of_row _ _ 0 _ _ _ hR4
         have HO1:=hid (HC2.out.mrow.alloc (.cells #[.int .i64 x.Id] 3))
         have HN1:=hid (new1 W4 rfl (.int .i64 x.Id) 3)
         have HSZ:=hid (show wb.heap.size≤(W4.alloc (.cells #[.int .i64 x.Id] 3)).heap.size from (HC2.out.ext.al _).size)
         have hdl:m.length≤12:=by have:=HMD.out;omega
         clear hg hr1 hr2 hvE hbv hfr hvf hLB hR4 Hy Hn HBR HGG HX3 HX23 HR1 HR2
         go_wp2_with (at_builtin;refine wpList_append_lies _ rfl _ _ 27 rfl wb.heap.size 3 ii _ 1 8 Tryz.underlying27 ii1 ii2 ii3 ii4 rfl (by decide) u20 m.length (m.map fun n=>Value.int .i64 n) rfl HO1.out ⟨W4.heap.size,0,none⟩ 1 1 [.int .i64 x.Id] rfl rfl HN1.out (by simp [Value.oneCell']) (by omega) (by unfold maxLen;omega) (by omega) HSZ.out (W4.heap.size+1) (by simp) ?_;intro g2 cp2 W5 hown hgrow hlie hlt3)
         have hC5:=HC2.out.push hown hgrow hlie
         obtain ⟨hBN,hAN⟩:=HC.out.placed (q:=(m++[x.Id]).length) (cap2:=cp2) (g2:=g2) HX4.out HBC.out HAP.out HBV.out.1 HBV.out.2.1 HBV.out.2.2 hgrow hlie
         have hR5:W5.heap[wr.heap.size]?=some (.cells #[.int .i64 x.Id,.int .i64 x.Req.Queue,.int .i64 x.Req.From,.int .i64 x.Req.Until,.int .i64 x.Req.Kind,.slice pa x.Req.Pieces.length pc,.slice ba' x.Bites.length bc'] 43 (0,0)):=(hgrow.block wr.heap.size (Nat.lt_of_lt_of_le (Array.getElem?_eq_some_iff.1 HR4.out).1 ((Ext.rf W4).al _).size) (fun e=>by have:=(HC.out.mrow.lt _ e.symm).2;omega)).trans (blk_ext HR4.out ((Ext.rf W4).al _))
         obtain ⟨css,q1,q2,q3,q4,q5,q6,hmk⟩:=hC5.own.mid rfl hb11
         have HC5:=hid hC5
         have HNEW:=hid (And.intro hBN hAN)
         have HR5:=hid hR5
         have HQ:=hid (And.intro q1 (And.intro q2 q3))
         have HQ5:=hid q5
         have HQ6:=hid q6
         have HMK:=hid hmk
         have HEX:=hid hC5.old
         clear hown hgrow hlie hlt3 hC5 hBN hAN hR5 q1 q2 q3 q5 q6 hmk e0 HO1 HN1 HSZ HC2 HR4 HBV
         generalize hbl:b.length=z4 at *
         have HZ4:=hid hbl
         clear hbl
         generalize wr.heap.size=B1 at *
         have HB5:=hid (show w7.heap.size < W5.heap.size∧B1 < W5.heap.size from ⟨(Array.getElem?_eq_some_iff.1 HC5.out.box).1,(Array.getElem?_eq_some_iff.1 HR5.out).1⟩)
         have hz412:z4 < 12:=hb11
         go_wp2_with fail
         go_loopw [27,28] (fun v i wi=>∃ (j4:Nat),i=.int .i64 j4∧j4≤z4∧Hid (wi.ownsRow W5.heap.size 43 7 v j4 (css.take j4).flatten)∧Hid (∀ (i:Nat) (y:Book),i < j4→b[i]?=some y→y.Id < x.Id)∧Hid (Ext W5 wi)) (fun _ i _=>z4 - (intOf i).toNat)
         case atStart=>exact ⟨0,rfl,Nat.zero_le _,hid (World.ownsRow_nil _ _ _ _),hid (fun i y h=>by omega),hid (Ext.rf _)⟩
         case round =>
          obtain ⟨j4,rfl,hj4,HOW,HLE,HXI⟩:=hrel
          have k3:wr.cell? ⟨w7.heap.size,3,none⟩=some (.slice (some ⟨gb,0,none⟩) z4 cap):=HXI.out.ce' (by rw [← HZ4.out];exact cell_of_row _ _ 3 _ _ _ HC5.out.box)
          obtain ⟨f0,f1,f2,f3,f4,f5,f6,_⟩:=bookCells7 (blk_ext HR5.out HXI.out)
          have hj0:(0:Int)≤(j4:Int):=by omega
          by_cases hlt4:j4 < z4
          ·obtain ⟨y,hy⟩:=getA (f:=b) (k:=j4) (by rw [HZ4.out];exact hlt4)
           obtain ⟨pv2,bv2,hcs,hp2,hb2⟩:=HQ6.out j4 y hy
           obtain ⟨pa2,pc2,hf1,_⟩:=hp2.form
           obtain ⟨ba2,bc2,hf2,_⟩:=hb2.form
           subst hf1 hf2
           obtain ⟨d0,d1,d2,d3,d4,d5,d6⟩:=(bcells_of HQ.out.2.1 HQ5.out hcs).ext HXI.out
           have hltI:(j4:Int) < (z4:Int):=by omega
           have hltd:=deT hlt4
           have hltdI:=deT hltI
           have HY:=hid hy
           have HCS:=hid hcs
           clear hy hcs hp2 hb2
           by_cases hl:y.Id < x.Id
           ·have hl1:=deT hl
            go_wp2_with fail
            go_quiet (fail)
            have HXQ:=hid (HXI.out.tr ((Ext.rf wr).dn nq))
            have HOQ:=hid ((ownsRow_ext HOW.out ((Ext.rf wr).dn nq)).alloc (.cells #[.int .i64 y.Id,.int .i64 y.Req.Queue,.int .i64 y.Req.From,.int .i64 y.Req.Until,.int .i64 y.Req.Kind,.slice pa2 y.Req.Pieces.length pc2,.slice ba2 y.Bites.length bc2] 43))
            have HN7:=hid (news7 (wr.drewN nq) [.int .i64 y.Id,.int .i64 y.Req.Queue,.int .i64 y.Req.From,.int .i64 y.Req.Until,.int .i64 y.Req.Kind,.slice pa2 y.Req.Pieces.length pc2,.slice ba2 y.Bites.length bc2] 43 rfl)
            have HS7:=hid (show W5.heap.size≤((wr.drewN nq).alloc (.cells #[.int .i64 y.Id,.int .i64 y.Req.Queue,.int .i64 y.Req.From,.int .i64 y.Req.Until,.int .i64 y.Req.Kind,.slice pa2 y.Req.Pieces.length pc2,.slice ba2 y.Bites.length bc2] 43)).heap.size from (HXQ.out.al _).size)
            have d:=(Ext.rf wr).dn nq
            replace k3:=d.ce' k3
            replace d0:=d.ce' d0
            replace d1:=d.ce' d1
            replace d2:=d.ce' d2
            replace d3:=d.ce' d3
            replace d4:=d.ce' d4
            replace d5:=d.ce' d5
            replace d6:=d.ce' d6
            have hvm:=HOW.out.lt
            have HVM:=hid hvm
            clear d f0 f1 f2 f3 f4 f5 f6 hvm
            generalize wr.drewN nq=wq4 at *
            go_wp2_with (at_builtin;refine wpList_append_lies _ rfl _ _ 23 rfl W5.heap.size 43 ib _ 7 88 Tryz.underlying23 ib1 ib2 HIB3.out HIB4.out rfl (by decide) u27 j4 (css.take j4).flatten rfl HOQ.out ⟨wq4.heap.size,0,none⟩ 1 1 [.int .i64 y.Id,.int .i64 y.Req.Queue,.int .i64 y.Req.From,.int .i64 y.Req.Until,.int .i64 y.Req.Kind,.slice pa2 y.Req.Pieces.length pc2,.slice ba2 y.Bites.length bc2] rfl rfl HN7.out (by simp [Value.oneCell']) (by omega) (by unfold maxLen;omega) (by omega) HS7.out (wq4.heap.size+1) (by simp) ?_;intro g4 cp4 W7 hown4 hgrow4 hlie4 hlt44)
            have hx7:Ext W5 W7:=(HXQ.out.al _).gr hgrow4 (fun r hr=>(HVM.out r hr).1)
            go_roundw
            case rel=>exact ⟨j4+1,by go_num,by omega,hid (by rw [take_flat HCS.out];exact hown4),hid (fun i y' hi hy'=>by
             rcases Nat.lt_or_ge i j4 with h | h
             ·exact HLE.out i y' h hy'
             ·obtain rfl:i=j4:=by omega
              rw [HY.out] at hy'
              cases hy'
              exact hl),hid hx7⟩
            case measure=>simp [intOf];omega
           ·have hl1:=deF hl
            have hc:¬ cap=j4:=by omega
            go_wp2_with fail
            go_quiet (fail)
            have HXQ:=hid (HXI.out.tr ((Ext.rf wr).dn nq))
            have HOQ:=hid ((ownsRow_ext HOW.out ((Ext.rf wr).dn nq)).alloc (.cells #[.int .i64 x.Id,.int .i64 x.Req.Queue,.int .i64 x.Req.From,.int .i64 x.Req.Until,.int .i64 x.Req.Kind,.slice pa x.Req.Pieces.length pc,.slice (some ⟨vb,vo,none⟩) LB.length vc] 43))
            have HN7:=hid (news7 (wr.drewN nq) [.int .i64 x.Id,.int .i64 x.Req.Queue,.int .i64 x.Req.From,.int .i64 x.Req.Until,.int .i64 x.Req.Kind,.slice pa x.Req.Pieces.length pc,.slice (some ⟨vb,vo,none⟩) LB.length vc] 43 rfl)
            have HS7:=hid (show W5.heap.size≤((wr.drewN nq).alloc (.cells #[.int .i64 x.Id,.int .i64 x.Req.Queue,.int .i64 x.Req.From,.int .i64 x.Req.Until,.int .i64 x.Req.Kind,.slice pa x.Req.Pieces.length pc,.slice (some ⟨vb,vo,none⟩) LB.length vc] 43)).heap.size from (HXQ.out.al _).size)
            have HVM:=hid HOW.out.lt
            clear k3 f0 f1 f2 f3 f4 f5 f6
            obtain ⟨f0,f1,f2,f3,f4,f5,f6,_⟩:=bookCells7 (blk_ext HR5.out HXQ.out)
            generalize wr.drewN nq=wq4 at *
            have HSRC:=hid (show ∀ o,(o=j4*7∨z4≤j4)→∀ (j:Nat) v,(css.drop j4).flatten[j]?=some v→W5.cell? ((⟨gb,o,none⟩:Addr).add j)=some v from fun o ho j v hv=>by
             rcases ho with ho | hc
             ·rw [ho,addr7]
              refine HQ5.out _ v ?_
              rw [← flat7_drop css HQ.out.2.1,List.getElem?_drop] at hv
              exact hv
             ·have h0:css.drop j4=[]:=List.drop_eq_nil_of_le (by rw [HQ.out.1];omega)
              rw [h0] at hv
              simp at hv)
            have HDL:=hid (show (css.drop j4).flatten.length=(z4 - j4)*7 from by rw [flat7_len _ (fun cs hm=>HQ.out.2.1 cs (List.mem_of_mem_drop hm)),List.length_drop,HQ.out.1])
            have HD1:=hid (show ∀ v∈(css.drop j4).flatten,v.oneCell'=true from fun v hv=>HQ.out.2.2 v (by
             rw [← flat7_drop css HQ.out.2.1] at hv
             exact List.mem_of_mem_drop hv))
            have hj4I:(j4:Int)≤(z4:Int):=by omega
            go_wp2_with (first
             | (at_builtin;refine wpList_append_lies _ rfl _ _ 23 rfl W5.heap.size 43 ib _ 7 88 Tryz.underlying23 ib1 ib2 HIB3.out HIB4.out rfl (by decide) u27 j4 (css.take j4).flatten rfl HOQ.out ⟨wq4.heap.size,0,none⟩ 1 1 [.int .i64 x.Id,.int .i64 x.Req.Queue,.int .i64 x.Req.From,.int .i64 x.Req.Until,.int .i64 x.Req.Kind,.slice pa x.Req.Pieces.length pc,.slice (some ⟨vb,vo,none⟩) LB.length vc] rfl rfl HN7.out (by simp [Value.oneCell']) (by omega) (by unfold maxLen;omega) (by omega) HS7.out (wq4.heap.size+1) (by simp) ?_;intro g4 cp4 W8 hown4 hgrow4 hlie4 hlt44;have HX8:Hid (Ext W5 W8):=hid ((HXQ.out.al _).gr hgrow4 (fun r hr=>(HVM.out r hr).1));have k5:W8.cell? ⟨w7.heap.size,3,none⟩=some (.slice (some ⟨gb,0,none⟩) z4 cap):=HX8.out.ce' (by rw [← HZ4.out];exact cell_of_row _ _ 3 _ _ _ HC5.out.box);have HOW4:=hid hown4;clear hown4 hgrow4 hlie4 hlt44)
             | (at_builtin;refine wpList_append_own _ rfl _ _ 23 rfl W5.heap.size 43 ib _ 7 88 Tryz.underlying23 ib1 ib2 HIB3.out HIB4.out rfl (by decide) _ (j4+1) _ rfl HOW4.out ⟨gb,j4*7,none⟩ _ _ (css.drop j4).flatten rfl (by first | exact HDL.out | (rw [HDL.out];omega)) (fun j u hj=>ext_ceA HX8.out (HSRC.out _ (.inl rfl) j u hj)) HD1.out (by unfold maxLen;omega) (by omega) HX8.out.size ?_;intro v9 W9 hown9 hgrow9 hnil9;obtain ⟨n9,hn9,hown9⟩:∃ n9,n9=z4+1∧W9.ownsRow W5.heap.size 43 7 v9 n9 ((css.take j4).flatten++[.int .i64 x.Id,.int .i64 x.Req.Queue,.int .i64 x.Req.From,.int .i64 x.Req.Until,.int .i64 x.Req.Kind,.slice pa x.Req.Pieces.length pc,.slice (some ⟨vb,vo,none⟩) LB.length vc]++(css.drop j4).flatten):=⟨_,by omega,hown9⟩;obtain ⟨g9,cp9,rfl⟩:=own_some7 hown9 (by omega);have HN9:=hid hn9;have HX9:Hid (Ext W5 W9):=hid (HX8.out.gr (v:=.slice (some ⟨g4,0,none⟩) (j4+1) cp4) hgrow9 (fun r hr=>by have e1:=own_lt HOW4.out g4 rfl;have e2:=Option.some.inj hr;have e3:g4=r:=e2;omega));have HB9:=hid (blk_ext HC5.out.box HX9.out);have HG9:=hid (own_lt hown9 g9 rfl);have HOW9:=hid hown9;have k9:W9.cell? ⟨w7.heap.size,3,none⟩=some (.slice (some ⟨gb,0,none⟩) z4 cap):=(by rw [← HZ4.out];exact cell_of_row _ _ 3 _ _ _ HB9.out);have f9:=frozen_of_row W9 w7.heap.size 3 _ _ HB9.out;clear hown9 hgrow9 hnil9 hn9))
            all_goals
             have hins:backB L s.Clock b x=b.take j4++⟨x.Id,x.Req,LB⟩::b.drop j4:=by
              rw [HBB.out]
              exact ins_first (x:=⟨x.Id,x.Req,LB⟩) (by rw [HZ4.out];omega) HLE.out (fun y' hy'=>by rw [HY.out] at hy';cases hy';show ¬ y.Id < x.Id;omega)
             have hlen:(backB L s.Clock b x).length=n9:=by rw [back_len,HZ4.out,HN9.out]
             have hO9:=HMK.out W9 g9 n9 cp9 j4 [.int .i64 x.Id,.int .i64 x.Req.Queue,.int .i64 x.Req.From,.int .i64 x.Req.Until,.int .i64 x.Req.Kind,.slice pa x.Req.Pieces.length pc,.slice (some ⟨vb,vo,none⟩) LB.length vc] ⟨x.Id,x.Req,LB⟩ HX9.out HG9.out (by omega) HNEW.out.1 HLX.out HNEW.out.2 HEX.out HOW9.out HN9.out
             rw [← hins,← hlen] at hO9
             have hC9:=HC5.out.anew HX9.out HG9.out hO9
             have e:(m++[x.Id]).length=m.length+1:=by simp
             rw [hlen,e] at hC9
             have HC9:=hid hC9
             clear hins hlen hO9 hC9
             go_roundw
             case rel=>exact ⟨_,_,j+1,backB L s.Clock b x,m++[x.Id],d,by go_num,by omega,HC9,HLA2,hid (by rw [e];have:=HMD.out;omega)⟩
             case measure=>simp [intOf];omega
          ·have hnn:=deF hlt4
           have hnI:¬ (j4:Int) < (z4:Int):=by omega
           have hnd:=deF hnI
           by_cases hc:cap=j4
           ·skip
            go_wp2_with fail
            go_quiet (fail)
            have HXQ:=hid (HXI.out.tr ((Ext.rf wr).dn nq))
            have HOQ:=hid ((ownsRow_ext HOW.out ((Ext.rf wr).dn nq)).alloc (.cells #[.int .i64 x.Id,.int .i64 x.Req.Queue,.int .i64 x.Req.From,.int .i64 x.Req.Until,.int .i64 x.Req.Kind,.slice pa x.Req.Pieces.length pc,.slice (some ⟨vb,vo,none⟩) LB.length vc] 43))
            have HN7:=hid (news7 (wr.drewN nq) [.int .i64 x.Id,.int .i64 x.Req.Queue,.int .i64 x.Req.From,.int .i64 x.Req.Until,.int .i64 x.Req.Kind,.slice pa x.Req.Pieces.length pc,.slice (some ⟨vb,vo,none⟩) LB.length vc] 43 rfl)
            have HS7:=hid (show W5.heap.size≤((wr.drewN nq).alloc (.cells #[.int .i64 x.Id,.int .i64 x.Req.Queue,.int .i64 x.Req.From,.int .i64 x.Req.Until,.int .i64 x.Req.Kind,.slice pa x.Req.Pieces.length pc,.slice (some ⟨vb,vo,none⟩) LB.length vc] 43)).heap.size from (HXQ.out.al _).size)
            have HVM:=hid HOW.out.lt
            clear k3 f0 f1 f2 f3 f4 f5 f6
            obtain ⟨f0,f1,f2,f3,f4,f5,f6,_⟩:=bookCells7 (blk_ext HR5.out HXQ.out)
            generalize wr.drewN nq=wq4 at *
            have HSRC:=hid (show ∀ o,(o=j4*7∨z4≤j4)→∀ (j:Nat) v,(css.drop j4).flatten[j]?=some v→W5.cell? ((⟨gb,o,none⟩:Addr).add j)=some v from fun o ho j v hv=>by
             rcases ho with ho | hc
             ·rw [ho,addr7]
              refine HQ5.out _ v ?_
              rw [← flat7_drop css HQ.out.2.1,List.getElem?_drop] at hv
              exact hv
             ·have h0:css.drop j4=[]:=List.drop_eq_nil_of_le (by rw [HQ.out.1];omega)
              rw [h0] at hv
              simp at hv)
            have HDL:=hid (show (css.drop j4).flatten.length=(z4 - j4)*7 from by rw [flat7_len _ (fun cs hm=>HQ.out.2.1 cs (List.mem_of_mem_drop hm)),List.length_drop,HQ.out.1])
            have HD1:=hid (show ∀ v∈(css.drop j4).flatten,v.oneCell'=true from fun v hv=>HQ.out.2.2 v (by
             rw [← flat7_drop css HQ.out.2.1] at hv
             exact List.mem_of_mem_drop hv))
            have hj4I:(j4:Int)≤(z4:Int):=by omega
            go_wp2_with (first
             | (at_builtin;refine wpList_append_lies _ rfl _ _ 23 rfl W5.heap.size 43 ib _ 7 88 Tryz.underlying23 ib1 ib2 HIB3.out HIB4.out rfl (by decide) u27 j4 (css.take j4).flatten rfl HOQ.out ⟨wq4.heap.size,0,none⟩ 1 1 [.int .i64 x.Id,.int .i64 x.Req.Queue,.int .i64 x.Req.From,.int .i64 x.Req.Until,.int .i64 x.Req.Kind,.slice pa x.Req.Pieces.length pc,.slice (some ⟨vb,vo,none⟩) LB.length vc] rfl rfl HN7.out (by simp [Value.oneCell']) (by omega) (by unfold maxLen;omega) (by omega) HS7.out (wq4.heap.size+1) (by simp) ?_;intro g4 cp4 W8 hown4 hgrow4 hlie4 hlt44;have HX8:Hid (Ext W5 W8):=hid ((HXQ.out.al _).gr hgrow4 (fun r hr=>(HVM.out r hr).1));have k5:W8.cell? ⟨w7.heap.size,3,none⟩=some (.slice (some ⟨gb,0,none⟩) z4 cap):=HX8.out.ce' (by rw [← HZ4.out];exact cell_of_row _ _ 3 _ _ _ HC5.out.box);have HOW4:=hid hown4;clear hown4 hgrow4 hlie4 hlt44)
             | (at_builtin;refine wpList_append_own _ rfl _ _ 23 rfl W5.heap.size 43 ib _ 7 88 Tryz.underlying23 ib1 ib2 HIB3.out HIB4.out rfl (by decide) _ (j4+1) _ rfl HOW4.out ⟨gb,0,none⟩ _ _ (css.drop j4).flatten rfl (by first | exact HDL.out | (rw [HDL.out];omega)) (fun j u hj=>ext_ceA HX8.out (HSRC.out _ (.inr (by omega)) j u hj)) HD1.out (by unfold maxLen;omega) (by omega) HX8.out.size ?_;intro v9 W9 hown9 hgrow9 hnil9;obtain ⟨n9,hn9,hown9⟩:∃ n9,n9=z4+1∧W9.ownsRow W5.heap.size 43 7 v9 n9 ((css.take j4).flatten++[.int .i64 x.Id,.int .i64 x.Req.Queue,.int .i64 x.Req.From,.int .i64 x.Req.Until,.int .i64 x.Req.Kind,.slice pa x.Req.Pieces.length pc,.slice (some ⟨vb,vo,none⟩) LB.length vc]++(css.drop j4).flatten):=⟨_,by omega,hown9⟩;obtain ⟨g9,cp9,rfl⟩:=own_some7 hown9 (by omega);have HN9:=hid hn9;have HX9:Hid (Ext W5 W9):=hid (HX8.out.gr (v:=.slice (some ⟨g4,0,none⟩) (j4+1) cp4) hgrow9 (fun r hr=>by have e1:=own_lt HOW4.out g4 rfl;have e2:=Option.some.inj hr;have e3:g4=r:=e2;omega));have HB9:=hid (blk_ext HC5.out.box HX9.out);have HG9:=hid (own_lt hown9 g9 rfl);have HOW9:=hid hown9;have k9:W9.cell? ⟨w7.heap.size,3,none⟩=some (.slice (some ⟨gb,0,none⟩) z4 cap):=(by rw [← HZ4.out];exact cell_of_row _ _ 3 _ _ _ HB9.out);have f9:=frozen_of_row W9 w7.heap.size 3 _ _ HB9.out;clear hown9 hgrow9 hnil9 hn9))
            all_goals
             have hins:backB L s.Clock b x=b.take j4++⟨x.Id,x.Req,LB⟩::b.drop j4:=by
              rw [HBB.out]
              exact ins_first (x:=⟨x.Id,x.Req,LB⟩) (by rw [HZ4.out];omega) HLE.out (fun y' hy'=>by have h:=(List.getElem?_eq_some_iff.1 hy').1;rw [HZ4.out] at h;omega)
             have hlen:(backB L s.Clock b x).length=n9:=by rw [back_len,HZ4.out,HN9.out]
             have hO9:=HMK.out W9 g9 n9 cp9 j4 [.int .i64 x.Id,.int .i64 x.Req.Queue,.int .i64 x.Req.From,.int .i64 x.Req.Until,.int .i64 x.Req.Kind,.slice pa x.Req.Pieces.length pc,.slice (some ⟨vb,vo,none⟩) LB.length vc] ⟨x.Id,x.Req,LB⟩ HX9.out HG9.out (by omega) HNEW.out.1 HLX.out HNEW.out.2 HEX.out HOW9.out HN9.out
             rw [← hins,← hlen] at hO9
             have hC9:=HC5.out.anew HX9.out HG9.out hO9
             have e:(m++[x.Id]).length=m.length+1:=by simp
             rw [hlen,e] at hC9
             have HC9:=hid hC9
             clear hins hlen hO9 hC9
             go_roundw
             case rel=>exact ⟨_,_,j+1,backB L s.Clock b x,m++[x.Id],d,by go_num,by omega,HC9,HLA2,hid (by rw [e];have:=HMD.out;omega)⟩
             case measure=>simp [intOf];omega
           ·skip
            go_wp2_with fail
            go_quiet (fail)
            have HXQ:=hid (HXI.out.tr ((Ext.rf wr).dn nq))
            have HOQ:=hid ((ownsRow_ext HOW.out ((Ext.rf wr).dn nq)).alloc (.cells #[.int .i64 x.Id,.int .i64 x.Req.Queue,.int .i64 x.Req.From,.int .i64 x.Req.Until,.int .i64 x.Req.Kind,.slice pa x.Req.Pieces.length pc,.slice (some ⟨vb,vo,none⟩) LB.length vc] 43))
            have HN7:=hid (news7 (wr.drewN nq) [.int .i64 x.Id,.int .i64 x.Req.Queue,.int .i64 x.Req.From,.int .i64 x.Req.Until,.int .i64 x.Req.Kind,.slice pa x.Req.Pieces.length pc,.slice (some ⟨vb,vo,none⟩) LB.length vc] 43 rfl)
            have HS7:=hid (show W5.heap.size≤((wr.drewN nq).alloc (.cells #[.int .i64 x.Id,.int .i64 x.Req.Queue,.int .i64 x.Req.From,.int .i64 x.Req.Until,.int .i64 x.Req.Kind,.slice pa x.Req.Pieces.length pc,.slice (some ⟨vb,vo,none⟩) LB.length vc] 43)).heap.size from (HXQ.out.al _).size)
            have HVM:=hid HOW.out.lt
            clear k3 f0 f1 f2 f3 f4 f5 f6
            obtain ⟨f0,f1,f2,f3,f4,f5,f6,_⟩:=bookCells7 (blk_ext HR5.out HXQ.out)
            generalize wr.drewN nq=wq4 at *
            have HSRC:=hid (show ∀ o,(o=j4*7∨z4≤j4)→∀ (j:Nat) v,(css.drop j4).flatten[j]?=some v→W5.cell? ((⟨gb,o,none⟩:Addr).add j)=some v from fun o ho j v hv=>by
             rcases ho with ho | hc
             ·rw [ho,addr7]
              refine HQ5.out _ v ?_
              rw [← flat7_drop css HQ.out.2.1,List.getElem?_drop] at hv
              exact hv
             ·have h0:css.drop j4=[]:=List.drop_eq_nil_of_le (by rw [HQ.out.1];omega)
              rw [h0] at hv
              simp at hv)
            have HDL:=hid (show (css.drop j4).flatten.length=(z4 - j4)*7 from by rw [flat7_len _ (fun cs hm=>HQ.out.2.1 cs (List.mem_of_mem_drop hm)),List.length_drop,HQ.out.1])
            have HD1:=hid (show ∀ v∈(css.drop j4).flatten,v.oneCell'=true from fun v hv=>HQ.out.2.2 v (by
             rw [← flat7_drop css HQ.out.2.1] at hv
             exact List.mem_of_mem_drop hv))
            have hj4I:(j4:Int)≤(z4:Int):=by omega
            go_wp2_with (first
             | (at_builtin;refine wpList_append_lies _ rfl _ _ 23 rfl W5.heap.size 43 ib _ 7 88 Tryz.underlying23 ib1 ib2 HIB3.out HIB4.out rfl (by decide) u27 j4 (css.take j4).flatten rfl HOQ.out ⟨wq4.heap.size,0,none⟩ 1 1 [.int .i64 x.Id,.int .i64 x.Req.Queue,.int .i64 x.Req.From,.int .i64 x.Req.Until,.int .i64 x.Req.Kind,.slice pa x.Req.Pieces.length pc,.slice (some ⟨vb,vo,none⟩) LB.length vc] rfl rfl HN7.out (by simp [Value.oneCell']) (by omega) (by unfold maxLen;omega) (by omega) HS7.out (wq4.heap.size+1) (by simp) ?_;intro g4 cp4 W8 hown4 hgrow4 hlie4 hlt44;have HX8:Hid (Ext W5 W8):=hid ((HXQ.out.al _).gr hgrow4 (fun r hr=>(HVM.out r hr).1));have k5:W8.cell? ⟨w7.heap.size,3,none⟩=some (.slice (some ⟨gb,0,none⟩) z4 cap):=HX8.out.ce' (by rw [← HZ4.out];exact cell_of_row _ _ 3 _ _ _ HC5.out.box);have HOW4:=hid hown4;clear hown4 hgrow4 hlie4 hlt44)
             | (at_builtin;refine wpList_append_own _ rfl _ _ 23 rfl W5.heap.size 43 ib _ 7 88 Tryz.underlying23 ib1 ib2 HIB3.out HIB4.out rfl (by decide) _ (j4+1) _ rfl HOW4.out ⟨gb,j4*7,none⟩ _ _ (css.drop j4).flatten rfl (by first | exact HDL.out | (rw [HDL.out];omega)) (fun j u hj=>ext_ceA HX8.out (HSRC.out _ (.inl rfl) j u hj)) HD1.out (by unfold maxLen;omega) (by omega) HX8.out.size ?_;intro v9 W9 hown9 hgrow9 hnil9;obtain ⟨n9,hn9,hown9⟩:∃ n9,n9=z4+1∧W9.ownsRow W5.heap.size 43 7 v9 n9 ((css.take j4).flatten++[.int .i64 x.Id,.int .i64 x.Req.Queue,.int .i64 x.Req.From,.int .i64 x.Req.Until,.int .i64 x.Req.Kind,.slice pa x.Req.Pieces.length pc,.slice (some ⟨vb,vo,none⟩) LB.length vc]++(css.drop j4).flatten):=⟨_,by omega,hown9⟩;obtain ⟨g9,cp9,rfl⟩:=own_some7 hown9 (by omega);have HN9:=hid hn9;have HX9:Hid (Ext W5 W9):=hid (HX8.out.gr (v:=.slice (some ⟨g4,0,none⟩) (j4+1) cp4) hgrow9 (fun r hr=>by have e1:=own_lt HOW4.out g4 rfl;have e2:=Option.some.inj hr;have e3:g4=r:=e2;omega));have HB9:=hid (blk_ext HC5.out.box HX9.out);have HG9:=hid (own_lt hown9 g9 rfl);have HOW9:=hid hown9;have k9:W9.cell? ⟨w7.heap.size,3,none⟩=some (.slice (some ⟨gb,0,none⟩) z4 cap):=(by rw [← HZ4.out];exact cell_of_row _ _ 3 _ _ _ HB9.out);have f9:=frozen_of_row W9 w7.heap.size 3 _ _ HB9.out;clear hown9 hgrow9 hnil9 hn9))
            all_goals
             have hins:backB L s.Clock b x=b.take j4++⟨x.Id,x.Req,LB⟩::b.drop j4:=by
              rw [HBB.out]
              exact ins_first (x:=⟨x.Id,x.Req,LB⟩) (by rw [HZ4.out];omega) HLE.out (fun y' hy'=>by have h:=(List.getElem?_eq_some_iff.1 hy').1;rw [HZ4.out] at h;omega)
             have hlen:(backB L s.Clock b x).length=n9:=by rw [back_len,HZ4.out,HN9.out]
             have hO9:=HMK.out W9 g9 n9 cp9 j4 [.int .i64 x.Id,.int .i64 x.Req.Queue,.int .i64 x.Req.From,.int .i64 x.Req.Until,.int .i64 x.Req.Kind,.slice pa x.Req.Pieces.length pc,.slice (some ⟨vb,vo,none⟩) LB.length vc] ⟨x.Id,x.Req,LB⟩ HX9.out HG9.out (by omega) HNEW.out.1 HLX.out HNEW.out.2 HEX.out HOW9.out HN9.out
             rw [← hins,← hlen] at hO9
             have hC9:=HC5.out.anew HX9.out HG9.out hO9
             have e:(m++[x.Id]).length=m.length+1:=by simp
             rw [hlen,e] at hC9
             have HC9:=hid hC9
             clear hins hlen hO9 hC9
             go_roundw
             case rel=>exact ⟨_,_,j+1,backB L s.Clock b x,m++[x.Id],d,by go_num,by omega,HC9,HLA2,hid (by rw [e];have:=HMD.out;omega)⟩
             case measure=>simp [intOf];omega
     ·obtain rfl:j=al:=by omega
      have hgo:=HLA.out.go
      rw [List.drop_of_length_le (by rw [HAL.out];exact Nat.le_refl _)] at hgo
      have hEe:endB s k f=(b,m,d):=HRE.out.trans hgo.symm
      have HB11:=hid (HLN2.out▸HC.out.box)
      have e0:wr.cell? ⟨w7.heap.size,0,none⟩=some (.int .i64 s.Clock):=cell_of_row _ _ 0 _ _ _ HB11.out
      have e1:wr.cell? ⟨w7.heap.size,1,none⟩=some (.int .i64 s.Next):=cell_of_row _ _ 1 _ _ _ HB11.out
      have e2:wr.cell? ⟨w7.heap.size,2,none⟩=some (.slice (some ⟨gq,0,none⟩) n qc):=cell_of_row _ _ 2 _ _ _ HB11.out
      have e3:wr.cell? ⟨w7.heap.size,3,none⟩=some (.slice (some ⟨gb,0,none⟩) b.length cap):=cell_of_row _ _ 3 _ _ _ HB11.out
      have HZ:=hid (HZ0.out _ HC.out.ext)
      have HO11:=hid (HC.out.own)
      have EI:=hid (end_is (q:=k) H0.out H2.out)
      have hids:∀ y∈m++d,I64 y:=fun y hy=>by
       have hp:=EI.out.perm
       rw [hEe] at hp
       obtain ⟨z',hz',rfl⟩:=List.mem_map.1 (hp.subset hy)
       obtain ⟨_,q1,q2⟩:=HAB.out z' (by rw [← HAE.out];exact (sortB_perm _).symm.subset hz')
       have:=HNX.out
       unfold I64;omega
      have HEND:=hid (show StS w.heap.size (wr.setRow (w.heap.size+1) #[.int .i64 s.Clock,.int .i64 s.Next,.slice (some ⟨gq,0,none⟩) n qc,.slice (some ⟨gb,0,none⟩) b.length cap]) (.slice (some ⟨gq,0,none⟩) n qc) (.slice (some ⟨gb,0,none⟩) b.length cap) (cutS s k f) from .inl (by
       have h:=(((HO11.out.under (r:=w.heap.size+1) (by have:=HSB.out;omega)).kept (grown_srow wr (w.heap.size+1) #[.int .i64 s.Clock,.int .i64 s.Next,.slice (some ⟨gq,0,none⟩) n qc,.slice (some ⟨gb,0,none⟩) b.length cap]) (List.mem_cons_self ..)).low (ex2:=[]) (B2:=w.heap.size) HX0.out.size (fun r hr=>by cases hr))
       have e:(cutS s k f).Books=b:=by show (endB s k f).1=b;rw [hEe]
       have e':(cutS s k f).Tree=L:=HLL.out
       rw [e,e']
       rw [HLN2.out] at h
       exact h))
      have HX12:=hid ((HX0.out.tr HC.out.ext).sr (b:=w.heap.size+1) (by omega) #[.int .i64 s.Clock,.int .i64 s.Next,.slice (some ⟨gq,0,none⟩) n qc,.slice (some ⟨gb,0,none⟩) b.length cap])
      have HR12:=hid (setRow_heap wr (w.heap.size+1) _ #[.int .i64 s.Clock,.int .i64 s.Next,.slice (some ⟨gq,0,none⟩) n qc,.slice (some ⟨gb,0,none⟩) b.length cap] _ _ HZ.out)
      have HRR:=hid (show cr=(cutS s k f,m,d,0) from by rw [HR.out,hEe])
      have hsz:=HSB.out
      have HIM:=hid (ints_of_ownsI (ownsRow_keptR HC.out.mrow (grown_srow wr (w.heap.size+1) #[.int .i64 s.Clock,.int .i64 s.Next,.slice (some ⟨gq,0,none⟩) n qc,.slice (some ⟨gb,0,none⟩) b.length cap]) (fun r hr e=>by have:=(HC.out.mrow.lt r hr).1;have:=Option.some.inj e;omega)) (fun y hy=>hids y (List.mem_append_left _ hy)) (by have:=HMD.out;omega))
      have HID:=hid (ints_of_ownsI (ownsRow_keptR HC.out.drow (grown_srow wr (w.heap.size+1) #[.int .i64 s.Clock,.int .i64 s.Next,.slice (some ⟨gq,0,none⟩) n qc,.slice (some ⟨gb,0,none⟩) b.length cap]) (fun r hr e=>by have:=(HC.out.drow.lt r hr).1;have:=Option.some.inj e;omega)) (fun y hy=>hids y (List.mem_append_right _ hy)) (by have:=HMD.out;omega))
      clear hgo hEe hids hsz
      go_wp2_with (refine wpList_store_row rfl 25 _ _ rfl (w.heap.size+1) #[.int .i64 s.Clock,.int .i64 s.Next,.slice (some ⟨gq,0,none⟩) n qc,.slice (some ⟨gb,0,none⟩) b.length cap] rfl rfl 25 _ HZ.out Tryz.size25 rfl (by simp [Value.oneCell']) ?_)
      exact bodyPost_ret (results_row_three (u1:=7) (u2:=8) (u3:=9) rfl _ _ (w.heap.size+1) 25 #[.int .i64 s.Clock,.int .i64 s.Next,.slice (some ⟨gq,0,none⟩) n qc,.slice (some ⟨gb,0,none⟩) b.length cap] (0,0) _ rfl HR12.out Tryz.underlying25 rfl Tryz.size25) rfl (retChange_of (s:=cutS s k f) HRR.out HEND.out HIM.out HID.out HX12.out)
   ·obtain ⟨t,q,ho⟩:=over_some hf
    obtain ⟨x,hx,hh⟩:=over_hit HOKT.out hbok ho
    rw [tooR_is ho] at HT
    have HHO:=hid ho
    have HHX:=hid hx
    clear hf ho hx hh
    go_wp2_with fail
    refine HT.out.mono ?_
    rintro e w12 ⟨rfl,hx12⟩
    clear k0 k2 k3
    have HA2:=hid (HA.out.later hx12)
    have VI:=hid (victimRef_any w12 s.Clock s.Next _ _ L b t q HA2.out.own.tree HA2.out.own.books HOKT.out hbok hb12)
    have k0:w12.cell? ⟨w7.heap.size,0,none⟩=some (.int .i64 s.Clock):=cell_of_row _ _ 0 _ _ _ HA2.out.box
    have k1:w12.cell? ⟨w7.heap.size,1,none⟩=some (.int .i64 s.Next):=cell_of_row _ _ 1 _ _ _ HA2.out.box
    have k2:w12.cell? ⟨w7.heap.size,2,none⟩=some (.slice (some ⟨gq,0,none⟩) L.length qc):=cell_of_row _ _ 2 _ _ _ HA2.out.box
    have k3:w12.cell? ⟨w7.heap.size,3,none⟩=some (.slice (some ⟨gb,0,none⟩) b.length cap):=cell_of_row _ _ 3 _ _ _ HA2.out.box
    clear hx12 HT
    go_wp2_with fail
    refine VI.out.mono ?_
    rintro e w13 ⟨rfl,hx13⟩
    clear k0 k1 k2 k3
    have HA3:=hid (HA2.out.later hx13)
    have HRS:=hid (HRL.out.step HHO.out HHX.out)
    have HKL:=hid (List.getElem?_eq_some_iff.1 HHX.out).1
    clear hx13 VI HA2
    have HBL:=hid (boxLen_of HA.out)
    generalize vicK L b t q=kv at *
    have HA12:=hid (show a.length+1≤12 from by have h1:=HRL.out.perm.length_eq;rw [List.length_append] at h1;have:=HN12.out;have:=HKL.out;omega)
    obtain ⟨A,hA⟩:∃ A,sortB a=A:=⟨_,rfl⟩
    have HAE:=hid hA
    rw [hA] at HA3
    have HAL:=hid (show A.length=a.length from hA▸(sortB_perm a).length_eq)
    obtain ⟨al,hal⟩:∃ al,A.length=al:=⟨_,rfl⟩
    have HAL2:=hid hal
    have hal12:al+1≤12:=by have:=HAL.out;have:=HA12.out;omega
    clear HA hA hal
    obtain ⟨css,o1,o2,o3,_⟩:=HA3.out.away
    obtain ⟨pv,bv,⟨c0,c1,c2,c3,c4,c5,c6⟩,hpx,hbx,hbkc,hlx,hap⟩:=HA3.out.own.take1 rfl HHX.out
    obtain ⟨pa,pc,hpf,_⟩:=hpx.form
    obtain ⟨ba',bc',hbf,_⟩:=hbx.form
    subst hpf hbf
    have k3:w13.cell? ⟨w7.heap.size,3,none⟩=some (.slice (some ⟨gb,0,none⟩) b.length cap):=cell_of_row _ _ 3 _ _ _ HA3.out.box
    have HOWN:=hid (own_one7 w13 [.int .i64 x.Id,.int .i64 x.Req.Queue,.int .i64 x.Req.From,.int .i64 x.Req.Until,.int .i64 x.Req.Kind,.slice pa x.Req.Pieces.length pc,.slice ba' x.Bites.length bc'] rfl)
    have HROW:=hid (ownsRow_ext o1 ((Ext.rf w13).al (.cells #[.int .i64 x.Id,.int .i64 x.Req.Queue,.int .i64 x.Req.From,.int .i64 x.Req.Until,.int .i64 x.Req.Kind,.slice pa x.Req.Pieces.length pc,.slice ba' x.Bites.length bc'] 43)))
    have HOLD:=hid (And.intro o2 o3)
    have HXX:=hid (And.intro hbkc (And.intro hlx hap))
    have HS13:=hid (show wb.heap.size≤w13.heap.size from HA3.out.ext.size)
    have hkz:kv < b.length:=HKL.out
    have hkz2:(kv:Int) < (b.length:Int):=by omega
    have hk0:(0:Int)≤(kv:Int):=by omega
    clear o1 o2 o3 hpx hbx hbkc hlx hap
    rw [HAL2.out] at HROW
    go_wp2_with (at_builtin;refine wpList_append_any rfl _ _ 23 rfl w13.heap.size 43 ib _ 7 88 Tryz.underlying23 ib1 ib2 HIB3.out HIB4.out rfl (by decide) w13.heap.size 1 1 _ rfl HOWN.out (Nat.le_refl _) u12 wb.heap.size al css.flatten rfl HROW.out HOLD.out.1.one (by unfold maxLen;omega) (by omega) (by simp) ?_;intro v2 w14 hown2 hgrow2)
    obtain ⟨N,hN⟩:∃ N,1+al=N:=⟨_,rfl⟩
    rw [hN] at hown2
    obtain ⟨g2,cap2,rfl⟩:=own_some7 hown2 (by omega)
    have hg2:=own_lt hown2 g2 rfl
    have hx14:Ext w13 w14:=((Ext.rf w13).al _).gr (v:=.slice (some ⟨w13.heap.size,0,none⟩) 1 1) hgrow2 (fun r hr=>by have e:=Option.some.inj hr;have e2:w13.heap.size=r:=e;omega)
    have hA4:=HA3.out.pre HOLD.out.1 HOLD.out.2 HXX.out.1 HXX.out.2.1 HXX.out.2.2 hx14 hg2 hown2 (by rw [HAL2.out];omega)
    have HNN:=hid hN
    have HA4:Hid (AwayIn wb w7.heap.size gq qc gb cap s.Clock s.Next L b (A.take 0++x::A.drop 0) (.slice (some ⟨g2,0,none⟩) N cap2) w14):=hid hA4
    have HLX:=hid HXX.out.2.1
    have hxid:=(bookC_parts HXX.out.1).2.2.2
    have HXI:=hid hxid
    clear hown2 hgrow2 hx14 hA4 hg2 hN HA3 HOWN HROW HOLD HXX k3 c0 c1 c2 c3 c4 c5 c6 hxid
    go_wp2_with fail
    go_loopw [17] (fun i wi=>∃ j:Nat,i=.int .i64 j∧j≤al∧Hid (AwayIn wb w7.heap.size gq qc gb cap s.Clock s.Next L b (A.take j++x::A.drop j) (.slice (some ⟨g2,0,none⟩) N cap2) wi)∧Hid (∀ (i:Nat) (y:Book),i < j→A[i]?=some y→y.Id < x.Id)) (fun i _=>al - (intOf i).toNat)
    case atStart=>exact ⟨0,rfl,Nat.zero_le _,HA4,hid (fun i y h=>by omega)⟩
    case round =>
     obtain ⟨j,rfl,hj,HAJ,HLE⟩:=hrel
     by_cases hlt:j < al
     ·obtain ⟨y,hy⟩:=getA (f:=A) (k:=j) (by rw [HAL2.out];exact hlt)
      obtain ⟨hj1,hj2⟩:=mid_at (x:=x) (show j≤A.length by rw [HAL2.out];omega) hy
      obtain ⟨pv1,bv1,⟨c0,c1,c2,c3,c4,c5,c6⟩,hb1,ha1,ht1⟩:=HAJ.out.away.at hj1
      obtain ⟨pv2,bv2,⟨d0,d1,d2,d3,d4,d5,d6⟩,hb2,ha2,ht2⟩:=HAJ.out.away.at hj2
      obtain ⟨pa1,pc1,hf1,_⟩:=(bookC_parts hb1).1.form
      obtain ⟨ba1,bc1,hf2,_⟩:=(bookC_parts hb1).2.1.form
      obtain ⟨pa2,pc2,hf3,_⟩:=(bookC_parts hb2).1.form
      obtain ⟨ba2,bc2,hf4,_⟩:=(bookC_parts hb2).2.1.form
      subst hf1 hf2 hf3 hf4
      have HY:=hid hy
      have H1:=hid (And.intro hb1 ha1)
      have H22:=hid (And.intro hb2 ha2)
      have HT1:=hid ht1
      have HT2:=hid ht2
      have hjn:j+1 < N:=by have:=HNN.out;omega
      have hjm:(j:Int)+1 < (N:Int):=by omega
      have hjt2:=deT hjn
      have hjN:j < N:=by omega
      have hjNI:(j:Int) < (N:Int):=by omega
      have hj01:(0:Int)≤(j:Int)+1:=by omega
      have hj0:(0:Int)≤(j:Int):=by omega
      have hwj:IntKind.i64.wrap ((j:Int)+1)=(j:Int)+1:=by rw [IntKind.wrap_i64];omega
      have hjt:=deT hjm
      have HJ:=hid (And.intro hj1 hj2)
      clear hb1 ha1 hb2 ha2 ht1 ht2 hj1 hj2 hy
      by_cases hl:y.Id < x.Id
      ·have hlt1:=deT hl
       go_wp2_with fail
       go_quiet (fail)
       go_wp2_with fail
       have HAQ:=hid (HAJ.out.later ((Ext.rf wr).dn nq))
       have HS14:=hid (show ∀ W,Ext (wr.drewN nq) W→W.cell? ⟨g2,j*7,none⟩=some (.int .i64 x.Id)∧W.cell? ⟨g2,j*7+1,none⟩=some (.int .i64 x.Req.Queue)∧W.cell? ⟨g2,j*7+2,none⟩=some (.int .i64 x.Req.From)∧W.cell? ⟨g2,j*7+3,none⟩=some (.int .i64 x.Req.Until)∧W.cell? ⟨g2,j*7+4,none⟩=some (.int .i64 x.Req.Kind)∧W.cell? ⟨g2,j*7+5,none⟩=some (.slice pa1 x.Req.Pieces.length pc1)∧W.cell? ⟨g2,j*7+6,none⟩=some (.slice ba1 x.Bites.length bc1)∧W.cell? ⟨g2,(j+1)*7,none⟩=some (.int .i64 y.Id)∧W.cell? ⟨g2,(j+1)*7+1,none⟩=some (.int .i64 y.Req.Queue)∧W.cell? ⟨g2,(j+1)*7+2,none⟩=some (.int .i64 y.Req.From)∧W.cell? ⟨g2,(j+1)*7+3,none⟩=some (.int .i64 y.Req.Until)∧W.cell? ⟨g2,(j+1)*7+4,none⟩=some (.int .i64 y.Req.Kind)∧W.cell? ⟨g2,(j+1)*7+5,none⟩=some (.slice pa2 y.Req.Pieces.length pc2)∧W.cell? ⟨g2,(j+1)*7+6,none⟩=some (.slice ba2 y.Bites.length bc2) from fun W hW=>⟨hW.ce' (((Ext.rf wr).dn nq).ce' c0),hW.ce' (((Ext.rf wr).dn nq).ce' c1),hW.ce' (((Ext.rf wr).dn nq).ce' c2),hW.ce' (((Ext.rf wr).dn nq).ce' c3),hW.ce' (((Ext.rf wr).dn nq).ce' c4),hW.ce' (((Ext.rf wr).dn nq).ce' c5),hW.ce' (((Ext.rf wr).dn nq).ce' c6),hW.ce' (((Ext.rf wr).dn nq).ce' d0),hW.ce' (((Ext.rf wr).dn nq).ce' d1),hW.ce' (((Ext.rf wr).dn nq).ce' d2),hW.ce' (((Ext.rf wr).dn nq).ce' d3),hW.ce' (((Ext.rf wr).dn nq).ce' d4),hW.ce' (((Ext.rf wr).dn nq).ce' d5),hW.ce' (((Ext.rf wr).dn nq).ce' d6)⟩)
       have HB1:=hid (H1.out.1.mono ((Ext.rf wr).dn nq))
       have HB2:=hid (H22.out.1.mono ((Ext.rf wr).dn nq))
       generalize wr.drewN nq=wq at *
       go_cut [18,19] from 82 to 120 (fun p1 p2 W=>∃ (B1 B2:Nat),p1=.pointer (some ⟨B1,0,none⟩)∧p2=.pointer (some ⟨B2,0,none⟩)∧Hid (W.heap[B1]?=some (.cells #[.int .i64 x.Id,.int .i64 x.Req.Queue,.int .i64 x.Req.From,.int .i64 x.Req.Until,.int .i64 x.Req.Kind,.slice pa1 x.Req.Pieces.length pc1,.slice ba1 x.Bites.length bc1] 43 (0,0)))∧Hid (W.heap[B2]?=some (.cells #[.int .i64 y.Id,.int .i64 y.Req.Queue,.int .i64 y.Req.From,.int .i64 y.Req.Until,.int .i64 y.Req.Kind,.slice pa2 y.Req.Pieces.length pc2,.slice ba2 y.Bites.length bc2] 43 (0,0)))∧wq.heap.size≤B1∧wq.heap.size≤B2∧Ext wq W)
       case first =>
        refine wp_region_held_drew (S:=fun W=>W.cell? ⟨g2,j*7,none⟩=some (.int .i64 x.Id)∧W.cell? ⟨g2,j*7+1,none⟩=some (.int .i64 x.Req.Queue)∧W.cell? ⟨g2,j*7+2,none⟩=some (.int .i64 x.Req.From)∧W.cell? ⟨g2,j*7+3,none⟩=some (.int .i64 x.Req.Until)∧W.cell? ⟨g2,j*7+4,none⟩=some (.int .i64 x.Req.Kind)∧W.cell? ⟨g2,j*7+5,none⟩=some (.slice pa1 x.Req.Pieces.length pc1)∧W.cell? ⟨g2,j*7+6,none⟩=some (.slice ba1 x.Bites.length bc1)∧W.cell? ⟨g2,(j+1)*7,none⟩=some (.int .i64 y.Id)∧W.cell? ⟨g2,(j+1)*7+1,none⟩=some (.int .i64 y.Req.Queue)∧W.cell? ⟨g2,(j+1)*7+2,none⟩=some (.int .i64 y.Req.From)∧W.cell? ⟨g2,(j+1)*7+3,none⟩=some (.int .i64 y.Req.Until)∧W.cell? ⟨g2,(j+1)*7+4,none⟩=some (.int .i64 y.Req.Kind)∧W.cell? ⟨g2,(j+1)*7+5,none⟩=some (.slice pa2 y.Req.Pieces.length pc2)∧W.cell? ⟨g2,(j+1)*7+6,none⟩=some (.slice ba2 y.Bites.length bc2)) (by kernel_rfl) (HS14.out _ (Ext.rf wq).dr) (fun hHeld=>?_)
        clear c0 c1 c2 c3 c4 c5 c6 d0 d1 d2 d3 d4 d5 d6
        refine wpAnyH_take (i:=0) (v:=?_) rfl (by kernel_rfl) (by kernel_rfl) (by kernel_rfl) (fun _ _ _ h=>h) (Or.inl ⟨by rfl,?_⟩) (by assumption) ?_
        rotate_left
        ·intro W hSW
         simp only [zA,zB]
         (try dsimp only at hSW)
         go_simp
         (try with_reducible rfl)
        simp only [zA,zB,Act.put,zD,zE,zF]
        refine wpAnyH_take (i:=1) (v:=?_) rfl (by kernel_rfl) (by kernel_rfl) (by kernel_rfl) (fun _ _ _ h=>h) (Or.inl ⟨by rfl,?_⟩) (by assumption) ?_
        rotate_left
        ·intro W hSW
         simp only [zA,zB,zC]
         (try dsimp only at hSW)
         go_simp
         (try with_reducible rfl)
        simp only [zA,zB,zC,Act.put,zD,zE,zF]
        refine wpAnyH_take (i:=2) (v:=?_) rfl (by kernel_rfl) (by kernel_rfl) (by kernel_rfl) (fun _ _ _ h=>h) (Or.inl ⟨by rfl,?_⟩) (by assumption) ?_
        rotate_left
        ·intro W hSW
         simp only [zA,zB,zC]
         (try dsimp only at hSW)
         go_simp
         (try with_reducible rfl)
        simp only [zA,zB,zC,Act.put,zD,zE,zF]
        refine wpAnyH_take (i:=3) (v:=?_) rfl (by kernel_rfl) (by kernel_rfl) (by kernel_rfl) (fun _ _ _ h=>h) (Or.inl ⟨by rfl,?_⟩) (by assumption) ?_
        rotate_left
        ·intro W hSW
         simp only [zA,zB,zC]
         (try dsimp only at hSW)
         go_simp
         (try with_reducible rfl)
        simp only [zA,zB,zC,Act.put,zD,zE,zF]
        refine wpAnyH_take (i:=4) (v:=?_) rfl (by kernel_rfl) (by kernel_rfl) (by kernel_rfl) (fun _ _ _ h=>h) (Or.inl ⟨by rfl,?_⟩) (by assumption) ?_
        rotate_left
        ·intro W hSW
         simp only [zA,zB,zC]
         (try dsimp only at hSW)
         go_simp
         (try with_reducible rfl)
        simp only [zA,zB,zC,Act.put,zD,zE,zF]
        refine wpAnyH_take (i:=5) (v:=?_) rfl (by kernel_rfl) (by kernel_rfl) (by kernel_rfl) (fun _ _ _ h=>h) (Or.inl ⟨by rfl,?_⟩) (by assumption) ?_
        rotate_left
        ·intro W hSW
         simp only [zA,zB,zC]
         (try dsimp only at hSW)
         go_simp
         (try with_reducible rfl)
        simp only [zA,zB,zC,Act.put,zD,zE,zF]
        refine wpAnyH_take (i:=6) (v:=?_) rfl (by kernel_rfl) (by kernel_rfl) (by kernel_rfl) (fun _ _ _ h=>h) (Or.inl ⟨by rfl,?_⟩) (by assumption) ?_
        rotate_left
        ·intro W hSW
         simp only [zA,zB,zC]
         (try dsimp only at hSW)
         go_simp
         (try with_reducible rfl)
        simp only [zA,zB,zC,Act.put,zD,zE,zF]
        refine wpAnyH_take (i:=7) (v:=?_) rfl (by kernel_rfl) (by kernel_rfl) (by kernel_rfl) (fun _ _ _ h=>h) (Or.inl ⟨by rfl,?_⟩) (by assumption) ?_
        rotate_left
        ·intro W hSW
         simp only [zA,zB,zC]
         (try dsimp only at hSW)
         go_simp
         (try with_reducible rfl)
        simp only [zA,zB,zC,Act.put,zD,zE,zF]
        refine wpAnyH_take (i:=8) (v:=?_) rfl (by kernel_rfl) (by kernel_rfl) (by kernel_rfl) (fun _ _ _ h=>h) (Or.inl ⟨by rfl,?_⟩) (by assumption) ?_
        rotate_left
        ·intro W hSW
         simp only [zA,zB,zC]
         (try dsimp only at hSW)
         go_simp
         (try with_reducible rfl)
        simp only [zA,zB,zC,Act.put,zD,zE,zF]
        refine wpAnyH_ready (rs:=[9,10]) (by kernel_rfl) (by simp) ?_
        refine AllReadyH.cons rfl (fun K hK=>?_) (AllReadyH.cons rfl (fun K hK=>?_) AllReadyH.nil)
        all_goals simp only [zA,zB,zC]
        ·go_simp
         obtain ⟨Wa,hWa⟩:∃ Wa,(wq.alloc (.cells #[.int .i64 0,.int .i64 0,.int .i64 0,.int .i64 0,.int .i64 0,.slice none 0 0,.slice none 0 0] 43)).drew=Wa:=⟨_,rfl⟩
         rw [hWa]
         have hxa:Ext wq Wa:=hWa▸((Ext.rf wq).al _).dr
         have hra:Wa.heap[wq.heap.size]?=some (.cells #[.int .i64 0,.int .i64 0,.int .i64 0,.int .i64 0,.int .i64 0,.slice none 0 0,.slice none 0 0] 43 (0,0)):=hWa▸heap_alloc_new wq _
         have hsa:Wa.heap.size=wq.heap.size+1:=by rw [← hWa];exact World.size_alloc ..
         refine hK.out _ _ ?_ (fun hHeld=>?_)
         ·(exact HS14.out _ hxa)
         clear hK K
         refine wpAnyH_ready (rs:=[10]) (by kernel_rfl) (by simp) ?_
         refine AllReadyH.cons rfl (fun K hK=>?_) AllReadyH.nil
         simp only [zA,zB,zC]
         go_simp
         obtain ⟨Wb,hWb⟩:∃ Wb,Wa.alloc (.cells #[.int .i64 0,.int .i64 0,.int .i64 0,.int .i64 0,.int .i64 0,.slice none 0 0,.slice none 0 0] 43)=Wb:=⟨_,rfl⟩
         rw [hWb]
         have hxb:Ext wq Wb:=hWb▸hxa.al _
         have hr1:Wb.heap[wq.heap.size]?=some (.cells #[.int .i64 0,.int .i64 0,.int .i64 0,.int .i64 0,.int .i64 0,.slice none 0 0,.slice none 0 0] 43 (0,0)):=blk_ext hra (hWb▸(Ext.rf Wa).al _)
         have hr2:Wb.heap[wq.heap.size+1]?=some (.cells #[.int .i64 0,.int .i64 0,.int .i64 0,.int .i64 0,.int .i64 0,.slice none 0 0,.slice none 0 0] 43 (0,0)):=by rw [← hsa,← hWb];exact heap_alloc_new Wa _
         refine hK.out _ _ ?_ (fun hHeld=>?_)
         ·(exact HS14.out _ hxb)
         clear hK K
         refine wpAnyH_ready (rs:=[11]) (by kernel_rfl) (by simp) ?_
         refine AllReadyH.cons rfl (fun K hK=>?_) AllReadyH.nil
         simp only [zA,zB,zC]
         rw [if_pos (by rfl)]
         refine wp_store_row 43 _ _ rfl (wq.heap.size) #[.int .i64 x.Id,.int .i64 x.Req.Queue,.int .i64 x.Req.From,.int .i64 x.Req.Until,.int .i64 x.Req.Kind,.slice pa1 x.Req.Pieces.length pc1,.slice ba1 x.Bites.length bc1] rfl rfl 43 _ hr1 Tryz.size43 rfl (by simp [Value.oneCell']) ?_
         obtain ⟨Wc,hWc⟩:∃ Wc,Wb.setRow (wq.heap.size) #[.int .i64 x.Id,.int .i64 x.Req.Queue,.int .i64 x.Req.From,.int .i64 x.Req.Until,.int .i64 x.Req.Kind,.slice pa1 x.Req.Pieces.length pc1,.slice ba1 x.Bites.length bc1]=Wc:=⟨_,rfl⟩
         rw [hWc]
         have hxc:Ext wq Wc:=hWc▸hxb.sr (b:=wq.heap.size) (by omega) _
         have hs1:Wc.heap[wq.heap.size]?=some (.cells #[.int .i64 x.Id,.int .i64 x.Req.Queue,.int .i64 x.Req.From,.int .i64 x.Req.Until,.int .i64 x.Req.Kind,.slice pa1 x.Req.Pieces.length pc1,.slice ba1 x.Bites.length bc1] 43 (0,0)):=hWc▸setRow_heap Wb (wq.heap.size) _ _ _ _ hr1
         have hs2:Wc.heap[wq.heap.size+1]?=some (.cells #[.int .i64 0,.int .i64 0,.int .i64 0,.int .i64 0,.int .i64 0,.slice none 0 0,.slice none 0 0] 43 (0,0)):=((hWc▸grown_srow Wb (wq.heap.size) #[.int .i64 x.Id,.int .i64 x.Req.Queue,.int .i64 x.Req.From,.int .i64 x.Req.Until,.int .i64 x.Req.Kind,.slice pa1 x.Req.Pieces.length pc1,.slice ba1 x.Bites.length bc1]:Wb.grownBy Wc (some (wq.heap.size))).block (wq.heap.size+1) (Array.getElem?_eq_some_iff.1 hr2).1 (fun e=>by have:=Option.some.inj e;omega)).trans hr2
         refine hK.out _ _ ?_ (fun hHeld=>?_)
         ·(exact HS14.out _ hxc)
         clear hK K
         refine wpAnyH_ready (rs:=[12]) (by kernel_rfl) (by simp) ?_
         refine AllReadyH.cons rfl (fun K hK=>?_) AllReadyH.nil
         simp only [zA,zB,zC]
         rw [if_pos (by rfl)]
         refine wp_store_row 43 _ _ rfl (wq.heap.size+1) #[.int .i64 y.Id,.int .i64 y.Req.Queue,.int .i64 y.Req.From,.int .i64 y.Req.Until,.int .i64 y.Req.Kind,.slice pa2 y.Req.Pieces.length pc2,.slice ba2 y.Bites.length bc2] rfl rfl 43 _ hs2 Tryz.size43 rfl (by simp [Value.oneCell']) ?_
         obtain ⟨Wd,hWd⟩:∃ Wd,Wc.setRow (wq.heap.size+1) #[.int .i64 y.Id,.int .i64 y.Req.Queue,.int .i64 y.Req.From,.int .i64 y.Req.Until,.int .i64 y.Req.Kind,.slice pa2 y.Req.Pieces.length pc2,.slice ba2 y.Bites.length bc2]=Wd:=⟨_,rfl⟩
         rw [hWd]
         have hxd:Ext wq Wd:=hWd▸hxc.sr (b:=wq.heap.size+1) (by omega) _
         have ht1:Wd.heap[wq.heap.size+1]?=some (.cells #[.int .i64 y.Id,.int .i64 y.Req.Queue,.int .i64 y.Req.From,.int .i64 y.Req.Until,.int .i64 y.Req.Kind,.slice pa2 y.Req.Pieces.length pc2,.slice ba2 y.Bites.length bc2] 43 (0,0)):=hWd▸setRow_heap Wc (wq.heap.size+1) _ _ _ _ hs2
         have ht2:Wd.heap[wq.heap.size]?=some (.cells #[.int .i64 x.Id,.int .i64 x.Req.Queue,.int .i64 x.Req.From,.int .i64 x.Req.Until,.int .i64 x.Req.Kind,.slice pa1 x.Req.Pieces.length pc1,.slice ba1 x.Bites.length bc1] 43 (0,0)):=((hWd▸grown_srow Wc (wq.heap.size+1) #[.int .i64 y.Id,.int .i64 y.Req.Queue,.int .i64 y.Req.From,.int .i64 y.Req.Until,.int .i64 y.Req.Kind,.slice pa2 y.Req.Pieces.length pc2,.slice ba2 y.Bites.length bc2]:Wc.grownBy Wd (some (wq.heap.size+1))).block (wq.heap.size) (Array.getElem?_eq_some_iff.1 hs1).1 (fun e=>by have:=Option.some.inj e;omega)).trans hs1
         refine hK.out _ _ ?_ (fun hHeld=>?_)
         ·(exact HS14.out _ hxd)
         clear hK K
         refine wpAnyH_done (by kernel_rfl) ?_ _
         go_wp2_with fail
         go_meet
         case rel=>exact ⟨_,_,rfl,rfl,hid ht2,hid ht1,by omega,by omega,hxd⟩
        ·go_simp
         obtain ⟨Wa,hWa⟩:∃ Wa,(wq.alloc (.cells #[.int .i64 0,.int .i64 0,.int .i64 0,.int .i64 0,.int .i64 0,.slice none 0 0,.slice none 0 0] 43)).drew=Wa:=⟨_,rfl⟩
         rw [hWa]
         have hxa:Ext wq Wa:=hWa▸((Ext.rf wq).al _).dr
         have hra:Wa.heap[wq.heap.size]?=some (.cells #[.int .i64 0,.int .i64 0,.int .i64 0,.int .i64 0,.int .i64 0,.slice none 0 0,.slice none 0 0] 43 (0,0)):=hWa▸heap_alloc_new wq _
         have hsa:Wa.heap.size=wq.heap.size+1:=by rw [← hWa];exact World.size_alloc ..
         refine hK.out _ _ ?_ (fun hHeld=>?_)
         ·(exact HS14.out _ hxa)
         clear hK K
         refine wpAnyH_ready (rs:=[9]) (by kernel_rfl) (by simp) ?_
         refine AllReadyH.cons rfl (fun K hK=>?_) AllReadyH.nil
         simp only [zA,zB,zC]
         go_simp
         obtain ⟨Wb,hWb⟩:∃ Wb,Wa.alloc (.cells #[.int .i64 0,.int .i64 0,.int .i64 0,.int .i64 0,.int .i64 0,.slice none 0 0,.slice none 0 0] 43)=Wb:=⟨_,rfl⟩
         rw [hWb]
         have hxb:Ext wq Wb:=hWb▸hxa.al _
         have hr1:Wb.heap[wq.heap.size]?=some (.cells #[.int .i64 0,.int .i64 0,.int .i64 0,.int .i64 0,.int .i64 0,.slice none 0 0,.slice none 0 0] 43 (0,0)):=blk_ext hra (hWb▸(Ext.rf Wa).al _)
         have hr2:Wb.heap[wq.heap.size+1]?=some (.cells #[.int .i64 0,.int .i64 0,.int .i64 0,.int .i64 0,.int .i64 0,.slice none 0 0,.slice none 0 0] 43 (0,0)):=by rw [← hsa,← hWb];exact heap_alloc_new Wa _
         refine hK.out _ _ ?_ (fun hHeld=>?_)
         ·(exact HS14.out _ hxb)
         clear hK K
         refine wpAnyH_ready (rs:=[11]) (by kernel_rfl) (by simp) ?_
         refine AllReadyH.cons rfl (fun K hK=>?_) AllReadyH.nil
         simp only [zA,zB,zC]
         rw [if_pos (by rfl)]
         refine wp_store_row 43 _ _ rfl (wq.heap.size+1) #[.int .i64 x.Id,.int .i64 x.Req.Queue,.int .i64 x.Req.From,.int .i64 x.Req.Until,.int .i64 x.Req.Kind,.slice pa1 x.Req.Pieces.length pc1,.slice ba1 x.Bites.length bc1] rfl rfl 43 _ hr2 Tryz.size43 rfl (by simp [Value.oneCell']) ?_
         obtain ⟨Wc,hWc⟩:∃ Wc,Wb.setRow (wq.heap.size+1) #[.int .i64 x.Id,.int .i64 x.Req.Queue,.int .i64 x.Req.From,.int .i64 x.Req.Until,.int .i64 x.Req.Kind,.slice pa1 x.Req.Pieces.length pc1,.slice ba1 x.Bites.length bc1]=Wc:=⟨_,rfl⟩
         rw [hWc]
         have hxc:Ext wq Wc:=hWc▸hxb.sr (b:=wq.heap.size+1) (by omega) _
         have hs1:Wc.heap[wq.heap.size+1]?=some (.cells #[.int .i64 x.Id,.int .i64 x.Req.Queue,.int .i64 x.Req.From,.int .i64 x.Req.Until,.int .i64 x.Req.Kind,.slice pa1 x.Req.Pieces.length pc1,.slice ba1 x.Bites.length bc1] 43 (0,0)):=hWc▸setRow_heap Wb (wq.heap.size+1) _ _ _ _ hr2
         have hs2:Wc.heap[wq.heap.size]?=some (.cells #[.int .i64 0,.int .i64 0,.int .i64 0,.int .i64 0,.int .i64 0,.slice none 0 0,.slice none 0 0] 43 (0,0)):=((hWc▸grown_srow Wb (wq.heap.size+1) #[.int .i64 x.Id,.int .i64 x.Req.Queue,.int .i64 x.Req.From,.int .i64 x.Req.Until,.int .i64 x.Req.Kind,.slice pa1 x.Req.Pieces.length pc1,.slice ba1 x.Bites.length bc1]:Wb.grownBy Wc (some (wq.heap.size+1))).block (wq.heap.size) (Array.getElem?_eq_some_iff.1 hr1).1 (fun e=>by have:=Option.some.inj e;omega)).trans hr1
         refine hK.out _ _ ?_ (fun hHeld=>?_)
         ·(exact HS14.out _ hxc)
         clear hK K
         refine wpAnyH_ready (rs:=[12]) (by kernel_rfl) (by simp) ?_
         refine AllReadyH.cons rfl (fun K hK=>?_) AllReadyH.nil
         simp only [zA,zB,zC]
         rw [if_pos (by rfl)]
         refine wp_store_row 43 _ _ rfl (wq.heap.size) #[.int .i64 y.Id,.int .i64 y.Req.Queue,.int .i64 y.Req.From,.int .i64 y.Req.Until,.int .i64 y.Req.Kind,.slice pa2 y.Req.Pieces.length pc2,.slice ba2 y.Bites.length bc2] rfl rfl 43 _ hs2 Tryz.size43 rfl (by simp [Value.oneCell']) ?_
         obtain ⟨Wd,hWd⟩:∃ Wd,Wc.setRow (wq.heap.size) #[.int .i64 y.Id,.int .i64 y.Req.Queue,.int .i64 y.Req.From,.int .i64 y.Req.Until,.int .i64 y.Req.Kind,.slice pa2 y.Req.Pieces.length pc2,.slice ba2 y.Bites.length bc2]=Wd:=⟨_,rfl⟩
         rw [hWd]
         have hxd:Ext wq Wd:=hWd▸hxc.sr (b:=wq.heap.size) (by omega) _
         have ht1:Wd.heap[wq.heap.size]?=some (.cells #[.int .i64 y.Id,.int .i64 y.Req.Queue,.int .i64 y.Req.From,.int .i64 y.Req.Until,.int .i64 y.Req.Kind,.slice pa2 y.Req.Pieces.length pc2,.slice ba2 y.Bites.length bc2] 43 (0,0)):=hWd▸setRow_heap Wc (wq.heap.size) _ _ _ _ hs2
         have ht2:Wd.heap[wq.heap.size+1]?=some (.cells #[.int .i64 x.Id,.int .i64 x.Req.Queue,.int .i64 x.Req.From,.int .i64 x.Req.Until,.int .i64 x.Req.Kind,.slice pa1 x.Req.Pieces.length pc1,.slice ba1 x.Bites.length bc1] 43 (0,0)):=((hWd▸grown_srow Wc (wq.heap.size) #[.int .i64 y.Id,.int .i64 y.Req.Queue,.int .i64 y.Req.From,.int .i64 y.Req.Until,.int .i64 y.Req.Kind,.slice pa2 y.Req.Pieces.length pc2,.slice ba2 y.Bites.length bc2]:Wc.grownBy Wd (some (wq.heap.size))).block (wq.heap.size+1) (Array.getElem?_eq_some_iff.1 hs1).1 (fun e=>by have:=Option.some.inj e;omega)).trans hs1
         refine hK.out _ _ ?_ (fun hHeld=>?_)
         ·(exact HS14.out _ hxd)
         clear hK K
         refine wpAnyH_done (by kernel_rfl) ?_ _
         go_wp2_with fail
         go_meet
         case rel=>exact ⟨_,_,rfl,rfl,hid ht2,hid ht1,by omega,by omega,hxd⟩
       case rest =>
        obtain ⟨B1,B2,rfl,rfl,HR1,HR2,hB1,hB2,hxc⟩:=hcut
        have hgq:=(HAQ.out.ne (r:=g2) rfl).2.2.2.2
        have hAC:=HAQ.out.later hxc
        obtain ⟨_,_,_,_,_,htj⟩:=hAC.away.at HJ.out.1
        have hP1:=hAC.put (List.getElem?_eq_some_iff.1 HJ.out.1).1 (HB2.out.mono hxc) (hAC.live y (List.mem_of_getElem? HJ.out.2)) H22.out.2
        obtain ⟨W2,hW2⟩:∃ W2,wc.setCells g2 (j*7) (#[.int .i64 y.Id,.int .i64 y.Req.Queue,.int .i64 y.Req.From,.int .i64 y.Req.Until,.int .i64 y.Req.Kind,.slice pa2 y.Req.Pieces.length pc2,.slice ba2 y.Bites.length bc2]:Array Value).toList=W2:=⟨_,rfl⟩
        have hg1:wc.grownBy W2 (some g2):=hW2▸grown_setCells wc g2 _ _
        have hP1':AwayIn wb w7.heap.size gq qc gb cap s.Clock s.Next L b ((A.take j++x::A.drop j).set j y) (.slice (some ⟨g2,0,none⟩) N cap2) W2:=hW2▸hP1
        have hxr:W2.heap[B1]?=some (.cells #[.int .i64 x.Id,.int .i64 x.Req.Queue,.int .i64 x.Req.From,.int .i64 x.Req.Until,.int .i64 x.Req.Kind,.slice pa1 x.Req.Pieces.length pc1,.slice ba1 x.Bites.length bc1] 43 (0,0)):=(hg1.block B1 (Array.getElem?_eq_some_iff.1 HR1.out).1 (fun e=>by have:=Option.some.inj e;omega)).trans HR1.out
        have hj3:((A.take j++x::A.drop j).set j y)[j+1]?=some y:=by rw [List.getElem?_set_ne (by omega)];exact HJ.out.2
        obtain ⟨_,_,_,_,_,htj2⟩:=hP1'.away.at hj3
        have hP2:=hP1'.put (List.getElem?_eq_some_iff.1 hj3).1 (bookC_grown (HB1.out.mono hxc) hg1 (fun u hu a n c e hm=>H1.out.2 u hu a n c e (by rw [List.mem_singleton.1 hm];exact List.mem_cons_self ..))) HLX.out H1.out.2
        rw [mid_swap (by rw [HAL2.out];exact hlt) HY.out] at hP2
        obtain ⟨W3,hW3⟩:∃ W3,W2.setCells g2 ((j+1)*7) (#[.int .i64 x.Id,.int .i64 x.Req.Queue,.int .i64 x.Req.From,.int .i64 x.Req.Until,.int .i64 x.Req.Kind,.slice pa1 x.Req.Pieces.length pc1,.slice ba1 x.Bites.length bc1]:Array Value).toList=W3:=⟨_,rfl⟩
        have HP3:Hid (AwayIn wb w7.heap.size gq qc gb cap s.Clock s.Next L b (A.take (j+1)++x::A.drop (j+1)) (.slice (some ⟨g2,0,none⟩) N cap2) W3):=hid (hW3▸hP2)
        have HW2:=hid hW2
        have HW3:=hid hW3
        have HTJ:=hid htj
        have HTJ2:=hid htj2
        have HXR:=hid hxr
        obtain ⟨e0,e1,e2,e3,e4,e5,e6,_⟩:=bookCells7 HR2.out
        have HLE2:=hid (show ∀ (i:Nat) (y':Book),i < j+1→A[i]?=some y'→y'.Id < x.Id from fun i y' hi hy'=>by
         rcases Nat.lt_or_ge i j with h | h
         ·exact HLE.out i y' h hy'
         ·obtain rfl:i=j:=by omega
          rw [HY.out] at hy'
          cases hy'
          exact hl)
        clear hgq hAC htj hP1 hW2 hg1 hP1' hxr hj3 htj2 hP2 hW3 hxc
        obtain ⟨f0,f1,f2,f3,f4,f5,f6,_⟩:=bookCells7 HXR.out
        go_wp2_with (first | (refine wpList_store_mid rfl 43 (.tmp 115) (.tmp 114) rfl g2 (j*7) #[.int .i64 y.Id,.int .i64 y.Req.Queue,.int .i64 y.Req.From,.int .i64 y.Req.Until,.int .i64 y.Req.Kind,.slice pa2 y.Req.Pieces.length pc2,.slice ba2 y.Bites.length bc2] rfl rfl HTJ.out Tryz.size43 (by simp [Value.oneCell']) ?_;rw [HW2.out]) | (refine wpList_store_mid rfl 43 (.tmp 120) (.tmp 119) rfl g2 ((j+1)*7) #[.int .i64 x.Id,.int .i64 x.Req.Queue,.int .i64 x.Req.From,.int .i64 x.Req.Until,.int .i64 x.Req.Kind,.slice pa1 x.Req.Pieces.length pc1,.slice ba1 x.Bites.length bc1] rfl rfl HTJ2.out Tryz.size43 (by simp [Value.oneCell']) ?_;rw [HW3.out]))
        go_roundw
        case rel=>exact ⟨j+1,by go_num,by omega,HP3,HLE2⟩
        case measure=>simp [intOf];omega
      ·have hlt1:=deF hl
       go_wp2_with fail
       go_quiet (fail)
       clear c0 c1 c2 c3 c4 c5 c6 d0 d1 d2 d3 d4 d5 d6
       have hins:A.take j++x::A.drop j=sortB (a++[x]):=by
        rw [sortB_snoc,HAE.out]
        exact (ins_first (by rw [HAL2.out];exact hj) HLE.out (fun y' hy'=>by rw [HY.out] at hy';cases hy';omega)).symm
       have hAS:=HAJ.out.later ((Ext.rf wr).dn nq)
       rw [hins] at hAS
       have HAS:=hid hAS
       clear hAS hins
       generalize wr.drewN nq=wq at *
       have WO:=hid (show Calls Tryz.prog 58 #[.agg #[.int .i64 s.Clock,.int .i64 s.Next,.slice (some ⟨gq,0,none⟩) L.length qc,.slice (some ⟨gb,0,none⟩) b.length cap],.int .i64 (kv:Int)] wq (fun e w'=>∃ u v,e=.returned (.agg #[.int .i64 s.Clock,.int .i64 s.Next,u,v])∧OwnS [] wq.heap.size w' u v L (b.eraseIdx kv)∧Ext wq w'∧∃ g cap,v=.slice (some ⟨g,0,none⟩) (b.eraseIdx kv).length cap) from without_any wq _ _ ⟨s.Clock,s.Next,L,b⟩ kv HAS.out.own.tree HAS.out.own.books HOKT.out hb12 hbok HKL.out)
       have k0:wq.cell? ⟨w7.heap.size,0,none⟩=some (.int .i64 s.Clock):=cell_of_row _ _ 0 _ _ _ HAS.out.box
       have k1:wq.cell? ⟨w7.heap.size,1,none⟩=some (.int .i64 s.Next):=cell_of_row _ _ 1 _ _ _ HAS.out.box
       have k2:wq.cell? ⟨w7.heap.size,2,none⟩=some (.slice (some ⟨gq,0,none⟩) L.length qc):=cell_of_row _ _ 2 _ _ _ HAS.out.box
       have k3:wq.cell? ⟨w7.heap.size,3,none⟩=some (.slice (some ⟨gb,0,none⟩) b.length cap):=cell_of_row _ _ 3 _ _ _ HAS.out.box
       go_wp2_with fail
       refine WO.out.mono ?_
       rintro e w20 ⟨u20,v20,rfl,hO20,hx20,gb',cap',rfl⟩
       obtain ⟨gq',qc',rfl,_,_⟩:=hO20.uform
       have HRN2:=hid (HAS.out.renew hO20 hx20)
       have HBX:=hid (blk_ext HAS.out.box hx20)
       clear k0 k1 k2 k3 hO20 hx20 WO
       go_wp2_with (refine wpList_store_row rfl 25 _ _ rfl w7.heap.size #[.int .i64 s.Clock,.int .i64 s.Next,.slice (some ⟨gq',0,none⟩) L.length qc',.slice (some ⟨gb',0,none⟩) (b.eraseIdx kv).length cap'] rfl rfl 25 _ HBX.out Tryz.size25 rfl (by simp [Value.oneCell']) ?_)
       dsimp only [Act.put]
       go_roundw
       case rel=>exact ⟨gq',qc',gb',cap',b.eraseIdx kv,a++[x],HRN2,HRS⟩
       case measure=>rw [boxLen_of HRN2.out,HBL.out,List.length_eraseIdx_of_lt HKL.out];omega
     ·obtain rfl:j=al:=by omega
      have hjn:¬ j+1 < N:=by have:=HNN.out;omega
      have hjm:¬ (j:Int)+1 < (N:Int):=by omega
      have hj0:(0:Int)≤(j:Int):=by omega
      have hwj:IntKind.i64.wrap ((j:Int)+1)=(j:Int)+1:=by rw [IntKind.wrap_i64];omega
      have hjt:=deF hjm
      have hjt2:=deF hjn
      go_wp2_with fail
      go_quiet (fail)
      have hins:A.take j++x::A.drop j=sortB (a++[x]):=by
       rw [sortB_snoc,HAE.out]
       exact (ins_first (by rw [HAL2.out];exact hj) HLE.out (fun y' hy'=>by have h:=(List.getElem?_eq_some_iff.1 hy').1;rw [HAL2.out] at h;omega)).symm
      have hAS:=HAJ.out.later ((Ext.rf wr).dn nq)
      rw [hins] at hAS
      have HAS:=hid hAS
      clear hAS hins
      generalize wr.drewN nq=wq at *
      have WO:=hid (show Calls Tryz.prog 58 #[.agg #[.int .i64 s.Clock,.int .i64 s.Next,.slice (some ⟨gq,0,none⟩) L.length qc,.slice (some ⟨gb,0,none⟩) b.length cap],.int .i64 (kv:Int)] wq (fun e w'=>∃ u v,e=.returned (.agg #[.int .i64 s.Clock,.int .i64 s.Next,u,v])∧OwnS [] wq.heap.size w' u v L (b.eraseIdx kv)∧Ext wq w'∧∃ g cap,v=.slice (some ⟨g,0,none⟩) (b.eraseIdx kv).length cap) from without_any wq _ _ ⟨s.Clock,s.Next,L,b⟩ kv HAS.out.own.tree HAS.out.own.books HOKT.out hb12 hbok HKL.out)
      have k0:wq.cell? ⟨w7.heap.size,0,none⟩=some (.int .i64 s.Clock):=cell_of_row _ _ 0 _ _ _ HAS.out.box
      have k1:wq.cell? ⟨w7.heap.size,1,none⟩=some (.int .i64 s.Next):=cell_of_row _ _ 1 _ _ _ HAS.out.box
      have k2:wq.cell? ⟨w7.heap.size,2,none⟩=some (.slice (some ⟨gq,0,none⟩) L.length qc):=cell_of_row _ _ 2 _ _ _ HAS.out.box
      have k3:wq.cell? ⟨w7.heap.size,3,none⟩=some (.slice (some ⟨gb,0,none⟩) b.length cap):=cell_of_row _ _ 3 _ _ _ HAS.out.box
      go_wp2_with fail
      refine WO.out.mono ?_
      rintro e w20 ⟨u20,v20,rfl,hO20,hx20,gb',cap',rfl⟩
      obtain ⟨gq',qc',rfl,_,_⟩:=hO20.uform
      have HRN2:=hid (HAS.out.renew hO20 hx20)
      have HBX:=hid (blk_ext HAS.out.box hx20)
      clear k0 k1 k2 k3 hO20 hx20 WO
      go_wp2_with (refine wpList_store_row rfl 25 _ _ rfl w7.heap.size #[.int .i64 s.Clock,.int .i64 s.Next,.slice (some ⟨gq',0,none⟩) L.length qc',.slice (some ⟨gb',0,none⟩) (b.eraseIdx kv).length cap'] rfl rfl 25 _ HBX.out Tryz.size25 rfl (by simp [Value.oneCell']) ?_)
      dsimp only [Act.put]
      go_roundw
      case rel=>exact ⟨gq',qc',gb',cap',b.eraseIdx kv,a++[x],HRN2,HRS⟩
      case measure=>rw [boxLen_of HRN2.out,HBL.out,List.length_eraseIdx_of_lt HKL.out];omega
theorem ChangeOf_any (w:World) (tv bv rv:Value) (s:State) (q:Int) (f:List Run) (hl:QueuesV w tv s.Tree) (hb:BooksV w bv s.Books) (hr:RunsV w rv f) (hq:I64 q) :
  Calls Tryz.prog 16 #[.agg #[.int .i64 s.Clock,.int .i64 s.Next,tv,bv],.int .i64 q,rv] w (RetChange w (changeR s q f)):=by
 by_cases h0:stateE s=0
 ·by_cases h1:0≤q∧q < s.Tree.length
  ·obtain ⟨k,rfl⟩:∃ k:Nat,q=k:=⟨q.toNat,by omega⟩
   by_cases h2:CapOk f
   ·exact ChangeOf_rest w tv bv rv s k f hl hb hr h0 (by omega) h2
   ·exact ChangeOf_form w tv bv rv s k f hl hb hr h0 h1 h2
  ·exact ChangeOf_no w tv bv rv s q f hl hb hr h0 h1
 ·exact ChangeOf_bad w tv bv rv s q f hl hb hr h0
end Go.Proofs.YtncaoclhlfkdoaaGreat
