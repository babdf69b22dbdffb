/- The reference of Change: its victim, and its errors. -/
import Derived.Test.YtncaoclhlfkdoaaGreatPCutH
set_option linter.unusedVariables false
set_option linter.unusedSimpArgs false
set_option maxRecDepth 100000
set_option maxHeartbeats 8000000
set_option linter.unusedSimpArgs false
set_option linter.unusedVariables false
namespace Go.Proofs.YtncaoclhlfkdoaaGreat
open Go.RowKit
open List renaming getElem_toArray→zA,getElem_cons_zero→zB,getElem_cons_succ→zC,setIfInBounds_toArray→zD,set_cons_zero→zE,set_cons_succ→zF
theorem vic_hit {p:Nat→Bool} {z k:Nat} (hk:k < z) (h:p k=true) (hn:∀ i:Nat,k < i→i < z→p i=false):lastK p z=k:=by
 rw [lastK_cut (m:=k+1) (by omega) (fun j h1 h2=>hn j (by omega) h2)]
 simp only [lastK]
 rw [if_pos h]
theorem vic_none {p:Nat→Bool} {z:Nat} (hn:∀ i:Nat,0 < i→i < z→p i=false):lastK p z=0:=by
 rcases Nat.eq_zero_or_pos z with rfl | h
 ·rfl
 ·rw [lastK_cut (m:=1) (by omega) (fun j h1 h2=>hn j (by omega) h2)]
  simp only [lastK]
  split <;> rfl
theorem victimRef_any (w:World) (c nx:Int) (u v:Value) (l:List Queue) (b:List Book) (t q:Nat) (hl:QueuesV w u l) (hb:BooksV w v b) (ok:TreeOk l) (hok:∀ x∈b,BookOk l x) (h12:b.length≤12) :
  Calls Tryz.prog 57 #[.agg #[.int .i64 c,.int .i64 nx,u,v],.int .i64 (t:Int),.int .i64 (q:Int)] w fun e w'=>e=.returned (.int .i64 (vicK l b t q:Int))∧Ext w w':=by
 have BN:=hid (fun (W:World) (h:Ext w W) (x:Book) (hx:x∈b)=>beneath_any W u l x.Req.Queue (q:Int) (hl.mono h) ok.pars ok.n5 (hok x hx).q0 (hok x hx).q1)
 have TK:=hid (fun (W:World) (pv biv:Value) (x:Book) (hx:x∈b) (h1:PiecesV W pv x.Req.Pieces) (h2:BitesV W biv x.Bites)=>takes_any W pv biv x t h1 h2 (hok x hx).req (fun k hk=>((hok x hx).bites k hk).1) (hok x hx).many.2)
 obtain ⟨ba,bc,rfl,hbc,hbc9,hbl,hbE⟩:=books_at hb
 obtain ⟨qa,qc,rfl,_,_,_⟩:=hl.form
 have HBE:=hid hbE
 have HIT:=hid (fun (k:Nat) (x:Book) (h:b[k]?=some x)=>hitK_some (l:=l) (t:=t) (q:=q) h)
 have VH:=hid (fun (k:Nat) (hk:k < b.length)=>vic_hit (p:=hitK l b t q) hk)
 have VN:=hid (vic_none (p:=hitK l b t q) (z:=b.length))
 have hvk:vicK l b t q=lastK (hitK l b t q) b.length:=rfl
 rw [hvk]
 clear hl hb hbE hok hvk
 generalize l.length=n at *
 generalize hzz:b.length=z at *
 have Hz:=hid hzz
 generalize hitK l b t q=hk at *
 obtain ⟨w1,hw1⟩:∃ w1,w.alloc (.cells #[.int .i64 c,.int .i64 nx,.slice qa n qc,.slice ba z bc] 25)=w1:=⟨_,rfl⟩
 have hX:w1.heap[w.heap.size]?=some (.cells #[.int .i64 c,.int .i64 nx,.slice qa n qc,.slice ba z bc] 25 (0,0)):=hw1▸World.alloc_heap_new w _
 have HX1:=hid (show Ext w w1 from hw1▸(Ext.rf w).al _)
 have HXB:=hid hX
 have HW1:=hid hw1
 have e3:=cell_of_row _ _ 3 _ _ _ hX
 clear hzz hX hw1
 generalize lastK hk z=vk at *
 have hz12:z≤12:=h12
 go_enter Tryz.func57,Tryz.ntmps57
 go_wp2_with fail
 rw [HW1.out]
 go_wp2_with fail
 go_loopw [7] (fun c' wr=>∃ (j:Int),c'=.int .i64 j∧-1≤j∧j < z∧Hid (∀ i:Nat,j < i→i < z→hk i=false)∧Ext w1 wr) (fun c' _=>(intOf c'+1).toNat)
 case atStart=>exact ⟨(z:Int) - 1,by go_num,by omega,by omega,hid (fun i h1 h2=>by omega),Ext.rf _⟩
 case round =>
  obtain ⟨j,rfl,hj0,hjz,HNO,hx⟩:=hrel
  by_cases hlt:0 < j
  ·obtain ⟨k,rfl⟩:∃ k:Nat,j=k:=⟨j.toNat,by omega⟩
   obtain ⟨x,hxk⟩:=getA (f:=b) (k:=k) (by rw [Hz.out];omega)
   obtain ⟨bb,bo,rfl,hbb,hE⟩:=HBE.out (by omega)
   obtain ⟨pv,biv,c0,c1,c2,c3,c4,c5,c6,hp,hbi⟩:=ebook_cells (EBook.mono w wr bb _ x (HX1.out.tr hx) (hE k x hxk))
   have hm:x∈b:=List.mem_of_getElem? hxk
   have hh:=HIT.out k x hxk
   have B1:=hid (fun p:Later wr=>later_of p (BN.out p.v (HX1.out.tr (hx.tr p.h)) x hm))
   have T1:=hid (fun p:Later wr=>later_of p (TK.out p.v pv biv x hm (hp.mono p.h) (hbi.mono p.h)))
   have hkz:(k:Int) < (z:Int):=by omega
   have hk0:(0:Int)≤(k:Int):=by omega
   have hkp:decide (0 < k)=true:=deT (by omega)
   obtain ⟨pa,pc,rfl,_,_,_⟩:=hp.form
   obtain ⟨bia,bic,rfl,_,_,_⟩:=hbi.form
   have hX:=blk_ext HXB.out hx
   have a2:=fun p:Later wr=>p.cell (cell_of_row wr w.heap.size 2 _ _ _ hX)
   have a3:=fun p:Later wr=>p.cell (cell_of_row wr w.heap.size 3 _ _ _ hX)
   replace c0:=fun p:Later wr=>p.cell c0
   replace c1:=fun p:Later wr=>p.cell c1
   replace c2:=fun p:Later wr=>p.cell c2
   replace c3:=fun p:Later wr=>p.cell c3
   replace c4:=fun p:Later wr=>p.cell c4
   replace c5:=fun p:Later wr=>p.cell c5
   replace c6:=fun p:Later wr=>p.cell c6
   clear hp hbi hE hxk hm hX
   unfold hitB at hh
   generalize under l x.Req.Queue (q:Int)=ud at *
   obtain ⟨d,hd⟩:∃ d,decide (0 < takesT x t)=d:=⟨_,rfl⟩
   rw [hd] at hh
   have HH:=hid hh
   generalize takesT x t=tk at *
   generalize x.Req.Pieces.length=pn at *
   generalize x.Bites.length=bn at *
   clear hh
   cases ud with
   | true =>
    go_wp2_with fail
    refine region_later (by kernel_rfl) (by kernel_rfl) ?_
    repeat (go_big_quiet_step (first | with_reducible exact B1.out _ | with_reducible exact T1.out _))
    refine wpQuiet_nil ?_
    rintro w' ⟨p,rfl⟩
    have HXP:=hid (hx.tr p.h)
    clear B1 T1 a2 a3 c0 c1 c2 c3 c4 c5 c6
    generalize p.v=wp at *
    cases d with
    | true =>
     have HV:=hid (VH.out k (by omega) (by rw [HH.out];rfl) (fun i h1 h2=>HNO.out i (by omega) h2))
     go_wp2_with fail
     go_ret
     exact ⟨ret_int (by rw [HV.out]),HX1.out.tr HXP.out⟩
    | false =>
     have hwr:IntKind.i64.wrap ((k:Int) - 1)=(k:Int) - 1:=by rw [IntKind.wrap_i64];omega
     go_wp2_with fail
     go_roundw
     case rel =>
      refine ⟨(k:Int) - 1,by go_num,by omega,by omega,hid (fun i h1 h2=>?_),HXP.out⟩
      rcases Nat.lt_or_ge k i with h | h
      ·exact HNO.out i (by omega) h2
      ·obtain rfl:i=k:=by omega
       rw [HH.out];rfl
     case measure=>simp [intOf]
   | false =>
    go_wp2_with fail
    refine region_later (by kernel_rfl) (by kernel_rfl) ?_
    repeat (go_big_quiet_step (first | with_reducible exact B1.out _ | with_reducible exact T1.out _))
    refine wpQuiet_nil ?_
    rintro w' ⟨p,rfl⟩
    have HXP:=hid (hx.tr p.h)
    clear B1 T1 a2 a3 c0 c1 c2 c3 c4 c5 c6
    generalize p.v=wp at *
    have hwr:IntKind.i64.wrap ((k:Int) - 1)=(k:Int) - 1:=by rw [IntKind.wrap_i64];omega
    go_wp2_with fail
    go_roundw
    case rel =>
     refine ⟨(k:Int) - 1,by go_num,by omega,by omega,hid (fun i h1 h2=>?_),HXP.out⟩
     rcases Nat.lt_or_ge k i with h | h
     ·exact HNO.out i (by omega) h2
     ·obtain rfl:i=k:=by omega
      rw [HH.out];rfl
    case measure=>simp [intOf]
  ·have HV:=hid (VN.out (fun i h1 h2=>HNO.out i (by omega) h2))
   go_wp2_with fail
   go_ret
   exact ⟨ret_int (by rw [HV.out];rfl),HX1.out.tr hx⟩
theorem ChangeOf_bad (w:World) (tv bv rv:Value) (s:State) (q:Int) (f:List Run) (hl:QueuesV w tv s.Tree) (hb:BooksV w bv s.Books) (hr:RunsV w rv f) (h0:stateE s≠0) :
  Calls Tryz.prog 16 #[.agg #[.int .i64 s.Clock,.int .i64 s.Next,tv,bv],.int .i64 q,rv] w (RetChange w (changeR s q f)):=by
 have F:=hid (fun (W:World) (h:Ext w W)=>CheckState_any W tv bv s (hl.mono h) (hb.mono h))
 have CF:=hid (fun (W:World) (h:Ext w W)=>CapFine_any W rv f (hr.mono h))
 obtain ⟨wb,hwb,HX,HSS,HZZ,hszb⟩:=two_boxes2 w s tv bv
 have HX0:=hid HX
 have HS0:=hid HSS
 have HZ0:=hid HZZ
 have HWB:=hid hwb
 have HSB:=hid hszb
 clear HX HSS HZZ hwb hszb
 have HR:=hid (changeR_bad (q:=q) (f:=f) h0)
 have hne:=neT h0
 generalize stateE s=se at *
 obtain ⟨qa,qc,rfl,_,_,_⟩:=hl.form
 obtain ⟨ba,bc,rfl,_,_,_⟩:=hb.form
 obtain ⟨fa,fc,rfl,_,_,_⟩:=hr.form
 clear hl hb hr h0
 generalize changeR s q f=cr at *
 generalize s.Tree.length=n at *
 generalize s.Books.length=z at *
 generalize f.length=fl at *
 go_enter Tryz.func16,Tryz.ntmps16
 go_wp2_with fail
 rw [HWB.out]
 refine (F.out _ HX0.out).mono ?_
 rintro e w2 ⟨rfl,hx2⟩
 have HB:=hid (HZ0.out w2 hx2)
 have HX2:=hid ((HX0.out.tr hx2).sr (b:=w.heap.size+1) (by omega) #[.int .i64 0,.int .i64 0,.slice none 0 0,.slice none 0 0])
 have HB2:=hid (setRow_heap w2 (w.heap.size+1) _ #[.int .i64 0,.int .i64 0,.slice none 0 0,.slice none 0 0] _ _ HB.out)
 go_wp2_with (refine wpList_store_row rfl 25 _ _ rfl (w.heap.size+1) #[.int .i64 0,.int .i64 0,.slice none 0 0,.slice none 0 0] rfl rfl 25 _ HB.out Tryz.size25 rfl (by simp [Value.oneCell']) ?_)
 exact bodyPost_ret (results_row_three (u1:=7) (u2:=8) (u3:=9) rfl _ _ (w.heap.size+1) 25 #[.int .i64 0,.int .i64 0,.slice none 0 0,.slice none 0 0] (0,0) _ rfl HB2.out Tryz.underlying25 rfl Tryz.size25) rfl (retChange_none HR.out HX2.out)
theorem ChangeOf_no (w:World) (tv bv rv:Value) (s:State) (q:Int) (f:List Run) (hl:QueuesV w tv s.Tree) (hb:BooksV w bv s.Books) (hr:RunsV w rv f) (h0:stateE s=0) (h1:¬ (0≤q∧q < s.Tree.length)) :
  Calls Tryz.prog 16 #[.agg #[.int .i64 s.Clock,.int .i64 s.Next,tv,bv],.int .i64 q,rv] w (RetChange w (changeR s q f)):=by
 have F:=hid (fun (W:World) (h:Ext w W)=>CheckState_any W tv bv s (hl.mono h) (hb.mono h))
 have CF:=hid (fun (W:World) (h:Ext w W)=>CapFine_any W rv f (hr.mono h))
 obtain ⟨wb,hwb,HX,HSS,HZZ,hszb⟩:=two_boxes2 w s tv bv
 have HX0:=hid HX
 have HS0:=hid HSS
 have HZ0:=hid HZZ
 have HWB:=hid hwb
 have HSB:=hid hszb
 clear HX HSS HZZ hwb hszb
 have HR:=hid (changeR_none (f:=f) h0 h1)
 have WI:=hid (fun W=>within_no q 0 ((s.Tree.length:Int) - 1) W (fun h=>h1 ⟨h.1,by omega⟩))
 rw [h0] at F
 obtain ⟨qa,qc,rfl,_,_,_⟩:=hl.form
 obtain ⟨ba,bc,rfl,_,_,_⟩:=hb.form
 obtain ⟨fa,fc,rfl,_,_,_⟩:=hr.form
 clear hl hb hr h0
 generalize changeR s q f=cr at *
 generalize s.Tree.length=n at *
 generalize s.Books.length=z at *
 generalize f.length=fl at *
 go_enter Tryz.func16,Tryz.ntmps16
 go_wp2_with fail
 rw [HWB.out]
 refine (F.out _ HX0.out).mono ?_
 rintro e w2 ⟨rfl,hx2⟩
 obtain ⟨a0,a1,a2,a3⟩:=HS0.out w2 hx2
 have HXB2:=hid hx2
 go_wp2_with fail
 refine (WI.out _).mono ?_
 rintro e w3 ⟨rfl,hw3⟩
 obtain rfl:=hw3.symm
 clear a0 a1 a2 a3
 have HB:=hid (HZ0.out w2 HXB2.out)
 have HX2:=hid ((HX0.out.tr HXB2.out).sr (b:=w.heap.size+1) (by omega) #[.int .i64 0,.int .i64 0,.slice none 0 0,.slice none 0 0])
 have HB2:=hid (setRow_heap w2 (w.heap.size+1) _ #[.int .i64 0,.int .i64 0,.slice none 0 0,.slice none 0 0] _ _ HB.out)
 go_wp2_with (refine wpList_store_row rfl 25 _ _ rfl (w.heap.size+1) #[.int .i64 0,.int .i64 0,.slice none 0 0,.slice none 0 0] rfl rfl 25 _ HB.out Tryz.size25 rfl (by simp [Value.oneCell']) ?_)
 exact bodyPost_ret (results_row_three (u1:=7) (u2:=8) (u3:=9) rfl _ _ (w.heap.size+1) 25 #[.int .i64 0,.int .i64 0,.slice none 0 0,.slice none 0 0] (0,0) _ rfl HB2.out Tryz.underlying25 rfl Tryz.size25) rfl (retChange_none HR.out HX2.out)
theorem ChangeOf_form (w:World) (tv bv rv:Value) (s:State) (q:Int) (f:List Run) (hl:QueuesV w tv s.Tree) (hb:BooksV w bv s.Books) (hr:RunsV w rv f) (h0:stateE s=0) (h1:0≤q∧q < s.Tree.length) (h2:¬ CapOk f) :
  Calls Tryz.prog 16 #[.agg #[.int .i64 s.Clock,.int .i64 s.Next,tv,bv],.int .i64 q,rv] w (RetChange w (changeR s q f)):=by
 have F:=hid (fun (W:World) (h:Ext w W)=>CheckState_any W tv bv s (hl.mono h) (hb.mono h))
 have CF:=hid (fun (W:World) (h:Ext w W)=>CapFine_any W rv f (hr.mono h))
 obtain ⟨wb,hwb,HX,HSS,HZZ,hszb⟩:=two_boxes2 w s tv bv
 have HX0:=hid HX
 have HS0:=hid HSS
 have HZ0:=hid HZZ
 have HWB:=hid hwb
 have HSB:=hid hszb
 clear HX HSS HZZ hwb hszb
 have HR:=hid (changeR_form h0 h1 h2)
 have WI:=hid (fun W=>within_yes q 0 ((s.Tree.length:Int) - 1) W h1.1 (by omega))
 rw [h0] at F
 rw [deF h2] at CF
 clear h2
 obtain ⟨qa,qc,rfl,_,_,_⟩:=hl.form
 obtain ⟨ba,bc,rfl,_,_,_⟩:=hb.form
 obtain ⟨fa,fc,rfl,_,_,_⟩:=hr.form
 clear hl hb hr h0
 generalize changeR s q f=cr at *
 generalize s.Tree.length=n at *
 generalize s.Books.length=z at *
 generalize f.length=fl at *
 go_enter Tryz.func16,Tryz.ntmps16
 go_wp2_with fail
 rw [HWB.out]
 refine (F.out _ HX0.out).mono ?_
 rintro e w2 ⟨rfl,hx2⟩
 obtain ⟨a0,a1,a2,a3⟩:=HS0.out w2 hx2
 have HXB2:=hid hx2
 go_wp2_with fail
 refine (WI.out _).mono ?_
 rintro e w3 ⟨rfl,hw3⟩
 obtain rfl:=hw3.symm
 clear a0 a1 a2 a3
 go_wp2_with fail
 refine (CF.out _ (HX0.out.tr HXB2.out)).mono ?_
 rintro e w3 ⟨rfl,hx3⟩
 have HB:=hid (HZ0.out w3 (HXB2.out.tr hx3))
 have HX2:=hid ((HX0.out.tr (HXB2.out.tr hx3)).sr (b:=w.heap.size+1) (by omega) #[.int .i64 0,.int .i64 0,.slice none 0 0,.slice none 0 0])
 have HB2:=hid (setRow_heap w3 (w.heap.size+1) _ #[.int .i64 0,.int .i64 0,.slice none 0 0,.slice none 0 0] _ _ HB.out)
 go_wp2_with (refine wpList_store_row rfl 25 _ _ rfl (w.heap.size+1) #[.int .i64 0,.int .i64 0,.slice none 0 0,.slice none 0 0] rfl rfl 25 _ HB.out Tryz.size25 rfl (by simp [Value.oneCell']) ?_)
 exact bodyPost_ret (results_row_three (u1:=7) (u2:=8) (u3:=9) rfl _ _ (w.heap.size+1) 25 #[.int .i64 0,.int .i64 0,.slice none 0 0,.slice none 0 0] (0,0) _ rfl HB2.out Tryz.underlying25 rfl Tryz.size25) rfl (retChange_none HR.out HX2.out)
end Go.Proofs.YtncaoclhlfkdoaaGreat
