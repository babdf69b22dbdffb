/- OwnState; SubmitOf -/
import Derived.Test.YtncaoclhlfkdoaaGreatPOwnS
import Derived.Test.YtncaoclhlfkdoaaGreatPSub
/- Walks of the reference: ownBook, OwnState. -/
set_option linter.unusedVariables false
set_option maxRecDepth 100000
set_option maxHeartbeats 8000000
set_option linter.unusedSimpArgs false
set_option linter.unusedVariables false
namespace Go.Proofs.YtncaoclhlfkdoaaGreat
open Go.RowKit
open List renaming getElem_toArray→zA,getElem_cons_zero→zB,getElem_cons_succ→zC,setIfInBounds_toArray→zD,set_cons_zero→zE,set_cons_succ→zF
theorem ownBook_any (w:World) (pv bv:Value) (x:Book) (hp:PiecesV w pv x.Req.Pieces) (hb:BitesV w bv x.Bites) (hlx:LiveX x) :
  Calls Tryz.prog 67 #[.agg #[.int .i64 x.Id,.int .i64 x.Req.Queue,.int .i64 x.Req.From,.int .i64 x.Req.Until,.int .i64 x.Req.Kind,pv,bv]] w fun e w'=>∃ g1 c1 g2 c2,e=.returned (.agg #[.int .i64 x.Id,.int .i64 x.Req.Queue,.int .i64 x.Req.From,.int .i64 x.Req.Until,.int .i64 x.Req.Kind,.slice (some ⟨g1,0,none⟩) x.Req.Pieces.length c1,.slice (some ⟨g2,0,none⟩) x.Bites.length c2]) ∧
   w.heap.size≤g1∧w.heap.size≤g2∧PiecesV w' (.slice (some ⟨g1,0,none⟩) x.Req.Pieces.length c1) x.Req.Pieces∧BitesV w' (.slice (some ⟨g2,0,none⟩) x.Bites.length c2) x.Bites∧Ext w w':=by
 obtain ⟨_,⟨m1,m3⟩,k1,k3⟩:=hlx
 obtain ⟨ir,ir1,ir2,ir3,ir4⟩:=info_parts Tryz.info68
 obtain ⟨it,it1,it2,it3,it4⟩:=info_parts Tryz.info49
 obtain ⟨pb,po,pc,rfl,_,_,hpb,hpE⟩:=pieces_at hp m1
 obtain ⟨va,vc,rfl,_,_,_,hvE⟩:=bites_at hb
 obtain ⟨vb,vo,rfl,hvb,hE⟩:=hvE k1
 have HN1:=hid (pair_news hpE)
 have HN2:=hid (pair_news hE)
 have HI1:=hid (show ∀ r∈x.Req.Pieces,I64 r.Len∧I64 r.N from fun r hr=>by
  obtain ⟨k,hk⟩:=List.mem_iff_getElem?.1 hr
  obtain ⟨_,_,i1,i2⟩:=hpE k r hk
  exact ⟨i1,i2⟩)
 have HI2:=hid (show ∀ r∈x.Bites,I64 r.Piece∧I64 r.At from fun r hr=>by
  obtain ⟨k,hk⟩:=List.mem_iff_getElem?.1 hr
  obtain ⟨_,_,i1,i2⟩:=hE k r hk
  exact ⟨i1,i2⟩)
 have HL1:=hid (cells2_length Piece.Len Piece.N x.Req.Pieces)
 have HL2:=hid (cells2_length Bite.Piece Bite.At x.Bites)
 clear hp hb hpE hE hvE
 generalize hpn:x.Req.Pieces.length=pn at *
 generalize hbn:x.Bites.length=bn at *
 have HPN:=hid hpn
 have HBN:=hid hbn
 clear hpn hbn
 obtain ⟨W1,hW1⟩:∃ W1,(w.alloc (.cells #[.int .i64 x.Id,.int .i64 x.Req.Queue,.int .i64 x.Req.From,.int .i64 x.Req.Until,.int .i64 x.Req.Kind,.slice (some ⟨pb,po,none⟩) pn pc,.slice (some ⟨vb,vo,none⟩) bn vc] 43)).alloc (.cells #[.int .i64 0,.int .i64 0,.int .i64 0,.int .i64 0,.int .i64 0,.slice none 0 0,.slice none 0 0] 43)=W1:=⟨_,rfl⟩
 have hx1:Ext w W1:=hW1▸((Ext.rf w).al _).al _
 have hs1:W1.heap.size=w.heap.size+1+1:=by rw [← hW1];simp
 have hb1:W1.heap[w.heap.size]?=some (.cells #[.int .i64 x.Id,.int .i64 x.Req.Queue,.int .i64 x.Req.From,.int .i64 x.Req.Until,.int .i64 x.Req.Kind,.slice (some ⟨pb,po,none⟩) pn pc,.slice (some ⟨vb,vo,none⟩) bn vc] 43 (0,0)):=by
  rw [← hW1]
  exact (((Ext.rf _).al _).block _ (by simp)).trans (heap_alloc_new w _)
 have hz1:W1.heap[w.heap.size+1]?=some (.cells #[.int .i64 0,.int .i64 0,.int .i64 0,.int .i64 0,.int .i64 0,.slice none 0 0,.slice none 0 0] 43 (0,0)):=by
  rw [← hW1]
  have:=heap_alloc_new (w.alloc (.cells #[.int .i64 x.Id,.int .i64 x.Req.Queue,.int .i64 x.Req.From,.int .i64 x.Req.Until,.int .i64 x.Req.Kind,.slice (some ⟨pb,po,none⟩) pn pc,.slice (some ⟨vb,vo,none⟩) bn vc] 43)) (.cells #[.int .i64 0,.int .i64 0,.int .i64 0,.int .i64 0,.int .i64 0,.slice none 0 0,.slice none 0 0] 43)
  rwa [World.size_alloc] at this
 have HW1:=hid hW1
 have HX1:=hid hx1
 have HB1:=hid hb1
 have HZ1:=hid hz1
 clear hW1 hx1 hb1 hz1
 go_enter Tryz.func67,Tryz.ntmps67
 have hown:=own_empty W1 68 2 (by omega)
 rw [hs1] at hown
 have HOW:=hid hown
 clear hown
 go_wp2_with (at_builtin;rw [HW1.out];refine wpList_append_own _ rfl _ _ 38 rfl (w.heap.size+1+1) 68 ir _ 2 16 Tryz.underlying38 ir1 ir2 ir3 ir4 rfl (by decide) _ _ _ rfl HOW.out ⟨pb,po,none⟩ pn pc (cells2 Piece.Len Piece.N x.Req.Pieces) rfl HL1.out (fun j u hj=>ext_ceA (HX1.out.al _) (HN1.out j u hj)) (pair_one _) (by unfold maxLen;omega) (by omega) (by simp;omega) ?_)
 intro v3 W3 hown3 hgrow3 hnil3
 obtain ⟨g1,c1,rfl⟩:=own_some7 hown3 (by omega)
 have hlt1:=own_lt hown3 g1 rfl
 have hs3:w.heap.size+1+1 < W3.heap.size:=by have:=hgrow3.size;simp at this;omega
 have hb3:=(hgrow3.block w.heap.size (by simp;omega) (fun e=>by have e2:=Option.some.inj e;simp at e2;omega)).trans ((((Ext.rf W1).al (.cells #[] 68)).block w.heap.size (by omega)).trans HB1.out)
 have hz3:=(hgrow3.block (w.heap.size+1) (by simp;omega) (fun e=>by have e2:=Option.some.inj e;simp at e2)).trans ((((Ext.rf W1).al (.cells #[] 68)).block (w.heap.size+1) (by omega)).trans HZ1.out)
 have hx3:Ext w W3:=(HX1.out.al (.cells #[] 68)).gr hgrow3 (fun k hk=>by have e2:=Option.some.inj hk;simp at e2;omega)
 have hp3:PiecesV W3 (.slice (some ⟨g1,0,none⟩) pn c1) x.Req.Pieces:=by
  have h:=sv_of_owns2 (base:=w.heap.size+1+1) (e:=68) (w:=W3) (v:=.slice (some ⟨g1,0,none⟩) pn c1) (xs:=x.Req.Pieces) (f:=Piece.Len) (g:=Piece.N) (by rw [HPN.out];simpa using hown3) HI1.out (by rw [HPN.out];omega)
  exact h
 obtain ⟨W4,hW4⟩:∃ W4,W3.setCell ⟨w.heap.size,5,none⟩ (.slice (some ⟨g1,0,none⟩) pn c1)=W4:=⟨_,rfl⟩
 have hs4:W4.heap.size=W3.heap.size:=by rw [← hW4];simp [World.setCell]
 have hb4:W4.heap[w.heap.size]?=some (.cells #[.int .i64 x.Id,.int .i64 x.Req.Queue,.int .i64 x.Req.From,.int .i64 x.Req.Until,.int .i64 x.Req.Kind,.slice (some ⟨g1,0,none⟩) pn c1,.slice (some ⟨vb,vo,none⟩) bn vc] 43 (0,0)):=hW4▸heap_setCell_same W3 w.heap.size 5 _ _ _ hb3
 have hz4:=hW4▸(heap_setCell_other W3 ⟨w.heap.size,5,none⟩ (w.heap.size+1) (.slice (some ⟨g1,0,none⟩) pn c1) (by show w.heap.size+1≠w.heap.size;omega)).trans hz3
 have hx4:Ext w W4:=hW4▸hx3.se (Nat.le_refl _) _
 have hp4:PiecesV W4 (.slice (some ⟨g1,0,none⟩) pn c1) x.Req.Pieces:=hW4▸sv2_kept hp3 (grown_set W3 w.heap.size 5 _) (by omega)
 obtain ⟨_,_,_,_,_,k5,k6,kf⟩:=bookCells7 hb3
 have f5:=kf 5
 have hown4:=own_empty W4 49 2 (by omega)
 rw [hs4] at hown4
 have HOW4:=hid hown4
 have HW4:=hid hW4
 have HX4:=hid hx4
 have HB4:=hid hb4
 have HZ4:=hid hz4
 have HP4:=hid hp4
 have HS:=hid (And.intro hs3 (And.intro hs4 hlt1))
 have hg1:g1 < W3.heap.size:=(hown3.lt g1 rfl).2
 have hw3:w.heap.size < W3.heap.size:=by omega
 clear kf hb3 hz3 hx3 hp3 hW4 hb4 hz4 hx4 hp4 hown4 hown3 hgrow3 HB1 HZ1 HX1 HW1 HOW hnil3 hlt1
 go_wp2_with (at_builtin;rw [HW4.out];refine wpList_append_own _ rfl _ _ 41 rfl W3.heap.size 49 it _ 2 16 Tryz.underlying41 it1 it2 it3 it4 rfl (by decide) _ _ _ rfl HOW4.out ⟨vb,vo,none⟩ bn vc (cells2 Bite.Piece Bite.At x.Bites) rfl HL2.out (fun j u hj=>ext_ceA (HX4.out.al _) (HN2.out j u hj)) (pair_one _) (by unfold maxLen;omega) (by omega) (by simp;omega) ?_)
 intro v5 W5 hown5 hgrow5 hnil5
 obtain ⟨g2,c2,rfl⟩:=own_some7 hown5 (by omega)
 have hlt2:=own_lt hown5 g2 rfl
 have hs5:W3.heap.size < W5.heap.size:=by have:=hgrow5.size;simp at this;omega
 have hb5:=(hgrow5.block w.heap.size (by simp;omega) (fun e=>by have e2:=Option.some.inj e;simp at e2;omega)).trans ((((Ext.rf W4).al (.cells #[] 49)).block w.heap.size (by omega)).trans HB4.out)
 have hz5:=(hgrow5.block (w.heap.size+1) (by simp;omega) (fun e=>by have e2:=Option.some.inj e;simp at e2;omega)).trans ((((Ext.rf W4).al (.cells #[] 49)).block (w.heap.size+1) (by omega)).trans HZ4.out)
 have hx5:Ext w W5:=(HX4.out.al (.cells #[] 49)).gr hgrow5 (fun k hk=>by have e2:=Option.some.inj hk;simp at e2;omega)
 have hp5:PiecesV W5 (.slice (some ⟨g1,0,none⟩) pn c1) x.Req.Pieces:=sv2_kept (r:=W3.heap.size) (PiecesV.mono HP4.out ((Ext.rf W4).al _)) hgrow5 (by omega)
 have hv5:BitesV W5 (.slice (some ⟨g2,0,none⟩) bn c2) x.Bites:=by
  have h:=sv_of_owns2 (base:=W3.heap.size) (e:=49) (w:=W5) (v:=.slice (some ⟨g2,0,none⟩) bn c2) (xs:=x.Bites) (f:=Bite.Piece) (g:=Bite.At) (by rw [HBN.out];simpa using hown5) HI2.out (by rw [HBN.out];omega)
  exact h
 obtain ⟨W6,hW6⟩:∃ W6,W5.setCell ⟨w.heap.size,6,none⟩ (.slice (some ⟨g2,0,none⟩) bn c2)=W6:=⟨_,rfl⟩
 have hb6:W6.heap[w.heap.size]?=some (.cells #[.int .i64 x.Id,.int .i64 x.Req.Queue,.int .i64 x.Req.From,.int .i64 x.Req.Until,.int .i64 x.Req.Kind,.slice (some ⟨g1,0,none⟩) pn c1,.slice (some ⟨g2,0,none⟩) bn c2] 43 (0,0)):=hW6▸heap_setCell_same W5 w.heap.size 6 _ _ _ hb5
 have hz6:=hW6▸(heap_setCell_other W5 ⟨w.heap.size,6,none⟩ (w.heap.size+1) (.slice (some ⟨g2,0,none⟩) bn c2) (by show w.heap.size+1≠w.heap.size;omega)).trans hz5
 have hx6:Ext w W6:=hW6▸hx5.se (Nat.le_refl _) _
 have hp6:PiecesV W6 (.slice (some ⟨g1,0,none⟩) pn c1) x.Req.Pieces:=hW6▸sv2_kept hp5 (grown_set W5 w.heap.size 6 _) (by have:=HS.out.2.2;omega)
 have hv6:BitesV W6 (.slice (some ⟨g2,0,none⟩) bn c2) x.Bites:=hW6▸sv2_kept hv5 (grown_set W5 w.heap.size 6 _) (by omega)
 obtain ⟨_,_,_,_,_,_,k6,kf⟩:=bookCells7 hb5
 have f6:=kf 6
 have HX7:=hid (hx6.sr (b:=w.heap.size+1) (by omega) #[.int .i64 x.Id,.int .i64 x.Req.Queue,.int .i64 x.Req.From,.int .i64 x.Req.Until,.int .i64 x.Req.Kind,.slice (some ⟨g1,0,none⟩) pn c1,.slice (some ⟨g2,0,none⟩) bn c2])
 have HP7:=hid (sv2_kept hp6 (grown_srow W6 (w.heap.size+1) #[.int .i64 x.Id,.int .i64 x.Req.Queue,.int .i64 x.Req.From,.int .i64 x.Req.Until,.int .i64 x.Req.Kind,.slice (some ⟨g1,0,none⟩) pn c1,.slice (some ⟨g2,0,none⟩) bn c2]) (by have:=HS.out.2.2;omega))
 have HV7:=hid (sv2_kept hv6 (grown_srow W6 (w.heap.size+1) #[.int .i64 x.Id,.int .i64 x.Req.Queue,.int .i64 x.Req.From,.int .i64 x.Req.Until,.int .i64 x.Req.Kind,.slice (some ⟨g1,0,none⟩) pn c1,.slice (some ⟨g2,0,none⟩) bn c2]) (by have:=HS.out.1;omega))
 have HZ6:=hid hz6
 have HR7:=hid (setRow_heap W6 (w.heap.size+1) _ #[.int .i64 x.Id,.int .i64 x.Req.Queue,.int .i64 x.Req.From,.int .i64 x.Req.Until,.int .i64 x.Req.Kind,.slice (some ⟨g1,0,none⟩) pn c1,.slice (some ⟨g2,0,none⟩) bn c2] _ _ hz6)
 have HB6:=hid hb6
 have HW6:=hid hW6
 clear kf hb5 hz5 hx5 hp5 hv5 hW6 hb6 hz6 hx6 hp6 hv6 hown5 hgrow5 hnil5 HB4 HZ4 HX4 HP4 HW4 HOW4 k5 f5
 go_wp2_with (rw [HW6.out];obtain ⟨k0,k1,k2,k3,k4,k5,k6,kf⟩:=bookCells7 HB6.out;refine wpList_store_row rfl 43 _ _ rfl (w.heap.size+1) #[.int .i64 x.Id,.int .i64 x.Req.Queue,.int .i64 x.Req.From,.int .i64 x.Req.Until,.int .i64 x.Req.Kind,.slice (some ⟨g1,0,none⟩) pn c1,.slice (some ⟨g2,0,none⟩) bn c2] rfl rfl 43 _ HZ6.out Tryz.size43 rfl (by simp [Value.oneCell']) ?_)
 exact bodyPost_ret (results_cell_row rfl _ _ (w.heap.size+1) 43 #[.int .i64 x.Id,.int .i64 x.Req.Queue,.int .i64 x.Req.From,.int .i64 x.Req.Until,.int .i64 x.Req.Kind,.slice (some ⟨g1,0,none⟩) pn c1,.slice (some ⟨g2,0,none⟩) bn c2] (0,0) _ rfl HR7.out Tryz.underlying43 rfl Tryz.size43) rfl
  ⟨g1,c1,g2,c2,rfl,by have:=HS.out.2.2;omega,by omega,HP7.out,HV7.out,HX7.out⟩
theorem two_boxes2 (w:World) (s:State) (tv bv:Value):∃ w1:World,(w.alloc (.cells #[.int .i64 s.Clock,.int .i64 s.Next,tv,bv] 25)).alloc (.cells #[.int .i64 0,.int .i64 0,.slice none 0 0,.slice none 0 0] 25)=w1∧Ext w w1∧(∀ W,Ext w1 W→(W.cell? ⟨w.heap.size,0,none⟩=some (.int .i64 s.Clock)∧W.cell? ⟨w.heap.size,1,none⟩=some (.int .i64 s.Next)∧W.cell? ⟨w.heap.size,2,none⟩=some tv∧W.cell? ⟨w.heap.size,3,none⟩=some bv)) ∧
  (∀ W,Ext w1 W→W.heap[w.heap.size+1]?=some (.cells #[.int .i64 0,.int .i64 0,.slice none 0 0,.slice none 0 0] 25 (0,0)))∧w1.heap.size=w.heap.size+2:=by
 refine ⟨_,rfl,((Ext.rf w).al _).al _,fun W h=>stateCells (((Ext.rf _).al _).tr h),fun W h=>?_,by simp⟩
 have e:=heap_alloc_new (w.alloc (.cells #[.int .i64 s.Clock,.int .i64 s.Next,tv,bv] 25)) (.cells #[.int .i64 0,.int .i64 0,.slice none 0 0,.slice none 0 0] 25)
 simp only [World.size_alloc] at e
 exact (h.block _ (by simp)).trans e
structure RefAt (w wb:World) (X:Nat) (u:Value) (s:State) (bk:List Book) (v:Value) (W:World):Prop where
 box:W.heap[X]?=some (.cells #[.int .i64 s.Clock,.int .i64 s.Next,u,v] 25 (0,0))
 own:OwnS [X,w.heap.size+1,w.heap.size] w.heap.size W u v s.Tree bk
 ext:Ext wb W
 low:wb.heap.size≤X
theorem RefAt.later {w wb:World} {X:Nat} {u:Value} {s:State} {bk:List Book} {v:Value} {W W':World} (h:RefAt w wb X u s bk v W) (hx:Ext W W'):RefAt w wb X u s bk v W' :=
 ⟨(hx.block X (Array.getElem?_eq_some_iff.1 h.box).1).trans h.box,h.own.ext hx,h.ext.tr hx,h.low⟩
theorem OwnState_any (w:World) (tv bv:Value) (s:State) (hl:QueuesV w tv s.Tree) (hb:BooksV w bv s.Books) (ok:TreeOk s.Tree) (h12:s.Books.length≤12) (hok:∀ x∈s.Books,BookOk s.Tree x) :
  Calls Tryz.prog 25 #[.agg #[.int .i64 s.Clock,.int .i64 s.Next,tv,bv]] w fun e w'=>∃ u v,e=.returned (.agg #[.int .i64 s.Clock,.int .i64 s.Next,u,v])∧OwnS [] w.heap.size w' u v s.Tree s.Books∧Ext w w':=by
 obtain ⟨wb,hwb,HX,HSS,HZZ,hszb⟩:=two_boxes2 w s tv bv
 have HX0:=hid HX
 have HS0:=hid HSS
 have HZ0:=hid HZZ
 have HWB:=hid hwb
 have HSB:=hid hszb
 clear HX HSS HZZ hwb hszb
 have OT:=hid (fun (bs:List Nat) (W:World) (h:Ext w W) (hbs:∀ r∈bs,r < W.heap.size)=>ownTreeRef_any bs W tv s.Tree (hl.mono h) ok hbs)
 have HOK:=hid ok
 have HBS1:=hid (fun (n:Nat) (hn:w.heap.size+2≤n)=>show ∀ r∈(w.heap.size+1)::w.heap.size::List.range w.heap.size,r < n from fun r hr=>by
  rcases List.mem_cons.1 hr with h | h
  ·omega
  ·rcases List.mem_cons.1 h with h | h
   ·omega
   ·have:=range_lt h;omega)
 have HLT:=hid (show wb.heap.size < (wb.alloc (.cells #[.int .i64 0,.int .i64 0,.slice none 0 0,.slice none 0 0] 25)).drew.heap.size from by show wb.heap.size < (wb.alloc _).heap.size;simp)
 have HLV:=hid (liveB_of hok)
 have HBV:=hid hb
 have HTL:=hid hl
 obtain ⟨qa,qc,rfl,_,_,_⟩:=hl.form
 obtain ⟨ba,bc,rfl,_,_,_⟩:=hb.form
 clear hl hb ok hok
 obtain ⟨a0,a1,a2,a3⟩:=HS0.out wb (Ext.rf wb)
 go_enter Tryz.func25,Tryz.ntmps25
 go_wp2_with fail
 rw [HWB.out]
 go_cut [3] from 5 (fun p W=>∃ (X g cap:Nat),p=.pointer (some ⟨X,0,none⟩)∧Hid (RefAt w wb X (.slice (some ⟨g,0,none⟩) s.Tree.length cap) s (s.Books.take 0) (.slice none 0 0) W))
 case first =>
  refine wp_region_held_drew (S:=fun W=>W.cell? ⟨w.heap.size,0,none⟩=some (.int .i64 s.Clock)∧W.cell? ⟨w.heap.size,1,none⟩=some (.int .i64 s.Next)∧W.cell? ⟨w.heap.size,2,none⟩=some (.slice qa s.Tree.length qc)) (by kernel_rfl) ⟨a0,a1,a2⟩ (fun hHeld=>?_)
  refine wpAnyH_take (i:=0) (v:=?_) rfl (by kernel_rfl) (by kernel_rfl) (by kernel_rfl) (fun _ _ _ h=>h) (Or.inl ⟨by rfl,?_⟩) (by assumption) ?_
  rotate_left
  ·intro W hSW
   simp only [zA,zB]
   (try dsimp only at hSW)
   go_simp
   (try with_reducible rfl)
  simp only [zA,zB,Act.put,zD,zE,zF]
  refine wpAnyH_take (i:=1) (v:=?_) rfl (by kernel_rfl) (by kernel_rfl) (by kernel_rfl) (fun _ _ _ h=>h) (Or.inl ⟨by rfl,?_⟩) (by assumption) ?_
  rotate_left
  ·intro W hSW
   simp only [zA,zB,zC]
   (try dsimp only at hSW)
   go_simp
   (try with_reducible rfl)
  simp only [zA,zB,zC,Act.put,zD,zE,zF]
  refine wpAnyH_take (i:=2) (v:=?_) rfl (by kernel_rfl) (by kernel_rfl) (by kernel_rfl) (fun _ _ _ h=>h) (Or.inl ⟨by rfl,?_⟩) (by assumption) ?_
  rotate_left
  ·intro W hSW
   simp only [zA,zB,zC]
   (try dsimp only at hSW)
   go_simp
   (try with_reducible rfl)
  simp only [zA,zB,zC,Act.put,zD,zE,zF]
  refine wpAnyH_take (i:=3) (v:=?_) rfl (by kernel_rfl) (by kernel_rfl) (by kernel_rfl) (fun _ _ _ h=>h) (Or.inl ⟨by rfl,?_⟩) (by assumption) ?_
  rotate_left
  ·intro W hSW
   simp only [zA,zB,zC]
   (try dsimp only at hSW)
   go_simp
   (try with_reducible rfl)
  simp only [zA,zB,zC,Act.put,zD,zE,zF]
  refine wpAnyH_take (i:=4) (v:=?_) rfl (by kernel_rfl) (by kernel_rfl) (by kernel_rfl) (fun _ _ _ h=>h) (Or.inl ⟨by rfl,?_⟩) (by assumption) ?_
  rotate_left
  ·intro W hSW
   simp only [zA,zB,zC]
   (try dsimp only at hSW)
   go_simp
   (try with_reducible rfl)
  simp only [zA,zB,zC,Act.put,zD,zE,zF]
  refine wpAnyH_take (i:=5) (v:=?_) rfl (by kernel_rfl) (by kernel_rfl) (by kernel_rfl) (fun _ _ _ h=>h) (Or.inl ⟨by rfl,?_⟩) (by assumption) ?_
  rotate_left
  ·intro W hSW
   simp only [zA,zB,zC]
   (try dsimp only at hSW)
   go_simp
   (try with_reducible rfl)
  simp only [zA,zB,zC,Act.put,zD,zE,zF]
  refine wpAnyH_ready (rs:=[6,8]) (by kernel_rfl) (by simp) ?_
  refine AllReadyH.cons rfl (fun K hK=>?_) (AllReadyH.cons rfl (fun K hK=>?_) AllReadyH.nil)
  all_goals simp only [zA,zB,zC]
  ·go_simp
   refine (OT.out ((w.heap.size+1)::w.heap.size::List.range w.heap.size) _ HX0.out.dr (HBS1.out _ (Nat.le_of_eq HSB.out.symm))).mono ?_
   rintro e W1 ⟨g,cap,rfl,hc1,hc2,hg,hq,hx⟩
   go_wp2_with fail
   have hx1:Ext wb W1:=(Ext.rf wb).dr.tr hx
   refine hK.out _ _ ?_ (fun hHeld=>?_)
   ·(obtain ⟨k0,k1,k2,_⟩:=HS0.out W1 hx1;exact ⟨k0,k1,k2⟩)
   clear hK K
   refine wpAnyH_take (i:=7) (v:=?_) rfl (by kernel_rfl) (by kernel_rfl) (by kernel_rfl) (fun _ _ _ h=>h) (Or.inl ⟨by rfl,?_⟩) (by assumption) ?_
   rotate_left
   ·intro W hSW
    simp only [zA,zB,zC]
    (try dsimp only at hSW)
    go_simp
    (try with_reducible rfl)
   simp only [zA,zB,zC,Act.put,zD,zE,zF]
   refine wpAnyH_ready (rs:=[8]) (by kernel_rfl) (by simp) ?_
   refine AllReadyH.cons rfl (fun K hK=>?_) AllReadyH.nil
   simp only [zA,zB,zC]
   go_simp
   refine hK.out _ _ ?_ (fun hHeld=>?_)
   ·(obtain ⟨k0,k1,k2,_⟩:=HS0.out _ (hx1.al (.cells #[.int .i64 0,.int .i64 0,.slice none 0 0,.slice none 0 0] 25));exact ⟨k0,k1,k2⟩)
   clear hK K
   refine wpAnyH_ready (rs:=[9]) (by kernel_rfl) (by simp) ?_
   refine AllReadyH.cons rfl (fun K hK=>?_) AllReadyH.nil
   simp only [zA,zB,zC]
   rw [if_pos (by rfl)]
   refine wp_store_row 25 _ _ rfl W1.heap.size #[.int .i64 s.Clock,.int .i64 s.Next,.slice (some ⟨g,0,none⟩) s.Tree.length cap,.slice none 0 0] rfl rfl 25 _ (heap_alloc_new W1 _) Tryz.size25 rfl (by simp [Value.oneCell']) ?_
   have hx2:Ext wb ((W1.alloc (.cells #[.int .i64 0,.int .i64 0,.slice none 0 0,.slice none 0 0] 25)).setRow W1.heap.size #[.int .i64 s.Clock,.int .i64 s.Next,.slice (some ⟨g,0,none⟩) s.Tree.length cap,.slice none 0 0]):=(hx1.al _).sr (b:=W1.heap.size) hx1.size _
   refine hK.out _ _ ?_ (fun hHeld=>?_)
   ·(obtain ⟨k0,k1,k2,_⟩:=HS0.out _ hx2;exact ⟨k0,k1,k2⟩)
   clear hK K
   refine wpAnyH_done (by kernel_rfl) ?_ _
   go_wp2_with fail
   go_meet
   case rel =>
    have hX:Ext W1 ((W1.alloc (.cells #[.int .i64 0,.int .i64 0,.slice none 0 0,.slice none 0 0] 25)).setRow W1.heap.size #[.int .i64 s.Clock,.int .i64 s.Next,.slice (some ⟨g,0,none⟩) s.Tree.length cap,.slice none 0 0]):=((Ext.rf W1).al _).sr (b:=W1.heap.size) (Nat.le_refl _) _
    have hwb:wb.heap.size≤g:=hg
    have hsb:=HSB.out
    have ho:=OwnS.ofTree (ex:=[w.heap.size+1,w.heap.size]) (B:=w.heap.size) hq hc1 hc2 HOK.out (by omega) (by simp;omega)
    exact ⟨_,_,_,rfl,⟨setRow_heap _ W1.heap.size _ _ _ _ (heap_alloc_new W1 _),(ho.box (Nat.le_refl _)).ext hX,hx2,hx1.size⟩⟩
  ·go_simp
   refine hK.out _ _ ?_ (fun hHeld=>?_)
   ·(obtain ⟨k0,k1,k2,_⟩:=HS0.out _ ((Ext.rf wb).al (.cells #[.int .i64 0,.int .i64 0,.slice none 0 0,.slice none 0 0] 25));exact ⟨k0,k1,k2⟩)
   clear hK K
   refine wpAnyH_ready (rs:=[6]) (by kernel_rfl) (by simp) ?_
   refine AllReadyH.cons rfl (fun K hK=>?_) AllReadyH.nil
   simp only [zA,zB,zC]
   go_simp
   refine (OT.out (wb.heap.size::(w.heap.size+1)::w.heap.size::List.range w.heap.size) _ (HX0.out.al _).dr (fun r hr=>?_)).mono ?_
   ·rcases List.mem_cons.1 hr with h | h
    ·rw [h];exact HLT.out
    ·have:=HBS1.out _ (Nat.le_of_eq HSB.out.symm) r h
     exact Nat.lt_trans this HLT.out
   rintro e W1 ⟨g,cap,rfl,hc1,hc2,hg,hq,hx⟩
   go_wp2_with fail
   have hx1:Ext wb W1:=((Ext.rf wb).al _).dr.tr hx
   refine hK.out _ _ ?_ (fun hHeld=>?_)
   ·(obtain ⟨k0,k1,k2,_⟩:=HS0.out W1 hx1;exact ⟨k0,k1,k2⟩)
   clear hK K
   refine wpAnyH_take (i:=7) (v:=?_) rfl (by kernel_rfl) (by kernel_rfl) (by kernel_rfl) (fun _ _ _ h=>h) (Or.inl ⟨by rfl,?_⟩) (by assumption) ?_
   rotate_left
   ·intro W hSW
    simp only [zA,zB,zC]
    (try dsimp only at hSW)
    go_simp
    (try with_reducible rfl)
   simp only [zA,zB,zC,Act.put,zD,zE,zF]
   refine wpAnyH_ready (rs:=[9]) (by kernel_rfl) (by simp) ?_
   refine AllReadyH.cons rfl (fun K hK=>?_) AllReadyH.nil
   simp only [zA,zB,zC]
   rw [if_pos (by rfl)]
   have hXB:W1.heap[wb.heap.size]?=some (.cells #[.int .i64 0,.int .i64 0,.slice none 0 0,.slice none 0 0] 25 (0,0)):=(hx.block _ HLT.out).trans (heap_alloc_new wb _)
   refine wp_store_row 25 _ _ rfl wb.heap.size #[.int .i64 s.Clock,.int .i64 s.Next,.slice (some ⟨g,0,none⟩) s.Tree.length cap,.slice none 0 0] rfl rfl 25 _ hXB Tryz.size25 rfl (by simp [Value.oneCell']) ?_
   have hx2:Ext wb (W1.setRow wb.heap.size #[.int .i64 s.Clock,.int .i64 s.Next,.slice (some ⟨g,0,none⟩) s.Tree.length cap,.slice none 0 0]):=hx1.sr (b:=wb.heap.size) (Nat.le_refl _) _
   refine hK.out _ _ ?_ (fun hHeld=>?_)
   ·(obtain ⟨k0,k1,k2,_⟩:=HS0.out _ hx2;exact ⟨k0,k1,k2⟩)
   clear hK K
   refine wpAnyH_done (by kernel_rfl) ?_ _
   go_wp2_with fail
   go_meet
   case rel =>
    have hlt:=HLT.out
    have hsb:=HSB.out
    have hwb:wb.heap.size+1≤g:=by
     have h2:(wb.alloc (.cells #[.int .i64 0,.int .i64 0,.slice none 0 0,.slice none 0 0] 25)).drew.heap.size≤g:=hg
     have h3:(wb.alloc (.cells #[.int .i64 0,.int .i64 0,.slice none 0 0,.slice none 0 0] 25)).heap.size=wb.heap.size+1:=by simp
     have h4:(wb.alloc (.cells #[.int .i64 0,.int .i64 0,.slice none 0 0,.slice none 0 0] 25)).drew.heap.size=(wb.alloc (.cells #[.int .i64 0,.int .i64 0,.slice none 0 0,.slice none 0 0] 25)).heap.size:=rfl
     omega
    have ho:=OwnS.ofTree (ex:=[wb.heap.size,w.heap.size+1,w.heap.size]) (B:=w.heap.size) hq hc1 hc2 HOK.out (by omega) (by simp;omega)
    exact ⟨_,_,_,rfl,⟨setRow_heap _ wb.heap.size _ _ _ _ hXB,ho.kept (grown_srow _ _ _) (List.mem_cons_self ..),hx2,Nat.le_refl _⟩⟩
 case rest =>
  obtain ⟨X,g,cap,rfl,HR0⟩:=hcut
  obtain ⟨ib,ib1,ib2,ib3,ib4⟩:=info_parts Tryz.info43
  obtain ⟨ba',bc',hbe,_,_,_,hbE⟩:=books_at HBV.out
  cases hbe
  have HBE:=hid hbE
  clear hbE
  generalize hbz:s.Books.length=z at *
  have HZB:=hid hbz
  clear hbz
  clear a0 a1 a2 a3
  go_wp2_with fail
  go_loopw [4] (fun c wr=>∃ (k:Nat) (v:Value),c=.int .i64 k∧k≤z∧Hid (RefAt w wb X (.slice (some ⟨g,0,none⟩) s.Tree.length cap) s (s.Books.take k) v wr)) (fun c _=>z - (intOf c).toNat)
  case atStart=>exact ⟨0,_,rfl,by omega,HR0⟩
  case round =>
   obtain ⟨k,v,rfl,hk,HA⟩:=hrel
   obtain ⟨_,_,_,k3⟩:=HS0.out wr HA.out.ext
   have hXw:X < wr.heap.size:=(Array.getElem?_eq_some_iff.1 HA.out.box).1
   have hXB:=HA.out.low
   by_cases hlt:k < z
   ·have hlt':(k:Int) < (z:Int):=by omega
    have hlen:(s.Books.take k).length=k:=by rw [List.length_take,HZB.out];omega
    obtain ⟨va,vcc,rfl,hrow⟩:=HA.out.own.vform
    rw [hlen] at hrow HA
    have HROW:=hid hrow
    obtain ⟨css,o1,hmore⟩:=HA.out.own.more (by rw [hlen];omega)
    rw [hlen] at o1
    have HO1:=hid o1
    have HMORE:=hid hmore
    obtain ⟨_,_,he,hgB,hgs⟩:=HA.out.own.uform
    cases he
    obtain ⟨x,hxk⟩:=getA (f:=s.Books) (k:=k) (by rw [HZB.out];exact hlt)
    have hlx:LiveX x:=HLV.out x (List.mem_of_getElem? hxk)
    obtain ⟨bb,bo,rfl,hbb,hEE⟩:=HBE.out (by omega)
    obtain ⟨pv,bv,c0,c1,c2,c3,c4,c5,c6,hp,hbi⟩:=ebook_cells (EBook.mono w wr bb _ x (HX0.out.tr HA.out.ext) (hEE k x hxk))
    have hX0:=hid (show I64 x.Id∧I64 x.Req.Queue∧I64 x.Req.From∧I64 x.Req.Until∧I64 x.Req.Kind from by
     obtain ⟨cs,⟨qs,bv,rfl,⟨pv,rfl,hp,i1,i2,i3,i4⟩,hb,i5⟩,_⟩:=hEE k x hxk
     exact ⟨i5,i1,i2,i3,i4⟩)
    have OB:=hid (fun (W:World) (h:Ext wr W)=>ownBook_any W pv bv x (hp.mono h) (hbi.mono h) hlx)
    have HTK:=hid (show s.Books.take (k+1)=s.Books.take k++[x] from by rw [List.take_add_one,hxk];rfl)
    obtain ⟨pa,pc,rfl,_,_,_⟩:=hp.form
    obtain ⟨ia,ic,rfl,_,_,_⟩:=hbi.form
    have HLX:=hid hlx
    have e3:wr.cell? ⟨X,3,none⟩=some (.slice va k vcc):=cell_of_row _ _ 3 _ _ _ HA.out.box
    have t1:=deF (show ¬ (k:Int) < 0 by omega)
    have t2:=deF (show ¬ (z:Int)≤(k:Int) by omega)
    have t3:=deF (show ¬ z≤k by omega)
    have hbbw:bb < wr.heap.size:=Nat.lt_of_lt_of_le hbb (HX0.out.tr HA.out.ext).size
    have hrw2:∀ r,(Value.slice va k vcc).ownBlock=some r→w.heap.size≤r∧r < wr.heap.size∧r≠X∧r≠w.heap.size∧r≠w.heap.size+1:=fun r hr=>⟨(hrow r hr).1,(hrow r hr).2,HA.out.own.vne r hr X (List.mem_cons_self ..),HA.out.own.vne r hr w.heap.size (by simp),HA.out.own.vne r hr (w.heap.size+1) (by simp)⟩
    clear hp hbi hxk hlx hrow o1 hmore hEE
    go_wp2_with fail
    refine wp_region_tail 11 (fun W=>W.cell? ⟨X,3,none⟩=some (.slice va k vcc)∧W.cell? ⟨w.heap.size,3,none⟩=some (.slice (some ⟨bb,bo,none⟩) z bc)∧W.cell? ⟨bb,bo+k*7,none⟩=some (.int .i64 x.Id)∧W.cell? ⟨bb,bo+k*7+1,none⟩=some (.int .i64 x.Req.Queue)∧W.cell? ⟨bb,bo+k*7+2,none⟩=some (.int .i64 x.Req.From)∧W.cell? ⟨bb,bo+k*7+3,none⟩=some (.int .i64 x.Req.Until)∧W.cell? ⟨bb,bo+k*7+4,none⟩=some (.int .i64 x.Req.Kind)∧W.cell? ⟨bb,bo+k*7+5,none⟩=some (.slice pa x.Req.Pieces.length pc)∧W.cell? ⟨bb,bo+k*7+6,none⟩=some (.slice ia x.Bites.length ic)) (by kernel_rfl) ⟨e3,k3,c0,c1,c2,c3,c4,c5,c6⟩ (fun hHeld=>?_)
    refine wpAnyT_take (i:=0) (v:=?_) rfl (by kernel_rfl) (fun _ _ _ h=>h) (Or.inl ⟨by rfl,?_⟩) (by assumption) ?_
    rotate_left
    ·intro W hSW
     simp only [zA,zB]
     (try dsimp only at hSW)
     go_simp
     (try with_reducible rfl)
    simp only [zA,zB,Act.put,zD,zE,zF]
    refine wpAnyT_take (i:=1) (v:=?_) rfl (by kernel_rfl) (fun _ _ _ h=>h) (Or.inl ⟨by rfl,?_⟩) (by assumption) ?_
    rotate_left
    ·intro W hSW
     simp only [zA,zB,zC]
     (try dsimp only at hSW)
     go_simp
     (try with_reducible rfl)
    simp only [zA,zB,zC,Act.put,zD,zE,zF]
    refine wpAnyT_take (i:=2) (v:=?_) rfl (by kernel_rfl) (fun _ _ _ h=>h) (Or.inl ⟨by rfl,?_⟩) (by assumption) ?_
    rotate_left
    ·intro W hSW
     simp only [zA,zB,zC]
     (try dsimp only at hSW)
     go_simp
     (try with_reducible rfl)
    simp only [zA,zB,zC,Act.put,zD,zE,zF]
    refine wpAnyT_take (i:=3) (v:=?_) rfl (by kernel_rfl) (fun _ _ _ h=>h) (Or.inl ⟨by rfl,?_⟩) (by assumption) ?_
    rotate_left
    ·intro W hSW
     simp only [zA,zB,zC]
     (try dsimp only at hSW)
     go_simp
     (try with_reducible rfl)
    simp only [zA,zB,zC,Act.put,zD,zE,zF]
    refine wpAnyT_take (i:=4) (v:=?_) rfl (by kernel_rfl) (fun _ _ _ h=>h) (Or.inl ⟨by rfl,?_⟩) (by assumption) ?_
    rotate_left
    ·intro W hSW
     simp only [zA,zB,zC]
     (try dsimp only at hSW)
     go_simp
     (try with_reducible rfl)
    simp only [zA,zB,zC,Act.put,zD,zE,zF]
    refine wpAnyT_take (i:=5) (v:=?_) rfl (by kernel_rfl) (fun _ _ _ h=>h) (Or.inl ⟨by rfl,?_⟩) (by assumption) ?_
    rotate_left
    ·intro W hSW
     simp only [zA,zB,zC]
     (try dsimp only at hSW)
     go_simp
     (try with_reducible rfl)
    simp only [zA,zB,zC,Act.put,zD,zE,zF]
    refine wpAnyT_take (i:=6) (v:=?_) rfl (by kernel_rfl) (fun _ _ _ h=>h) (Or.inl ⟨by rfl,?_⟩) (by assumption) ?_
    rotate_left
    ·intro W hSW
     simp only [zA,zB,zC]
     (try dsimp only at hSW)
     go_simp
     (try with_reducible rfl)
    simp only [zA,zB,zC,Act.put,zD,zE,zF]
    refine wpAnyT_go (i:=7) (by kernel_rfl) rfl (fun K hK=>?_)
    simp only [zA,zB,zC]
    go_simp
    refine (OB.out _ (Ext.rf wr).dr).mono ?_
    rintro e W2 ⟨g1,cp1,g2,cp2,rfl,hg1,hg2,hp2,hv2,hx2⟩
    go_wp2_with fail
    have hx02:Ext wr W2:=(Ext.rf wr).dr.tr hx2
    refine hK.out _ _ ?_ (fun hHeld=>?_)
    ·(obtain ⟨k0,k1,k2,k3,k4,k5,k6,k7,k8⟩:=hHeld;exact ⟨hx2.ce' k0,hx2.ce' k1,hx2.ce' k2,hx2.ce' k3,hx2.ce' k4,hx2.ce' k5,hx2.ce' k6,hx2.ce' k7,hx2.ce' k8⟩)
    clear hK K
    refine wpAnyT_go (i:=8) (by kernel_rfl) rfl (fun K hK=>?_)
    simp only [zA,zB,zC]
    go_simp
    have hal:=(Ext.rf W2).al (.cells #[.int .i64 x.Id,.int .i64 x.Req.Queue,.int .i64 x.Req.From,.int .i64 x.Req.Until,.int .i64 x.Req.Kind,.slice (some ⟨g1,0,none⟩) x.Req.Pieces.length cp1,.slice (some ⟨g2,0,none⟩) x.Bites.length cp2] 43)
    refine hK.out _ _ ?_ (fun hHeld=>?_)
    ·(obtain ⟨k0,k1,k2,k3,k4,k5,k6,k7,k8⟩:=hHeld;exact ⟨hal.ce' k0,hal.ce' k1,hal.ce' k2,hal.ce' k3,hal.ce' k4,hal.ce' k5,hal.ce' k6,hal.ce' k7,hal.ce' k8⟩)
    clear hK K
    have HX2:=hid (hx02.tr hal)
    have HN7:=hid (news7 W2 [.int .i64 x.Id,.int .i64 x.Req.Queue,.int .i64 x.Req.From,.int .i64 x.Req.Until,.int .i64 x.Req.Kind,.slice (some ⟨g1,0,none⟩) x.Req.Pieces.length cp1,.slice (some ⟨g2,0,none⟩) x.Bites.length cp2] 43 rfl)
    have HG:=hid (snoc_cond (W:=wr) (W1:=W2.alloc (.cells #[.int .i64 x.Id,.int .i64 x.Req.Queue,.int .i64 x.Req.From,.int .i64 x.Req.Until,.int .i64 x.Req.Kind,.slice (some ⟨g1,0,none⟩) x.Req.Pieces.length cp1,.slice (some ⟨g2,0,none⟩) x.Bites.length cp2] 43)) (B:=w.heap.size) (ex:=[X,w.heap.size+1,w.heap.size]) (u:=.slice (some ⟨g,0,none⟩) s.Tree.length cap) (v:=.slice va k vcc) (n1:=x.Req.Pieces.length) (n2:=x.Bites.length) (c1:=cp1) (c2:=cp2) (x:=x) (HX0.out.tr HA.out.ext).size hg1 hg2 (by rw [World.size_alloc];have:=sv2_lt hp2 HLX.out.1.1;omega) (by rw [World.size_alloc];have:=sv2_lt hv2 HLX.out.1.2;omega) (fun r hr=>by
     have h2:r=X∨r=w.heap.size+1∨r=w.heap.size:=by simpa using hr
     have:=HSB.out
     omega) (fun r hr=>by
     have h2:g=r:=by simpa [Value.ownBlock] using hr
     omega) (fun r hr=>(hrw2 r hr).2.1))
    have HBC:=hid (show BookC (W2.alloc (.cells #[.int .i64 x.Id,.int .i64 x.Req.Queue,.int .i64 x.Req.From,.int .i64 x.Req.Until,.int .i64 x.Req.Kind,.slice (some ⟨g1,0,none⟩) x.Req.Pieces.length cp1,.slice (some ⟨g2,0,none⟩) x.Bites.length cp2] 43)) [.int .i64 x.Id,.int .i64 x.Req.Queue,.int .i64 x.Req.From,.int .i64 x.Req.Until,.int .i64 x.Req.Kind,.slice (some ⟨g1,0,none⟩) x.Req.Pieces.length cp1,.slice (some ⟨g2,0,none⟩) x.Bites.length cp2] x from ⟨_,_,rfl,⟨_,rfl,hp2.mono ((Ext.rf W2).al _),hX0.out.2⟩,hv2.mono ((Ext.rf W2).al _),hX0.out.1⟩)
    clear hp2 hv2 hal hx02
    refine wpAnyT_go (i:=9) (by kernel_rfl) rfl (fun K hK=>?_)
    simp only [zA,zB,zC]
    rw [if_pos (by rfl)]
    refine wp_append_lies _ _ _ _ (by rfl) w.heap.size 43 ib _ 7 88 Tryz.underlying23 ib1 ib2 ib3 ib4 rfl (by decide) (.slice va k vcc) k css.flatten (by rfl) (ownsRow_ext HO1.out HX2.out) ⟨W2.heap.size,0,none⟩ 1 1 [.int .i64 x.Id,.int .i64 x.Req.Queue,.int .i64 x.Req.From,.int .i64 x.Req.Until,.int .i64 x.Req.Kind,.slice (some ⟨g1,0,none⟩) x.Req.Pieces.length cp1,.slice (some ⟨g2,0,none⟩) x.Bites.length cp2] (by rfl) (by rfl) HN7.out (by simp [Value.oneCell']) (by omega) (by unfold maxLen;omega) (by omega) ((HX0.out.tr HA.out.ext).tr HX2.out).size (W2.heap.size+1) (by simp) ?_
    intro g3 cp3 W3 hown hgrow hlie hlt3
    have hgn:∀ (b:Nat) (o:Nat) (u:Value),(W2.alloc (.cells #[.int .i64 x.Id,.int .i64 x.Req.Queue,.int .i64 x.Req.From,.int .i64 x.Req.Until,.int .i64 x.Req.Kind,.slice (some ⟨g1,0,none⟩) x.Req.Pieces.length cp1,.slice (some ⟨g2,0,none⟩) x.Bites.length cp2] 43)).cell? ⟨b,o,none⟩=some u→(b < w.heap.size∨b=w.heap.size∨b=X)→W3.cell? ⟨b,o,none⟩=some u:=fun b o u h hb=>grown_cell hgrow h (fun r hr e=>by
     subst e
     have h2:=hrw2 r hr
     omega)
    refine hK.out _ _ ?_ (fun hHeld=>?_)
    ·(obtain ⟨k0,k1,k2,k3,k4,k5,k6,k7,k8⟩:=hHeld;exact ⟨hgn _ _ _ k0 (.inr (.inr rfl)),hgn _ _ _ k1 (.inr (.inl rfl)),hgn _ _ _ k2 (.inl hbb),hgn _ _ _ k3 (.inl hbb),hgn _ _ _ k4 (.inl hbb),hgn _ _ _ k5 (.inl hbb),hgn _ _ _ k6 (.inl hbb),hgn _ _ _ k7 (.inl hbb),hgn _ _ _ k8 (.inl hbb)⟩)
    clear hK K
    have hb3:W3.heap[X]?=some (.cells #[.int .i64 s.Clock,.int .i64 s.Next,.slice (some ⟨g,0,none⟩) s.Tree.length cap,.slice va k vcc] 25 (0,0)) :=
     (hgrow.block X (Nat.lt_of_lt_of_le hXw HX2.out.size) (fun e=>(hrw2 X e.symm).2.2.1 rfl)).trans ((HX2.out.block X hXw).trans HA.out.box)
    have f3:=frozen_of_row W3 X 3 _ _ hb3
    have hgs3:=grown_set W3 X 3 (.slice (some ⟨g3,0,none⟩) (k+1) cp3)
    have HA3:=hid (show RefAt w wb X (.slice (some ⟨g,0,none⟩) s.Tree.length cap) s (s.Books.take (k+1)) (.slice (some ⟨g3,0,none⟩) (k+1) cp3) (W3.setCell ⟨X,3,none⟩ (.slice (some ⟨g3,0,none⟩) (k+1) cp3)) from by
     refine ⟨heap_setCell_same W3 X 3 _ _ _ hb3,?_,((HA.out.ext.tr HX2.out).gr hgrow (fun r hr=>by have:=hrw2 r hr;have:=HSB.out;omega)).se hXB _,hXB⟩
     rw [HTK.out]
     refine (HMORE.out _ W3 g3 (k+1) cp3 _ x HX2.out HBC.out HLX.out HG.out hown (by rw [hlen]) hgrow (by rw [World.size_alloc];exact hlie) (fun r hr=>?_)).kept hgs3 (List.mem_cons_self ..)
     have h2:r=X∨r=w.heap.size+1∨r=w.heap.size:=by simpa using hr
     have:=HSB.out
     have:=HX2.out.size
     omega)
    clear hgn hown hgrow hlie hb3 hgs3
    refine wpAnyT_take (i:=10) (v:=?_) rfl (by kernel_rfl) (fun _ _ _ h=>h) (Or.inl ⟨by rfl,?_⟩) (by assumption) ?_
    rotate_left
    ·intro W hSW
     simp only [zA,zB,zC]
     (try dsimp only at hSW)
     go_simp
     (try with_reducible rfl)
    simp only [zA,zB,zC,Act.put,zD,zE,zF]
    refine wpAnyT_last (t:=11) (by kernel_rfl) rfl (by kernel_rfl) (fun K hK=>?_)
    simp only [zA,zB,zC]
    obtain ⟨k0,_⟩:=hHeld
    go_simp
    refine hK.out _ _ ?_
    clear hK K
    go_wp2_with fail
    go_roundw
    case rel=>exact ⟨k+1,_,by go_num,by omega,HA3⟩
    case measure=>simp [intOf];omega
   ·obtain rfl:k=z:=by omega
    have hlt':¬ (k:Int) < (k:Int):=by omega
    have htk:s.Books.take k=s.Books:=List.take_of_length_le (by rw [HZB.out];omega)
    obtain ⟨va,vcc,rfl,hrow⟩:=HA.out.own.vform
    rw [htk,HZB.out] at HA
    have hown:=HA.out.own
    have d0:wr.cell? ⟨X,0,none⟩=some (.int .i64 s.Clock):=cell_of_row _ _ 0 _ _ _ HA.out.box
    have d1:wr.cell? ⟨X,1,none⟩=some (.int .i64 s.Next):=cell_of_row _ _ 1 _ _ _ HA.out.box
    have d2:wr.cell? ⟨X,2,none⟩=some (.slice (some ⟨g,0,none⟩) s.Tree.length cap):=cell_of_row _ _ 2 _ _ _ HA.out.box
    have d3:wr.cell? ⟨X,3,none⟩=some (.slice va k vcc):=cell_of_row _ _ 3 _ _ _ HA.out.box
    have HZ:=hid (HZ0.out wr HA.out.ext)
    have HR9:=hid (setRow_heap wr (w.heap.size+1) _ #[.int .i64 s.Clock,.int .i64 s.Next,.slice (some ⟨g,0,none⟩) s.Tree.length cap,.slice va k vcc] _ _ HZ.out)
    have HO9:=hid ((hown.kept (grown_srow wr (w.heap.size+1) #[.int .i64 s.Clock,.int .i64 s.Next,.slice (some ⟨g,0,none⟩) s.Tree.length cap,.slice va k vcc]) (by simp)).low (ex2:=[]) (Nat.le_refl _) (fun r hr=>by cases hr))
    have HX9:=hid ((HX0.out.tr HA.out.ext).sr (b:=w.heap.size+1) (by omega) #[.int .i64 s.Clock,.int .i64 s.Next,.slice (some ⟨g,0,none⟩) s.Tree.length cap,.slice va k vcc])
    clear hown htk hrow
    go_wp2_with (refine wpList_store_row rfl 25 _ _ rfl (w.heap.size+1) #[.int .i64 s.Clock,.int .i64 s.Next,.slice (some ⟨g,0,none⟩) s.Tree.length cap,.slice va k vcc] rfl rfl 25 _ HZ.out Tryz.size25 rfl (by simp [Value.oneCell']) ?_)
    exact bodyPost_ret (results_cell_row rfl _ _ (w.heap.size+1) 25 #[.int .i64 s.Clock,.int .i64 s.Next,.slice (some ⟨g,0,none⟩) s.Tree.length cap,.slice va k vcc] (0,0) _ rfl HR9.out Tryz.underlying25 rfl Tryz.size25) rfl ⟨_,_,rfl,HO9.out,HX9.out⟩
/- Walk of the reference's SubmitOf. -/
set_option linter.unusedVariables false
namespace Go.Proofs.YtncaoclhlfkdoaaGreat
open Go.RowKit
end Go.Proofs.YtncaoclhlfkdoaaGreat
