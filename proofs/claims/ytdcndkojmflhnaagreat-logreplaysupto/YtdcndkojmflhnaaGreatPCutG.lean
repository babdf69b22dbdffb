/- Walk of cut.back; each theorem names its own conditions. -/
import Derived.Test.YtdcndkojmflhnaaGreatPCutE
set_option linter.unusedVariables false
set_option linter.unusedSimpArgs false
set_option maxRecDepth 100000
set_option maxHeartbeats 8000000
set_option linter.unusedSimpArgs false
set_option linter.unusedVariables false
namespace Go.Proofs.YtdcndkojmflhnaaGreat
open Go.RowKit
open List renaming getElem_toArray→zA,getElem_cons_zero→zB,getElem_cons_succ→zC,setIfInBounds_toArray→zD,set_cons_zero→zE,set_cons_succ→zF
structure BackAt (w0:World) (X gq qc gb cap z:Nat) (c nx:Int) (l:List Queue) (b:List Book) (ex:List Nat) (x:Book) (pv bv:Value) (W:World):Prop where
 box:W.heap[X]?=some (.cells #[.int .i64 c,.int .i64 nx,.slice (some ⟨gq,0,none⟩) l.length qc,.slice (some ⟨gb,0,none⟩) z cap] 25 (0,0))
 own:OwnS ex w0.heap.size W (.slice (some ⟨gq,0,none⟩) l.length qc) (.slice (some ⟨gb,0,none⟩) z cap) l b
 len:b.length=z
 xin:X∈ex
 exlt:∀ r∈ex,r < W.heap.size
 right:stateE ⟨c,nx,l,b⟩=0
 book:BookOk l x
 id:0≤x.Id∧x.Id < nx
 diff:∀ y∈b,y.Id≠x.Id
 room:z < 12∧z < cap
 cells:BookC W [.int .i64 x.Id,.int .i64 x.Req.Queue,.int .i64 x.Req.From,.int .i64 x.Req.Until,.int .i64 x.Req.Kind,pv,bv] x
 apart:∀ s∈([.int .i64 x.Id,.int .i64 x.Req.Queue,.int .i64 x.Req.From,.int .i64 x.Req.Until,.int .i64 x.Req.Kind,pv,bv]:List Value),∀ a n c,s=.slice (some a) n c→a.block < W.heap.size∧a.block≠gb∧w0.heap.size≤a.block∧a.block ∉ ex∧∀ r,(Value.slice (some ⟨gq,0,none⟩) l.length qc).ownBlock=some r→a.block≠r
 low:w0.heap.size≤W.heap.size
theorem bookC_parts {W:World} {x:Book} {pv bv:Value} (h:BookC W [.int .i64 x.Id,.int .i64 x.Req.Queue,.int .i64 x.Req.From,.int .i64 x.Req.Until,.int .i64 x.Req.Kind,pv,bv] x):PiecesV W pv x.Req.Pieces∧BitesV W bv x.Bites∧(I64 x.Req.Queue∧I64 x.Req.From∧I64 x.Req.Until∧I64 x.Req.Kind)∧I64 x.Id:=by
 obtain ⟨qs,bv',e,⟨pv',rfl,hp,hi⟩,hb,i5⟩:=h
 have e1:pv=pv'∧bv=bv':=by simpa using e
 rw [e1.1,e1.2]
 exact ⟨hp,hb,hi,i5⟩
theorem back_boxes (w:World) (X:Nat) (x:Book) (pv bv:Value):∃ w1:World,(w.alloc (.cells #[.pointer (some ⟨X,0,none⟩)] 128)).alloc (.cells #[.int .i64 x.Id,.int .i64 x.Req.Queue,.int .i64 x.Req.From,.int .i64 x.Req.Until,.int .i64 x.Req.Kind,pv,bv] 40)=w1∧Ext w w1 ∧
  w1.heap[w.heap.size]?=some (.cells #[.pointer (some ⟨X,0,none⟩)] 128 (0,0))∧w1.heap[w.heap.size+1]?=some (.cells #[.int .i64 x.Id,.int .i64 x.Req.Queue,.int .i64 x.Req.From,.int .i64 x.Req.Until,.int .i64 x.Req.Kind,pv,bv] 40 (0,0))∧w1.heap.size=w.heap.size+1+1:=by
 refine ⟨_,rfl,((Ext.rf w).al _).al _,?_,?_,by simp⟩
 ·exact (Below.heap_alloc _ _ _ (by simp)).trans (World.alloc_heap_new w _)
 ·have:=World.alloc_heap_new (w.alloc (.cells #[.pointer (some ⟨X,0,none⟩)] 128)) (.cells #[.int .i64 x.Id,.int .i64 x.Req.Queue,.int .i64 x.Req.From,.int .i64 x.Req.Until,.int .i64 x.Req.Kind,pv,bv] 40)
  rwa [World.size_alloc] at this
def BackPost (w0 w:World) (X gq qc gb cap z:Nat) (c nx:Int) (l:List Queue) (b:List Book) (ex:List Nat) (x:Book) (e:Ending) (w':World):Prop :=
 (goneB l c b x=true∧e=.returned (.bool false)∧Ext w w') ∨
 (goneB l c b x=false∧e=.returned (.bool true)∧w'.heap[X]?=some (.cells #[.int .i64 c,.int .i64 nx,.slice (some ⟨gq,0,none⟩) l.length qc,.slice (some ⟨gb,0,none⟩) (z+1) cap] 25 (0,0)) ∧
  OwnS ex w0.heap.size w' (.slice (some ⟨gq,0,none⟩) l.length qc) (.slice (some ⟨gb,0,none⟩) (z+1) cap) l (backB l c b x)∧∃ W1 W2,Ext w W1∧W1.grownBy W2 (some gb)∧w'=W2.setCell ⟨X,3,none⟩ (.slice (some ⟨gb,0,none⟩) (z+1) cap))
theorem back_any (w0 w:World) (X gq qc gb cap z:Nat) (c nx:Int) (l:List Queue) (b:List Book) (ex:List Nat) (x:Book) (pv bv:Value) (h:BackAt w0 X gq qc gb cap z c nx l b ex x pv bv w) :
  Calls Tryz.prog 85 #[.pointer (some ⟨X,0,none⟩),bookVal x pv bv] w (BackPost w0 w X gq qc gb cap z c nx l b ex x):=by
 obtain ⟨hpx,hbx,hI,hI0⟩:=bookC_parts h.cells
 obtain ⟨wb,hwb,HX,HN0,HN1,hszb⟩:=back_boxes w X x pv bv
 have CF:=hid (fun (W:World) (hx:Ext wb W)=>ContainsFunc_Bite W bv x.Bites 145 #[.pointer (some ⟨w.heap.size,0,none⟩)] (fun y:Bite=>decide (y.At < c)) (hbx.mono (HX.tr hx)) (enters_of Tryz.func145 (by kernel_rfl) rfl)
  (fun k y hy W' hx'=>early_any W' y w.heap.size X c (cell_of_row W' _ 0 _ _ _ (blk_ext HN0 (hx.tr hx'))) (cell_of_row W' X 0 _ _ _ (blk_ext h.box (HX.tr (hx.tr hx'))))))
 obtain ⟨pa,pc,rfl,_⟩:=hpx.form
 obtain ⟨ba,bc,rfl,_⟩:=hbx.form
 have H:=hid h
 have HX0:=hid HX
 have HB0:=hid HN0
 have HB1:=hid HN1
 have HWB:=hid hwb
 have HSB:=hid hszb
 have HPX:=hid hpx
 have HBX:=hid hbx
 have HI:=hid hI
 obtain ⟨q0,q1,q2,q3,q4,q5,q6,_⟩:=bookCells7 HN1
 clear h HX HN0 HN1 hwb hszb hpx hbx hI hI0
 generalize hpn:x.Req.Pieces.length=pn at *
 generalize hbn:x.Bites.length=bn at *
 have HPN:=hid hpn
 clear hpn hbn
 go_enter Tryz.func85,Tryz.ntmps85
 go_wp2_with fail
 rw [HWB.out]
 go_wp2_with fail
 refine (CF.out _ (Ext.rf _)).mono ?_
 rintro e w3 ⟨rfl,hx3⟩
 have HX3:=hid hx3
 clear q0 q1 q2 q3 q4 q5 q6 CF
 obtain ⟨q0,q1,q2,q3,q4,q5,q6,_⟩:=bookCells7 (blk_ext HB1.out hx3)
 clear hx3
 cases hbg:begunB c x with
 | true =>
  have HG:=hid (show goneB l c b x=true from by unfold goneB;rw [hbg];rfl)
  unfold begunB at hbg
  rw [hbg]
  clear hbg
  go_wp2_with fail
  go_ret
  exact .inl ⟨HG.out,rfl,HX0.out.tr HX3.out⟩
 | false =>
  have HBG:=hid hbg
  unfold begunB at hbg
  rw [hbg]
  clear hbg
  go_wp2_with fail
  obtain ⟨W4,hW4⟩:∃ W4,w3.alloc (.cells #[.int .i64 x.Req.Queue,.int .i64 x.Req.From,.int .i64 x.Req.Until,.int .i64 x.Req.Kind,.slice pa pn pc] 28)=W4:=⟨_,rfl⟩
  have hx4:Ext w3 W4:=hW4▸(Ext.rf w3).al _
  have hr4:W4.heap[w3.heap.size]?=some (.cells #[.int .i64 x.Req.Queue,.int .i64 x.Req.From,.int .i64 x.Req.Until,.int .i64 x.Req.Kind,.slice pa pn pc] 28 (0,0)):=hW4▸World.alloc_heap_new w3 _
  rw [hW4]
  clear q0 q1 q2 q3 q4 q5 q6
  have hX4:W4.heap[X]?=_:=blk_ext H.out.box (HX0.out.tr (HX3.out.tr hx4))
  have hN4:W4.heap[w.heap.size]?=_:=blk_ext HB0.out (HX3.out.tr hx4)
  have k0:W4.cell? ⟨w.heap.size,0,none⟩=some (.pointer (some ⟨X,0,none⟩)):=cell_of_row W4 _ 0 _ _ _ hN4
  have k1:W4.cell? ⟨X,0,none⟩=some (.int .i64 c):=cell_of_row W4 _ 0 _ _ _ hX4
  have k2:W4.cell? ⟨w3.heap.size,1,none⟩=some (.int .i64 x.Req.From):=cell_of_row W4 _ 1 _ _ _ hr4
  have HX4:=hid (HX3.out.tr hx4)
  have HR4:=hid hr4
  have f1:=frozen_of_row W4.drew w3.heap.size 1 _ _ hr4
  clear hx4 hr4 hX4 hN4 hW4
  refine wp_region_tail 8 (fun W=>W.cell? ⟨w.heap.size,0,none⟩=some (.pointer (some ⟨X,0,none⟩))∧W.cell? ⟨X,0,none⟩=some (.int .i64 c)∧W.cell? ⟨w3.heap.size,1,none⟩=some (.int .i64 x.Req.From)) (by kernel_rfl) ⟨k0,k1,k2⟩ (fun hHeld=>?_)
  clear k0 k1 k2
  refine wpAnyT_take (i:=0) (v:=?_) rfl (by kernel_rfl) (fun _ _ _ h=>h) (Or.inl ⟨by rfl,?_⟩) (by assumption) ?_
  rotate_left
  ·intro W hSW
   simp only [zA,zB]
   (try dsimp only at hSW)
   go_simp
   (try with_reducible rfl)
  simp only [zA,zB,Act.put,zD,zE,zF]
  refine wpAnyT_take (i:=1) (v:=?_) rfl (by kernel_rfl) (fun _ _ _ h=>h) (Or.inl ⟨by rfl,?_⟩) (by assumption) ?_
  rotate_left
  ·intro W hSW
   simp only [zA,zB,zC]
   (try dsimp only at hSW)
   go_simp
   (try with_reducible rfl)
  simp only [zA,zB,zC,Act.put,zD,zE,zF]
  refine wpAnyT_take (i:=2) (v:=?_) rfl (by kernel_rfl) (fun _ _ _ h=>h) (Or.inl ⟨by rfl,?_⟩) (by assumption) ?_
  rotate_left
  ·intro W hSW
   simp only [zA,zB,zC]
   (try dsimp only at hSW)
   go_simp
   (try with_reducible rfl)
  simp only [zA,zB,zC,Act.put,zD,zE,zF]
  refine wpAnyT_take (i:=3) (v:=?_) rfl (by kernel_rfl) (fun _ _ _ h=>h) (Or.inl ⟨by rfl,?_⟩) (by assumption) ?_
  rotate_left
  ·intro W hSW
   simp only [zA,zB,zC]
   (try dsimp only at hSW)
   go_simp
   (try with_reducible rfl)
  simp only [zA,zB,zC,Act.put,zD,zE,zF]
  refine wpAnyT_take (i:=4) (v:=?_) rfl (by kernel_rfl) (fun _ _ _ h=>h) (Or.inl ⟨by rfl,?_⟩) (by assumption) ?_
  rotate_left
  ·intro W hSW
   simp only [zA,zB,zC]
   (try dsimp only at hSW)
   go_simp
   (try with_reducible rfl)
  simp only [zA,zB,zC,Act.put,zD,zE,zF]
  refine wpAnyT_take (i:=5) (v:=?_) rfl (by kernel_rfl) (fun _ _ _ h=>h) (Or.inl ⟨by rfl,?_⟩) (by assumption) ?_
  rotate_left
  ·intro W hSW
   simp only [zA,zB,zC]
   (try dsimp only at hSW)
   go_simp
   (try with_reducible rfl)
  simp only [zA,zB,zC,Act.put,zD,zE,zF]
  refine wpAnyT_take (i:=6) (v:=?_) rfl (by kernel_rfl) (fun _ _ _ h=>h) (Or.inl ⟨by rfl,?_⟩) (by assumption) ?_
  rotate_left
  ·intro W hSW
   simp only [zA,zB,zC]
   (try dsimp only at hSW)
   go_simp
   (try with_reducible rfl)
  simp only [zA,zB,zC,Act.put,zD,zE,zF]
  refine wpAnyT_take (i:=7) (v:=?_) rfl (by kernel_rfl) (fun _ _ _ h=>h) (Or.inl ⟨by rfl,?_⟩) (by assumption) ?_
  rotate_left
  ·intro W hSW
   simp only [zA,zB,zC]
   (try dsimp only at hSW)
   go_simp
   (try with_reducible rfl)
  simp only [zA,zB,zC,Act.put,zD,zE,zF]
  refine wpAnyT_last (t:=8) (by kernel_rfl) rfl (by kernel_rfl) (fun K hK=>?_)
  simp only [zA,zB,zC]
  obtain ⟨k0,k1,k2⟩:=hHeld
  go_simp
  refine hK.out _ _ ?_
  clear hK K
  obtain ⟨W5,hW5⟩:∃ W5,(W4.setCell ⟨w3.heap.size,1,none⟩ (.int .i64 (max x.Req.From c))).drew=W5:=⟨_,rfl⟩
  have hr5:W5.heap[w3.heap.size]?=some (.cells #[.int .i64 x.Req.Queue,.int .i64 (max x.Req.From c),.int .i64 x.Req.Until,.int .i64 x.Req.Kind,.slice pa pn pc] 28 (0,0)):=hW5▸heap_setCell_same W4 w3.heap.size 1 _ _ _ HR4.out
  have hx5:Ext wb W5:=hW5▸((HX4.out.se (b:=w3.heap.size) (o:=1) HX3.out.size _).dr)
  rw [hW5]
  have e1:W5.cell? ⟨w3.heap.size,1,none⟩=some (.int .i64 (max x.Req.From c)):=cell_of_row W5 _ 1 _ _ _ hr5
  have e2:W5.cell? ⟨w3.heap.size,2,none⟩=some (.int .i64 x.Req.Until):=cell_of_row W5 _ 2 _ _ _ hr5
  have HR5:=hid hr5
  have HX5:=hid hx5
  clear hW5 hr5 hx5 HX4 HR4 f1
  by_cases hlate:x.Req.Until≤max x.Req.From c
  ·have HG:=hid (show goneB l c b x=true from by unfold goneB;rw [deT hlate];simp)
   go_wp2_with fail
   go_ret
   exact .inl ⟨HG.out,rfl,HX0.out.tr HX5.out⟩
  ·have hlt:max x.Req.From c < x.Req.Until:=by omega
   have hq:=laterQ_ok H.out.book.req hlt
   obtain ⟨ok,h12,hbok⟩:=right_of H.out.right
   have hfine:Fine (fold (roomT l b x.Req.Queue)):=by
    obtain ⟨q,hqn⟩:∃ q:Nat,x.Req.Queue=q:=⟨x.Req.Queue.toNat,by have:=H.out.book.q0;omega⟩
    have hql:q < l.length:=by have:=H.out.book.q1;omega
    rw [hqn];exact room_fine H.out.right hql
   have RI:=hid (fun (W:World) (h:Ext w W)=>RoomIn_any W (.slice (some ⟨gq,0,none⟩) l.length qc) (.slice (some ⟨gb,0,none⟩) z cap) l b x.Req.Queue (H.out.own.tree.mono h) (H.out.own.books.mono h) ok hbok h12 H.out.book.q0 H.out.book.q1)
   have PI:=hid (fun (W:World) (u:Value) (h:Ext w W) (hu:RunsV W u (fold (roomT l b x.Req.Queue)))=>show Calls Tryz.prog 44 #[u,.agg #[.int .i64 x.Req.Queue,.int .i64 (max x.Req.From c),.int .i64 x.Req.Until,.int .i64 x.Req.Kind,.slice pa pn pc]] W (RetPlace W (placedB l c b x)) from In_any W u _ _ (laterQ x.Req c) hu (HPX.out.mono h) hfine hq)
   have HGG:=hid (show goneB l c b x=decide (placedB l c b x=[]) from by unfold goneB;rw [HBG.out,deF hlate];simp)
   have HRQ:=hid hq
   go_wp2_with fail
   clear e1 e2
   have hX5:W5.heap[X]?=_:=blk_ext H.out.box (HX0.out.tr HX5.out)
   have hN5:W5.heap[w.heap.size]?=_:=blk_ext HB0.out HX5.out
   have hM5:W5.heap[w.heap.size+1]?=_:=blk_ext HB1.out HX5.out
   refine wp_region_tail 14 (fun W=>W.cell? ⟨w.heap.size,0,none⟩=some (.pointer (some ⟨X,0,none⟩))∧W.cell? ⟨X,2,none⟩=some (.slice (some ⟨gq,0,none⟩) l.length qc)∧W.cell? ⟨X,3,none⟩=some (.slice (some ⟨gb,0,none⟩) z cap)∧W.cell? ⟨w3.heap.size,0,none⟩=some (.int .i64 x.Req.Queue)∧W.cell? ⟨w3.heap.size,1,none⟩=some (.int .i64 (max x.Req.From c))∧W.cell? ⟨w3.heap.size,2,none⟩=some (.int .i64 x.Req.Until)∧W.cell? ⟨w3.heap.size,3,none⟩=some (.int .i64 x.Req.Kind)∧W.cell? ⟨w3.heap.size,4,none⟩=some (.slice pa pn pc)) (by kernel_rfl)
    ⟨cell_of_row W5 _ 0 _ _ _ hN5,cell_of_row W5 _ 2 _ _ _ hX5,cell_of_row W5 _ 3 _ _ _ hX5,cell_of_row W5 _ 0 _ _ _ HR5.out,cell_of_row W5 _ 1 _ _ _ HR5.out,cell_of_row W5 _ 2 _ _ _ HR5.out,cell_of_row W5 _ 3 _ _ _ HR5.out,cell_of_row W5 _ 4 _ _ _ HR5.out⟩ (fun hHeld=>?_)
   have HX5':=hid (HX0.out.tr HX5.out)
   clear hX5 hN5
   refine wpAnyT_take (i:=0) (v:=?_) rfl (by kernel_rfl) (fun _ _ _ h=>h) (Or.inl ⟨by rfl,?_⟩) (by assumption) ?_
   rotate_left
   ·intro W hSW
    simp only [zA,zB]
    (try dsimp only at hSW)
    go_simp
    (try with_reducible rfl)
   simp only [zA,zB,Act.put,zD,zE,zF]
   refine wpAnyT_take (i:=1) (v:=?_) rfl (by kernel_rfl) (fun _ _ _ h=>h) (Or.inl ⟨by rfl,?_⟩) (by assumption) ?_
   rotate_left
   ·intro W hSW
    simp only [zA,zB,zC]
    (try dsimp only at hSW)
    go_simp
    (try with_reducible rfl)
   simp only [zA,zB,zC,Act.put,zD,zE,zF]
   refine wpAnyT_take (i:=2) (v:=?_) rfl (by kernel_rfl) (fun _ _ _ h=>h) (Or.inl ⟨by rfl,?_⟩) (by assumption) ?_
   rotate_left
   ·intro W hSW
    simp only [zA,zB,zC]
    (try dsimp only at hSW)
    go_simp
    (try with_reducible rfl)
   simp only [zA,zB,zC,Act.put,zD,zE,zF]
   refine wpAnyT_take (i:=3) (v:=?_) rfl (by kernel_rfl) (fun _ _ _ h=>h) (Or.inl ⟨by rfl,?_⟩) (by assumption) ?_
   rotate_left
   ·intro W hSW
    simp only [zA,zB,zC]
    (try dsimp only at hSW)
    go_simp
    (try with_reducible rfl)
   simp only [zA,zB,zC,Act.put,zD,zE,zF]
   refine wpAnyT_take (i:=4) (v:=?_) rfl (by kernel_rfl) (fun _ _ _ h=>h) (Or.inl ⟨by rfl,?_⟩) (by assumption) ?_
   rotate_left
   ·intro W hSW
    simp only [zA,zB,zC]
    (try dsimp only at hSW)
    go_simp
    (try with_reducible rfl)
   simp only [zA,zB,zC,Act.put,zD,zE,zF]
   refine wpAnyT_take (i:=5) (v:=?_) rfl (by kernel_rfl) (fun _ _ _ h=>h) (Or.inl ⟨by rfl,?_⟩) (by assumption) ?_
   rotate_left
   ·intro W hSW
    simp only [zA,zB,zC]
    (try dsimp only at hSW)
    go_simp
    (try with_reducible rfl)
   simp only [zA,zB,zC,Act.put,zD,zE,zF]
   refine wpAnyT_take (i:=6) (v:=?_) rfl (by kernel_rfl) (fun _ _ _ h=>h) (Or.inl ⟨by rfl,?_⟩) (by assumption) ?_
   rotate_left
   ·intro W hSW
    simp only [zA,zB,zC]
    (try dsimp only at hSW)
    go_simp
    (try with_reducible rfl)
   simp only [zA,zB,zC,Act.put,zD,zE,zF]
   refine wpAnyT_take (i:=7) (v:=?_) rfl (by kernel_rfl) (fun _ _ _ h=>h) (Or.inl ⟨by rfl,?_⟩) (by assumption) ?_
   rotate_left
   ·intro W hSW
    simp only [zA,zB,zC]
    (try dsimp only at hSW)
    go_simp
    (try with_reducible rfl)
   simp only [zA,zB,zC,Act.put,zD,zE,zF]
   refine wpAnyT_take (i:=8) (v:=?_) rfl (by kernel_rfl) (fun _ _ _ h=>h) (Or.inl ⟨by rfl,?_⟩) (by assumption) ?_
   rotate_left
   ·intro W hSW
    simp only [zA,zB,zC]
    (try dsimp only at hSW)
    go_simp
    (try with_reducible rfl)
   simp only [zA,zB,zC,Act.put,zD,zE,zF]
   refine wpAnyT_take (i:=9) (v:=?_) rfl (by kernel_rfl) (fun _ _ _ h=>h) (Or.inl ⟨by rfl,?_⟩) (by assumption) ?_
   rotate_left
   ·intro W hSW
    simp only [zA,zB,zC]
    (try dsimp only at hSW)
    go_simp
    (try with_reducible rfl)
   simp only [zA,zB,zC,Act.put,zD,zE,zF]
   refine wpAnyT_take (i:=11) (v:=?_) rfl (by kernel_rfl) (fun _ _ _ h=>h) (Or.inl ⟨by rfl,?_⟩) (by assumption) ?_
   rotate_left
   ·intro W hSW
    simp only [zA,zB,zC]
    (try dsimp only at hSW)
    go_simp
    (try with_reducible rfl)
   simp only [zA,zB,zC,Act.put,zD,zE,zF]
   refine wpAnyT_go (i:=10) (by kernel_rfl) rfl (fun K hK=>?_)
   simp only [zA,zB,zC]
   go_simp
   refine (RI.out _ HX5'.out.dr).mono ?_
   rintro e W6 ⟨uf,rfl,huf,hx6⟩
   obtain ⟨fa,fc,rfl,_⟩:=huf.form
   have HS6:=hid (show w.heap.size+1 < W6.heap.size from Nat.lt_of_lt_of_le (Array.getElem?_eq_some_iff.1 hM5).1 (((Ext.rf W5).dr.tr hx6).size))
   have HUF:=hid huf
   clear huf
   generalize (fold (roomT l b x.Req.Queue)).length=fn at *
   go_wp2_with fail
   refine hK.out _ _ ?_ (fun hHeld=>?_)
   ·(obtain ⟨k0,k1,k2,k3,k4,k5,k6,k7⟩:=hHeld;exact ⟨hx6.ce' k0,hx6.ce' k1,hx6.ce' k2,hx6.ce' k3,hx6.ce' k4,hx6.ce' k5,hx6.ce' k6,hx6.ce' k7⟩)
   clear hK K
   refine wpAnyT_go (i:=12) (by kernel_rfl) rfl (fun K hK=>?_)
   simp only [zA,zB,zC]
   go_simp
   refine (PI.out _ _ (HX5'.out.dr.tr hx6) HUF.out).mono ?_
   rintro e W7 ⟨v,rfl,hv,hnil,hx7⟩
   go_wp2_with fail
   refine hK.out _ _ ?_ (fun hHeld=>?_)
   ·(obtain ⟨k0,k1,k2,k3,k4,k5,k6,k7⟩:=hHeld;exact ⟨hx7.ce' k0,hx7.ce' k1,hx7.ce' k2,hx7.ce' k3,hx7.ce' k4,hx7.ce' k5,hx7.ce' k6,hx7.ce' k7⟩)
   clear hK K
   refine wpAnyT_take (i:=13) (v:=?_) rfl (by kernel_rfl) (fun _ _ _ h=>h) (Or.inl ⟨by rfl,?_⟩) (by assumption) ?_
   rotate_left
   ·intro W hSW
    simp only [zA,zB,zC]
    (try dsimp only at hSW)
    go_simp
    (try with_reducible rfl)
   simp only [zA,zB,zC,Act.put,zD,zE,zF]
   have hx57:Ext W5 W7:=((Ext.rf W5).dr.tr hx6).tr hx7
   have hM7:=blk_ext hM5 hx57
   have f6:=frozen_of_row W7 (w.heap.size+1) 6 _ _ hM7
   have k6:W7.cell? ⟨w.heap.size+1,6,none⟩=some (.slice ba bn bc):=cell_of_row W7 _ 6 _ _ _ hM7
   have HX57:=hid hx57
   have HM7:=hid hM7
   have HV:=hid hv
   have HNIL:=hid hnil
   clear hx6 hx7 hx57 hM7 hM5 hv hnil hHeld
   refine wpAnyT_last (t:=14) (by kernel_rfl) rfl (by kernel_rfl) (fun K hK=>?_)
   simp only [zA,zB,zC]
   obtain ⟨va,vn,vc,rfl⟩:∃ a n c,v=.slice a n c:=by obtain ⟨a,c,e,_⟩:=HV.out.form;exact ⟨a,_,c,e⟩
   go_simp
   refine hK.out _ _ ?_
   clear hK K
   obtain ⟨W8,hW8⟩:∃ W8,W7.setCell ⟨w.heap.size+1,6,none⟩ (.slice va vn vc)=W8:=⟨_,rfl⟩
   have hm8:W8.heap[w.heap.size+1]?=some (.cells #[.int .i64 x.Id,.int .i64 x.Req.Queue,.int .i64 x.Req.From,.int .i64 x.Req.Until,.int .i64 x.Req.Kind,.slice pa pn pc,.slice va vn vc] 40 (0,0)):=hW8▸heap_setCell_same W7 (w.heap.size+1) 6 _ _ _ HM7.out
   have hn8:W8.heap[w.heap.size]?=some (.cells #[.pointer (some ⟨X,0,none⟩)] 128 (0,0)):=by
    rw [← hW8,heap_setCell_other W7 ⟨w.heap.size+1,6,none⟩ _ _ (by show w.heap.size≠w.heap.size+1;omega)]
    exact blk_ext HB0.out (HX5.out.tr HX57.out)
   have hx8:Ext w W8:=hW8▸(HX0.out.tr (HX5.out.tr HX57.out)).se (b:=w.heap.size+1) (o:=6) (by omega) _
   have hv8:BitesV W8 (.slice va vn vc) (placedB l c b x):=hW8▸sv2_apart HV.out (grown_set W7 (w.heap.size+1) 6 (.slice va vn vc)) (fun a n c e he=>by have:=HNIL.out.2 a n c e;have:=Option.some.inj he;have:=HS6.out;omega)
   rw [hW8]
   clear hW8
   have HX8:=hid hx8
   have HM8:=hid hm8
   have HN8:=hid hn8
   have HV8:=hid hv8
   have e6:W8.cell? ⟨w.heap.size+1,6,none⟩=some (.slice va vn vc):=cell_of_row W8 _ 6 _ _ _ hm8
   clear hm8 hn8 hx8 hv8 f6 k6
   by_cases hL:placedB l c b x=[]
   ·have hvn:=HNIL.out.1 hL
    cases hvn
    have HG:=hid (show goneB l c b x=true from by rw [HGG.out,deT hL])
    have he:∀ W,Sem.run Tryz.prog (binOp .eql 38 (.slice none 0 0) (.slice none 0 0)) W=.ok (.bool true) W:=fun W=>rfl
    clear hL
    go_wp2_with fail
    go_ret
    exact .inl ⟨HG.out,rfl,HX8.out⟩
   ·have HG:=hid (show goneB l c b x=false from by rw [HGG.out,deF hL])
    obtain ⟨hright,hbok2,hats⟩:=back_right H.out.right H.out.book H.out.id H.out.diff (by rw [H.out.len];exact H.out.room.1) HG.out
    obtain ⟨va',vc',e,hvc,hvc9,hvl,hvE⟩:=bites_at HV8.out
    have hz1:1≤(placedB l c b x).length:=List.length_pos_iff.2 hL
    obtain ⟨vb,vo,e2,hvb,hE⟩:=hvE hz1
    obtain ⟨rfl,rfl,rfl⟩:va=some ⟨vb,vo,none⟩∧vn=(placedB l c b x).length∧vc=vc':=by cases e;exact ⟨e2,rfl,rfl⟩
    have HFR:=hid (show W6.heap.size≤vb from HNIL.out.2 _ _ _ rfl)
    have HVB:=hid hvb
    have HBK2:=hid hbok2
    obtain ⟨hf0,_⟩:=stateE_zero H.out.right
    obtain ⟨_,⟨_,_,_,hk4⟩,hids,_⟩:=formE_zero hf0
    have WH:=hid (fun (W:World) (h:Ext w W)=>Where_any W (.slice (some ⟨gb,0,none⟩) z cap) b x.Id nx hids hk4 (H.out.own.books.mono h) (right_of H.out.right).2.1 H.out.id.1 (by have:=H.out.id;have hk4':nx≤1048576:=hk4;omega))
    clear e e2 hvE hE hvc hvc9 hvl hvb hright hbok2 hats hf0 hids hk4 HNIL HV
    generalize hLL:placedB l c b x=L at *
    generalize hmm:L.length=m at *
    have HLL:=hid hLL
    have HMM:=hid hmm
    clear hLL hmm hL
    have he:∀ W,Sem.run Tryz.prog (binOp .eql 38 (.slice (some ⟨vb,vo,none⟩) m vc) (.slice none 0 0)) W=.ok (.bool false) W:=fun W=>rfl
    go_wp2_with fail
    clear e6
    have kn:W8.cell? ⟨w.heap.size,0,none⟩=some (.pointer (some ⟨X,0,none⟩)):=cell_of_row W8 _ 0 _ _ _ HN8.out
    have kx:W8.cell? ⟨X,3,none⟩=some (.slice (some ⟨gb,0,none⟩) z cap):=cell_of_row W8 _ 3 _ _ _ (blk_ext H.out.box HX8.out)
    have km:W8.cell? ⟨w.heap.size+1,0,none⟩=some (.int .i64 x.Id):=cell_of_row W8 _ 0 _ _ _ HM8.out
    go_region_held3 (fun w'=>(w'.cell? ⟨w.heap.size,0,none⟩=some (.pointer (some ⟨X,0,none⟩))∧w'.cell? ⟨X,3,none⟩=some (.slice (some ⟨gb,0,none⟩) z cap)∧w'.cell? ⟨w.heap.size+1,0,none⟩=some (.int .i64 x.Id)))
     (first
      | go_keep
      | (
        go_split_ands
        exact ⟨hxk.ce' (by assumption),hxk.ce' (by assumption),hxk.ce' (by assumption)⟩))
     (first
      | (go_at_call 135;refine (WH.out _ HX8.out.dr).mono ?_;rintro e W9 ⟨i,fb,rfl,hfb,hxk⟩;have HIB:=hid hfb.1;have HX9:=hid ((Ext.rf W8).dr.tr hxk);clear hfb))
    clear kn kx km
    go_wp2_with fail
    have hm9:=blk_ext HM8.out HX9.out
    have hn9:=blk_ext HN8.out HX9.out
    have hX9:=blk_ext H.out.box (HX8.out.tr HX9.out)
    obtain ⟨q0,q1,q2,q3,q4,q5,q6,_⟩:=bookCells7 hm9
    refine wp_region_tail 11 (fun W=>W.cell? ⟨w.heap.size,0,none⟩=some (.pointer (some ⟨X,0,none⟩))∧W.cell? ⟨X,3,none⟩=some (.slice (some ⟨gb,0,none⟩) z cap)∧W.cell? ⟨w.heap.size+1,0,none⟩=some (.int .i64 x.Id)∧W.cell? ⟨w.heap.size+1,1,none⟩=some (.int .i64 x.Req.Queue)∧W.cell? ⟨w.heap.size+1,2,none⟩=some (.int .i64 x.Req.From)∧W.cell? ⟨w.heap.size+1,3,none⟩=some (.int .i64 x.Req.Until)∧W.cell? ⟨w.heap.size+1,4,none⟩=some (.int .i64 x.Req.Kind)∧W.cell? ⟨w.heap.size+1,5,none⟩=some (.slice pa pn pc)∧W.cell? ⟨w.heap.size+1,6,none⟩=some (.slice (some ⟨vb,vo,none⟩) m vc)) (by kernel_rfl)
     ⟨cell_of_row W9 _ 0 _ _ _ hn9,cell_of_row W9 _ 3 _ _ _ hX9,q0,q1,q2,q3,q4,q5,q6⟩ (fun hHeld=>?_)
    have HM9:=hid hm9
    have HN9:=hid hn9
    have HX9':=hid hX9
    clear hm9 hn9 hX9 q0 q1 q2 q3 q4 q5 q6
    refine wpAnyT_take (i:=0) (v:=?_) rfl (by kernel_rfl) (fun _ _ _ h=>h) (Or.inl ⟨by rfl,?_⟩) (by assumption) ?_
    rotate_left
    ·intro W hSW
     simp only [zA,zB]
     (try dsimp only at hSW)
     go_simp
     (try with_reducible rfl)
    simp only [zA,zB,Act.put,zD,zE,zF]
    refine wpAnyT_take (i:=1) (v:=?_) rfl (by kernel_rfl) (fun _ _ _ h=>h) (Or.inl ⟨by rfl,?_⟩) (by assumption) ?_
    rotate_left
    ·intro W hSW
     simp only [zA,zB,zC]
     (try dsimp only at hSW)
     go_simp
     (try with_reducible rfl)
    simp only [zA,zB,zC,Act.put,zD,zE,zF]
    refine wpAnyT_take (i:=2) (v:=?_) rfl (by kernel_rfl) (fun _ _ _ h=>h) (Or.inl ⟨by rfl,?_⟩) (by assumption) ?_
    rotate_left
    ·intro W hSW
     simp only [zA,zB,zC]
     (try dsimp only at hSW)
     go_simp
     (try with_reducible rfl)
    simp only [zA,zB,zC,Act.put,zD,zE,zF]
    refine wpAnyT_take (i:=3) (v:=?_) rfl (by kernel_rfl) (fun _ _ _ h=>h) (Or.inl ⟨by rfl,?_⟩) (by assumption) ?_
    rotate_left
    ·intro W hSW
     simp only [zA,zB,zC]
     (try dsimp only at hSW)
     go_simp
     (try with_reducible rfl)
    simp only [zA,zB,zC,Act.put,zD,zE,zF]
    refine wpAnyT_take (i:=4) (v:=?_) rfl (by kernel_rfl) (fun _ _ _ h=>h) (Or.inl ⟨by rfl,?_⟩) (by assumption) ?_
    rotate_left
    ·intro W hSW
     simp only [zA,zB,zC]
     (try dsimp only at hSW)
     go_simp
     (try with_reducible rfl)
    simp only [zA,zB,zC,Act.put,zD,zE,zF]
    refine wpAnyT_take (i:=5) (v:=?_) rfl (by kernel_rfl) (fun _ _ _ h=>h) (Or.inl ⟨by rfl,?_⟩) (by assumption) ?_
    rotate_left
    ·intro W hSW
     simp only [zA,zB,zC]
     (try dsimp only at hSW)
     go_simp
     (try with_reducible rfl)
    simp only [zA,zB,zC,Act.put,zD,zE,zF]
    refine wpAnyT_take (i:=6) (v:=?_) rfl (by kernel_rfl) (fun _ _ _ h=>h) (Or.inl ⟨by rfl,?_⟩) (by assumption) ?_
    rotate_left
    ·intro W hSW
     simp only [zA,zB,zC]
     (try dsimp only at hSW)
     go_simp
     (try with_reducible rfl)
    simp only [zA,zB,zC,Act.put,zD,zE,zF]
    refine wpAnyT_go (i:=7) (by kernel_rfl) rfl (fun K hK=>?_)
    simp only [zA,zB,zC]
    go_simp
    obtain ⟨W10,hW10⟩:∃ W10,(W9.alloc (.cells #[.int .i64 x.Id,.int .i64 x.Req.Queue,.int .i64 x.Req.From,.int .i64 x.Req.Until,.int .i64 x.Req.Kind,.slice pa pn pc,.slice (some ⟨vb,vo,none⟩) m vc] 40)).drew=W10:=⟨_,rfl⟩
    have hx10:Ext W9 W10:=hW10▸((Ext.rf W9).al _).dr
    have hb10:W10.heap[W9.heap.size]?=some (.cells #[.int .i64 x.Id,.int .i64 x.Req.Queue,.int .i64 x.Req.From,.int .i64 x.Req.Until,.int .i64 x.Req.Kind,.slice pa pn pc,.slice (some ⟨vb,vo,none⟩) m vc] 40 (0,0)):=hW10▸World.alloc_heap_new W9 _
    rw [hW10]
    have hx910:=((Ext.rf W9).al (.cells #[.int .i64 x.Id,.int .i64 x.Req.Queue,.int .i64 x.Req.From,.int .i64 x.Req.Until,.int .i64 x.Req.Kind,.slice pa pn pc,.slice (some ⟨vb,vo,none⟩) m vc] 40)).dr
    rw [hW10] at hx910
    refine hK.out _ _ ?_ (fun hHeld=>?_)
    ·(obtain ⟨k0,k1,k2,k3,k4,k5,k6,k7,k8⟩:=hHeld;exact ⟨hx910.ce' k0,hx910.ce' k1,hx910.ce' k2,hx910.ce' k3,hx910.ce' k4,hx910.ce' k5,hx910.ce' k6,hx910.ce' k7,hx910.ce' k8⟩)
    clear hK K
    have hxw10:Ext w W10:=(HX8.out.tr HX9.out).tr hx10
    have hbl:W6.heap.size≤vb:=HFR.out
    have hb8:vb < W8.heap.size:=HVB.out
    have hs910:=(HX9.out.tr hx10).size
    have IN:=hid (Insert_any ex w0.heap.size W10 (.slice (some ⟨gq,0,none⟩) l.length qc) gb z cap i W9.heap.size l b ⟨x.Id,x.Req,L⟩ [.int .i64 x.Id,.int .i64 x.Req.Queue,.int .i64 x.Req.From,.int .i64 x.Req.Until,.int .i64 x.Req.Kind,.slice pa pn pc,.slice (some ⟨vb,vo,none⟩) m vc]
     (H.out.own.ext hxw10) H.out.len (by have:=HIB.out.1;rw [H.out.len] at this;exact this) H.out.room.1 H.out.room.2
     ⟨_,_,rfl,⟨_,rfl,HPX.out.mono hxw10,HI.out⟩,HV8.out.mono (HX9.out.tr hx10),(bookC_parts H.out.cells).2.2.2⟩
     (liveB_of (l:=l) (b:=[⟨x.Id,x.Req,L⟩]) (fun y hy=>by rw [List.mem_singleton.1 hy];exact HBK2.out) _ (List.mem_singleton.2 rfl))
     (fun s hs a n c' e=>by
      simp only [List.mem_cons,List.not_mem_nil,or_false] at hs
      rcases hs with rfl | rfl | rfl | rfl | rfl | rfl | rfl
      ·cases e
      ·cases e
      ·cases e
      ·cases e
      ·cases e
      ·obtain ⟨p1,p2⟩:=H.out.apart (.slice pa pn pc) (by simp) a n c' e
       exact ⟨Nat.lt_of_lt_of_le p1 hxw10.size,p2⟩
      ·cases e
       have h0:=H.out.low
       have h1:=HS6.out
       obtain ⟨ga,qa,e1,⟨g1,g2⟩⟩:=H.out.own.uform
       cases e1
       have g3:=(Array.getElem?_eq_some_iff.1 H.out.box).1
       obtain ⟨_,_,e2,hg⟩:=H.out.own.vform
       have g4:=hg gb rfl
       show vb < W10.heap.size∧vb≠gb∧w0.heap.size≤vb∧vb ∉ ex∧∀ r,(Value.slice (some ⟨gq,0,none⟩) l.length qc).ownBlock=some r→vb≠r
       refine ⟨by omega,by omega,by omega,fun hm=>by have:=H.out.exlt _ hm;omega,fun r hr=>?_⟩
       have:gq=r:=by simpa [Value.ownBlock] using hr
       omega)
     (by simp [Value.oneCell']) hb10 (by
      obtain ⟨_,_,e2,hg⟩:=H.out.own.vform
      have g4:=hg gb rfl
      have:=(HX8.out.tr HX9.out).size
      omega))
    refine wpAnyT_go (i:=8) (by kernel_rfl) rfl (fun K hK=>?_)
    simp only [zA,zB,zC]
    go_simp
    refine IN.out.mono ?_
    rintro e W11 ⟨rfl,hO11,hg11⟩
    have hgbw:gb≠X∧gb < w.heap.size:=by
     obtain ⟨_,_,_,hg⟩:=H.out.own.vform
     exact ⟨fun e=>H.out.own.vne gb rfl X H.out.xin e,(hg gb rfl).2⟩
    go_wp2_with fail
    refine hK.out _ _ ?_ (fun hHeld=>?_)
    ·(obtain ⟨k0,k1,k2,k3,k4,k5,k6,k7,k8⟩:=hHeld;exact ⟨grown_cell hg11 k0 (fun r hr=>by have:=Option.some.inj hr;omega),grown_cell hg11 k1 (fun r hr=>by have:=Option.some.inj hr;omega),grown_cell hg11 k2 (fun r hr=>by have:=Option.some.inj hr;omega),grown_cell hg11 k3 (fun r hr=>by have:=Option.some.inj hr;omega),grown_cell hg11 k4 (fun r hr=>by have:=Option.some.inj hr;omega),grown_cell hg11 k5 (fun r hr=>by have:=Option.some.inj hr;omega),grown_cell hg11 k6 (fun r hr=>by have:=Option.some.inj hr;omega),grown_cell hg11 k7 (fun r hr=>by have:=Option.some.inj hr;omega),grown_cell hg11 k8 (fun r hr=>by have:=Option.some.inj hr;omega)⟩)
    clear hK K
    have hX11:=(hg11.block X (Nat.lt_of_lt_of_le (Array.getElem?_eq_some_iff.1 H.out.box).1 hxw10.size) (fun e=>hgbw.1 (Option.some.inj e).symm)).trans (blk_ext H.out.box hxw10)
    have f3:=frozen_of_row W11 X 3 _ _ hX11
    have HEND:=hid (show BackPost w0 w X gq qc gb cap z c nx l b ex x (.returned (.bool true)) (W11.setCell ⟨X,3,none⟩ (.slice (some ⟨gb,0,none⟩) (z+1) cap)) from .inr ⟨HG.out,rfl,heap_setCell_same W11 X 3 _ _ _ hX11,by
     have e:=insB_at (x:=⟨x.Id,x.Req,L⟩) HIB.out
     have e2:backB l c b x=b.take i++⟨x.Id,x.Req,L⟩::b.drop i:=by unfold backB;rw [HLL.out,e]
     rw [e2]
     exact hO11.kept (grown_set W11 X 3 _) H.out.xin,W10,W11,hxw10,hg11,rfl⟩)
    clear hX11 hO11 hg11 hx10 hb10 hx910 hxw10 IN hW10
    refine wpAnyT_take (i:=9) (v:=?_) rfl (by kernel_rfl) (fun _ _ _ h=>h) (Or.inl ⟨by rfl,?_⟩) (by assumption) ?_
    rotate_left
    ·intro W hSW
     simp only [zA,zB,zC]
     (try dsimp only at hSW)
     go_simp
     (try with_reducible rfl)
    simp only [zA,zB,zC,Act.put,zD,zE,zF]
    refine wpAnyT_take (i:=10) (v:=?_) rfl (by kernel_rfl) (fun _ _ _ h=>h) (Or.inl ⟨by rfl,?_⟩) (by assumption) ?_
    rotate_left
    ·intro W hSW
     simp only [zA,zB,zC]
     (try dsimp only at hSW)
     go_simp
     (try with_reducible rfl)
    simp only [zA,zB,zC,Act.put,zD,zE,zF]
    obtain ⟨k0,k1,k2,k3,k4,k5,k6,k7,k8⟩:=hHeld
    refine wpAnyT_last (t:=11) (by kernel_rfl) rfl (by kernel_rfl) (fun K hK=>?_)
    simp only [zA,zB,zC]
    go_simp
    refine hK.out _ _ ?_
    clear hK K
    go_wp2_with fail
    go_ret
    exact HEND.out
end Go.Proofs.YtdcndkojmflhnaaGreat
