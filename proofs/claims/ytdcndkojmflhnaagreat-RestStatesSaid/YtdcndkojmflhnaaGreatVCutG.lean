import Derived.Test.YtdcndkojmflhnaaGreatVTick
set_option linter.unusedVariables false
set_option linter.unusedSimpArgs false
set_option maxRecDepth 100000
set_option maxHeartbeats 8000000
namespace Go.Proofs.YtdcndkojmflhnaaGreat
open _root_.Go.Proofs.Tryz
open Go.RowKit
open List renaming getElem_toArray->zA,getElem_cons_zero->zB,getElem_cons_succ->zC
open Go.Value renaming int->aA,slice->aE,ownBlock->aCZ,oneCell'->aBz
open Go.IntKind renaming i64->aB
open _root_.Option renaming some->aC,none->aD,mem_toList->aDD
open Go.World renaming alloc_heap_new->aC5,size_alloc->aCl,ownsRow_nil->aBV
open _root_.Nat renaming lt_of_lt_of_le->aBA,le_refl->aBq,lt_or_ge->aBK,eq_zero_or_pos->aDE,sub_self->aCp
open _root_.Array renaming getElem?_eq_some_iff->aBy
open _root_.List renaming mem_singleton->aCB,mem_cons->aC8,not_mem_nil->aCj,mem_cons_self->aCw,getElem?_set_self->aCz,getElem?_eq_some_iff->aBD,getElem?_set_ne->aCA,mem_or_eq_of_mem_set->aDC,eq_nil_of_length_eq_zero->aBC,mem_of_getElem?->aBJ,getElem?_take_of_lt->aCY,mem_append->aBm,mem_append_left->aD1,mem_cons_of_mem->aBl,mem_append_right->aD2,getElem?_take->aBH,mem_range->aC3,Perm->aDl,pairwise_cons->aDq,length_cons->aBB,drop_zero->aCO,getElem?_drop->aBN,flatten_append->aD3,flatten_cons->aCT,length_set->aDF,length_take->aCH,length_append->aBk,append_assoc->aDm,length_drop->aDc,mem_of_mem_take->aDy,mem_of_mem_drop->aDb,getElem?_append_right->aCJ,getElem?_cons_succ->aDz
structure aBf (w0:World) (X gq qc gb cap z:Nat) (c nx:Int) (l:List Queue) (b:List aT) (ex:List Nat) (x:aT) (pv bv:Value) (W:World):Prop where
 box:W.heap[X]?=aC (.cells #[aA aB c,aA aB nx,aE (aC ⟨gq,0,aD⟩) l.length qc,aE (aC ⟨gb,0,aD⟩) z cap] 25 (0,0))
 own:cP ex w0.heap.size W (aE (aC ⟨gq,0,aD⟩) l.length qc) (aE (aC ⟨gb,0,aD⟩) z cap) l b
 len:b.length=z
 xin:X∈ex
 exlt:∀ r∈ex,r < W.heap.size
 right:aZ ⟨c,nx,l,b⟩=0
 book:cB l x
 id:0<=x.Id/\x.Id < nx
 diff:∀ y∈b,y.Id≠x.Id
 room:z < 12/\z < cap
 cells:fE W [aA aB x.Id,aA aB x.aP.aG,aA aB x.aP.aI,aA aB x.aP.aH,aA aB x.aP.aJ,pv,bv] x
 apart:∀ s∈([aA aB x.Id,aA aB x.aP.aG,aA aB x.aP.aI,aA aB x.aP.aH,aA aB x.aP.aJ,pv,bv]:List Value),∀ a n c,s=aE (aC a) n c->a.block < W.heap.size/\a.block≠gb/\w0.heap.size<=a.block/\a.block∉ex/\∀ r,(aE (aC ⟨gq,0,aD⟩) l.length qc).ownBlock=aC r->a.block≠r
 low:w0.heap.size<=W.heap.size
theorem dY {W:World} {x:aT} {pv bv:Value} (h:fE W [aA aB x.Id,aA aB x.aP.aG,aA aB x.aP.aI,aA aB x.aP.aH,aA aB x.aP.aJ,pv,bv] x):aU W pv x.aP.aF/\bJ W bv x.aO/\(I64 x.aP.aG/\I64 x.aP.aI/\I64 x.aP.aH/\I64 x.aP.aJ)/\I64 x.Id:=by
 obtain⟨qs,bv',e,⟨pv',rfl,hp,hi⟩,hb,i5⟩:=h;have e1:pv=pv'/\bv=bv':=by simpa using e
 rw[e1.1,e1.2];exact⟨hp,hb,hi,i5⟩
theorem Ss (w:World) (X:Nat) (x:aT) (pv bv:Value):∃ w1:World,(w.alloc (.cells #[.pointer (aC ⟨X,0,aD⟩)] 128)).alloc (.cells #[aA aB x.Id,aA aB x.aP.aG,aA aB x.aP.aI,aA aB x.aP.aH,aA aB x.aP.aJ,pv,bv] 40)=w1/\Ext w w1/\
  w1.heap[w.heap.size]?=aC (.cells #[.pointer (aC ⟨X,0,aD⟩)] 128 (0,0))/\w1.heap[w.heap.size+1]?=aC (.cells #[aA aB x.Id,aA aB x.aP.aG,aA aB x.aP.aI,aA aB x.aP.aH,aA aB x.aP.aJ,pv,bv] 40 (0,0))/\w1.heap.size=w.heap.size+1+1:=by
 refine⟨_,rfl,((Ext.rf w).al _).al _,?_,?_,by simp⟩
 ·exact(Below.heap_alloc _ _ _ (by simp)).trans (aC5 w _)
 ·have:=aC5 (w.alloc (.cells #[.pointer (aC ⟨X,0,aD⟩)] 128)) (.cells #[aA aB x.Id,aA aB x.aP.aG,aA aB x.aP.aI,aA aB x.aP.aH,aA aB x.aP.aJ,pv,bv] 40)
  rwa [aCl] at this
def Qd (w0 w:World) (X gq qc gb cap z:Nat) (c nx:Int) (l:List Queue) (b:List aT) (ex:List Nat) (x:aT) (e:Ending) (w':World):Prop:=
 (iM l c b x=true/\e=.returned (.bool false)/\Ext w w')\/
 (iM l c b x=false/\e=.returned (.bool true)/\w'.heap[X]?=aC (.cells #[aA aB c,aA aB nx,aE (aC ⟨gq,0,aD⟩) l.length qc,aE (aC ⟨gb,0,aD⟩) (z+1) cap] 25 (0,0))/\
  cP ex w0.heap.size w' (aE (aC ⟨gq,0,aD⟩) l.length qc) (aE (aC ⟨gb,0,aD⟩) (z+1) cap) l (gJ l c b x)/\∃ W1 W2,Ext w W1/\W1.grownBy W2 (aC gb)/\w'=W2.setCell ⟨X,3,aD⟩ (aE (aC ⟨gb,0,aD⟩) (z+1) cap))
theorem Zo (w0 w:World) (X gq qc gb cap z:Nat) (c nx:Int) (l:List Queue) (b:List aT) (ex:List Nat) (x:aT) (pv bv:Value) (h:aBf w0 X gq qc gb cap z c nx l b ex x pv bv w) :
  Calls prog 85 #[.pointer (aC ⟨X,0,aD⟩),yI x pv bv] w (Qd w0 w X gq qc gb cap z c nx l b ex x):=by
 obtain⟨hpx,hbx,hI,hI0⟩:=dY h.cells;obtain⟨wb,hwb,HX,HN0,HN1,hszb⟩:=Ss w X x pv bv;have CF:=hid (fun(W:World) (hx:Ext wb W)=>yV W bv x.aO 145 #[.pointer (aC ⟨w.heap.size,0,aD⟩)] (fun y:bO=>decide (y.At < c)) (hbx.mono (HX.tr hx)) (enters_of func145 (by kernel_rfl) rfl)
  (fun k y hy W' hx'=>Wt W' y w.heap.size X c (cell_of_row W' _ 0 _ _ _ (aW HN0 (hx.tr hx'))) (cell_of_row W' X 0 _ _ _ (aW h.box (HX.tr (hx.tr hx'))))))
 obtain⟨pa,pc,rfl,_⟩:=hpx.form;obtain⟨ba,bc,rfl,_⟩:=hbx.form;have H:=hid h;have HX0:=hid HX;have HB0:=hid HN0;have HB1:=hid HN1;have HWB:=hid hwb;have HSB:=hid hszb;have HPX:=hid hpx;have HBX:=hid hbx;have HI:=hid hI;obtain⟨q0,q1,q2,q3,q4,q5,q6,_⟩:=dX HN1;clear h HX HN0 HN1 hwb hszb hpx hbx hI hI0;generalize hpn:x.aP.aF.length=pn at *;generalize hbn:x.aO.length=bn at *;have HPN:=hid hpn;clear hpn hbn;go_enter func85,ntmps85
 go_wp2_with fail
 rw[HWB.out]
 go_wp2_with fail
 refine(CF.out _ (Ext.rf _)).mono ?_;rintro e w3 ⟨rfl,hx3⟩;have HX3:=hid hx3;clear q0 q1 q2 q3 q4 q5 q6 CF;obtain⟨q0,q1,q2,q3,q4,q5,q6,_⟩:=dX (aW HB1.out hx3);clear hx3;cases hbg:rR c x with
 | true=>
  have HG:=hid (show iM l c b x=true from by unfold iM;rw[hbg];rfl);unfold rR at hbg;rw[hbg];clear hbg
  go_wp2_with fail
  go_ret;exact .inl ⟨HG.out,rfl,HX0.out.tr HX3.out⟩
 | false=>
  have HBG:=hid hbg;unfold rR at hbg;rw[hbg];clear hbg
  go_wp2_with fail
  obtain⟨W4,hW4⟩:∃ W4,w3.alloc (.cells #[aA aB x.aP.aG,aA aB x.aP.aI,aA aB x.aP.aH,aA aB x.aP.aJ,aE pa pn pc] 28)=W4:=⟨_,rfl⟩;have hx4:Ext w3 W4:=hW4▸(Ext.rf w3).al _;have hr4:W4.heap[w3.heap.size]?=aC (.cells #[aA aB x.aP.aG,aA aB x.aP.aI,aA aB x.aP.aH,aA aB x.aP.aJ,aE pa pn pc] 28 (0,0)):=hW4▸aC5 w3 _;rw[hW4];clear q0 q1 q2 q3 q4 q5 q6;have hX4:W4.heap[X]?=_:=aW H.out.box (HX0.out.tr (HX3.out.tr hx4));have hN4:W4.heap[w.heap.size]?=_:=aW HB0.out (HX3.out.tr hx4);have k0:W4.cell? ⟨w.heap.size,0,aD⟩=aC (.pointer (aC ⟨X,0,aD⟩)):=cell_of_row W4 _ 0 _ _ _ hN4;have k1:W4.cell? ⟨X,0,aD⟩=aC (aA aB c):=cell_of_row W4 _ 0 _ _ _ hX4;have k2:W4.cell? ⟨w3.heap.size,1,aD⟩=aC (aA aB x.aP.aI):=cell_of_row W4 _ 1 _ _ _ hr4;have HX4:=hid (HX3.out.tr hx4);have HR4:=hid hr4;have f1:=frozen_of_row W4.drew w3.heap.size 1 _ _ hr4;clear hx4 hr4 hX4 hN4 hW4;refine dF 8 (fun W=>W.cell? ⟨w.heap.size,0,aD⟩=aC (.pointer (aC ⟨X,0,aD⟩))/\W.cell? ⟨X,0,aD⟩=aC (aA aB c)/\W.cell? ⟨w3.heap.size,1,aD⟩=aC (aA aB x.aP.aI)) (by kernel_rfl) ⟨k0,k1,k2⟩ (fun hHeld=>?_);clear k0 k1 k2;refine tkT 0 ?_;refine tkT 1 ?_;refine tkT 2 ?_;refine tkT 3 ?_;refine tkT 4 ?_;refine tkT 5 ?_;refine tkT 6 ?_;refine tkT 7 ?_;refine eM (t:=8) (by kernel_rfl) rfl (by kernel_rfl) (fun K hK=>?_);simp only[zA,zB,zC];obtain⟨k0,k1,k2⟩:=hHeld;go_simp;refine hK.out _ _ ?_;clear hK K;obtain⟨W5,hW5⟩:∃ W5,(W4.setCell ⟨w3.heap.size,1,aD⟩ (aA aB (max x.aP.aI c))).drew=W5:=⟨_,rfl⟩;have hr5:W5.heap[w3.heap.size]?=aC (.cells #[aA aB x.aP.aG,aA aB (max x.aP.aI c),aA aB x.aP.aH,aA aB x.aP.aJ,aE pa pn pc] 28 (0,0)):=hW5▸heap_setCell_same W4 w3.heap.size 1 _ _ _ HR4.out;have hx5:Ext wb W5:=hW5▸((HX4.out.se (b:=w3.heap.size) (o:=1) HX3.out.size _).dr);rw[hW5];have e1:W5.cell? ⟨w3.heap.size,1,aD⟩=aC (aA aB (max x.aP.aI c)):=cell_of_row W5 _ 1 _ _ _ hr5;have e2:W5.cell? ⟨w3.heap.size,2,aD⟩=aC (aA aB x.aP.aH):=cell_of_row W5 _ 2 _ _ _ hr5;have HR5:=hid hr5;have HX5:=hid hx5;clear hW5 hr5 hx5 HX4 HR4 f1;by_cases hlate:x.aP.aH<=max x.aP.aI c
  ·have HG:=hid (show iM l c b x=true from by unfold iM;rw[deT hlate];simp)
   go_wp2_with fail
   go_ret;exact .inl ⟨HG.out,rfl,HX0.out.tr HX5.out⟩
  ·have hlt:max x.aP.aI c < x.aP.aH:=by omega
   have hq:=zX H.out.book.req hlt;obtain⟨ok,h12,hbok⟩:=iI H.out.right;have hfine:gM (bN (gX l b x.aP.aG)):=by
    obtain⟨q,hqn⟩:∃ q:Nat,x.aP.aG=q:=⟨x.aP.aG.toNat,by have:=H.out.book.q0;omega⟩;have hql:q < l.length:=by have:=H.out.book.q1;omega
    rw[hqn];exact zO H.out.right hql
   have RI:=hid (fun(W:World) (h:Ext w W)=>Gf W (aE (aC ⟨gq,0,aD⟩) l.length qc) (aE (aC ⟨gb,0,aD⟩) z cap) l b x.aP.aG (H.out.own.tree.mono h) (H.out.own.books.mono h) ok hbok h12 H.out.book.q0 H.out.book.q1);have PI:=hid (fun(W:World) (u:Value) (h:Ext w W) (hu:bC W u (bN (gX l b x.aP.aG)))=>show Calls prog 44 #[u,.agg #[aA aB x.aP.aG,aA aB (max x.aP.aI c),aA aB x.aP.aH,aA aB x.aP.aJ,aE pa pn pc]] W (oY W (cN l c b x)) from Tj W u _ _ (pX x.aP c) hu (HPX.out.mono h) hfine hq);have HGG:=hid (show iM l c b x=decide (cN l c b x=[]) from by unfold iM;rw[HBG.out,deF hlate];simp);have HRQ:=hid hq
   go_wp2_with fail
   clear e1 e2;have hX5:W5.heap[X]?=_:=aW H.out.box (HX0.out.tr HX5.out);have hN5:W5.heap[w.heap.size]?=_:=aW HB0.out HX5.out;have hM5:W5.heap[w.heap.size+1]?=_:=aW HB1.out HX5.out;refine dF 14 (fun W=>W.cell? ⟨w.heap.size,0,aD⟩=aC (.pointer (aC ⟨X,0,aD⟩))/\W.cell? ⟨X,2,aD⟩=aC (aE (aC ⟨gq,0,aD⟩) l.length qc)/\W.cell? ⟨X,3,aD⟩=aC (aE (aC ⟨gb,0,aD⟩) z cap)/\W.cell? ⟨w3.heap.size,0,aD⟩=aC (aA aB x.aP.aG)/\W.cell? ⟨w3.heap.size,1,aD⟩=aC (aA aB (max x.aP.aI c))/\W.cell? ⟨w3.heap.size,2,aD⟩=aC (aA aB x.aP.aH)/\W.cell? ⟨w3.heap.size,3,aD⟩=aC (aA aB x.aP.aJ)/\W.cell? ⟨w3.heap.size,4,aD⟩=aC (aE pa pn pc)) (by kernel_rfl)
    ⟨cell_of_row W5 _ 0 _ _ _ hN5,cell_of_row W5 _ 2 _ _ _ hX5,cell_of_row W5 _ 3 _ _ _ hX5,cell_of_row W5 _ 0 _ _ _ HR5.out,cell_of_row W5 _ 1 _ _ _ HR5.out,cell_of_row W5 _ 2 _ _ _ HR5.out,cell_of_row W5 _ 3 _ _ _ HR5.out,cell_of_row W5 _ 4 _ _ _ HR5.out⟩ (fun hHeld=>?_)
   have HX5':=hid (HX0.out.tr HX5.out);clear hX5 hN5;refine tkT 0 ?_;refine tkT 1 ?_;refine tkT 2 ?_;refine tkT 3 ?_;refine tkT 4 ?_;refine tkT 5 ?_;refine tkT 6 ?_;refine tkT 7 ?_;refine tkT 8 ?_;refine tkT 9 ?_;refine tkT 11 ?_;refine dG (i:=10) (by kernel_rfl) rfl (fun K hK=>?_);simp only[zA,zB,zC];go_simp;refine(RI.out _ HX5'.out.dr).mono ?_;rintro e W6 ⟨uf,rfl,huf,hx6⟩;obtain⟨fa,fc,rfl,_⟩:=huf.form;have HS6:=hid (show w.heap.size+1 < W6.heap.size from aBA (aBy.1 hM5).1 (((Ext.rf W5).dr.tr hx6).size));have HUF:=hid huf;clear huf;generalize (bN (gX l b x.aP.aG)).length=fn at *
   go_wp2_with fail
   refine hK.out _ _ ?_ (fun hHeld=>?_)
   ·(obtain⟨k0,k1,k2,k3,k4,k5,k6,k7⟩:=hHeld;exact⟨hx6.ce' k0,hx6.ce' k1,hx6.ce' k2,hx6.ce' k3,hx6.ce' k4,hx6.ce' k5,hx6.ce' k6,hx6.ce' k7⟩)
   clear hK K;refine dG (i:=12) (by kernel_rfl) rfl (fun K hK=>?_);simp only[zA,zB,zC];go_simp;refine(PI.out _ _ (HX5'.out.dr.tr hx6) HUF.out).mono ?_;rintro e W7 ⟨v,rfl,hv,hnil,hx7⟩
   go_wp2_with fail
   refine hK.out _ _ ?_ (fun hHeld=>?_)
   ·(obtain⟨k0,k1,k2,k3,k4,k5,k6,k7⟩:=hHeld;exact⟨hx7.ce' k0,hx7.ce' k1,hx7.ce' k2,hx7.ce' k3,hx7.ce' k4,hx7.ce' k5,hx7.ce' k6,hx7.ce' k7⟩)
   clear hK K;refine tkT 13 ?_;have hx57:Ext W5 W7:=((Ext.rf W5).dr.tr hx6).tr hx7;have hM7:=aW hM5 hx57;have f6:=frozen_of_row W7 (w.heap.size+1) 6 _ _ hM7;have k6:W7.cell? ⟨w.heap.size+1,6,aD⟩=aC (aE ba bn bc):=cell_of_row W7 _ 6 _ _ _ hM7;have HX57:=hid hx57;have HM7:=hid hM7;have HV:=hid hv;have HNIL:=hid hnil;clear hx6 hx7 hx57 hM7 hM5 hv hnil hHeld;refine eM (t:=14) (by kernel_rfl) rfl (by kernel_rfl) (fun K hK=>?_);simp only[zA,zB,zC];obtain⟨va,vn,vc,rfl⟩:∃ a n c,v=aE a n c:=by obtain⟨a,c,e,_⟩:=HV.out.form;exact⟨a,_,c,e⟩
   go_simp;refine hK.out _ _ ?_;clear hK K;obtain⟨W8,hW8⟩:∃ W8,W7.setCell ⟨w.heap.size+1,6,aD⟩ (aE va vn vc)=W8:=⟨_,rfl⟩;have hm8:W8.heap[w.heap.size+1]?=aC (.cells #[aA aB x.Id,aA aB x.aP.aG,aA aB x.aP.aI,aA aB x.aP.aH,aA aB x.aP.aJ,aE pa pn pc,aE va vn vc] 40 (0,0)):=hW8▸heap_setCell_same W7 (w.heap.size+1) 6 _ _ _ HM7.out;have hn8:W8.heap[w.heap.size]?=aC (.cells #[.pointer (aC ⟨X,0,aD⟩)] 128 (0,0)):=by
    rw[<- hW8,heap_setCell_other W7 ⟨w.heap.size+1,6,aD⟩ _ _ (by show w.heap.size≠w.heap.size+1;omega)];exact aW HB0.out (HX5.out.tr HX57.out)
   have hx8:Ext w W8:=hW8▸(HX0.out.tr (HX5.out.tr HX57.out)).se (b:=w.heap.size+1) (o:=6) (by omega) _;have hv8:bJ W8 (aE va vn vc) (cN l c b x):=hW8▸jW HV.out (aY W7 (w.heap.size+1) 6 (aE va vn vc)) (fun a n c e he=>by have:=HNIL.out.2 a n c e;have:=Option.some.inj he;have:=HS6.out;omega);rw[hW8];clear hW8;have HX8:=hid hx8;have HM8:=hid hm8;have HN8:=hid hn8;have HV8:=hid hv8;have e6:W8.cell? ⟨w.heap.size+1,6,aD⟩=aC (aE va vn vc):=cell_of_row W8 _ 6 _ _ _ hm8;clear hm8 hn8 hx8 hv8 f6 k6;by_cases hL:cN l c b x=[]
   ·have hvn:=HNIL.out.1 hL;cases hvn;have HG:=hid (show iM l c b x=true from by rw[HGG.out,deT hL]);have he:∀ W,Sem.run prog (binOp .eql 38 (aE aD 0 0) (aE aD 0 0)) W=.ok (.bool true) W:=fun W=>rfl;clear hL
    go_wp2_with fail
    go_ret;exact .inl ⟨HG.out,rfl,HX8.out⟩
   ·have HG:=hid (show iM l c b x=false from by rw[HGG.out,deF hL]);obtain⟨hright,hbok2,hats⟩:=rS H.out.right H.out.book H.out.id H.out.diff (by rw[H.out.len];exact H.out.room.1) HG.out;obtain⟨va',vc',e,hvc,hvc9,hvl,hvE⟩:=kM HV8.out;have hz1:1<=(cN l c b x).length:=List.length_pos_iff.2 hL;obtain⟨vb,vo,e2,hvb,hE⟩:=hvE hz1;obtain⟨rfl,rfl,rfl⟩:va=aC ⟨vb,vo,aD⟩/\vn=(cN l c b x).length/\vc=vc':=by cases e;exact⟨e2,rfl,rfl⟩
    have HFR:=hid (show W6.heap.size<=vb from HNIL.out.2 _ _ _ rfl);have HVB:=hid hvb;have HBK2:=hid hbok2;obtain⟨hf0,_⟩:=cL H.out.right;obtain⟨_,⟨_,_,_,hk4⟩,hids,_⟩:=cS hf0;have WH:=hid (fun(W:World) (h:Ext w W)=>Kk W (aE (aC ⟨gb,0,aD⟩) z cap) b x.Id nx hids hk4 (H.out.own.books.mono h) (iI H.out.right).2.1 H.out.id.1 (by have:=H.out.id;have hk4':nx<=1048576:=hk4;omega));clear e e2 hvE hE hvc hvc9 hvl hvb hright hbok2 hats hf0 hids hk4 HNIL HV;generalize hLL:cN l c b x=L at *;generalize hmm:L.length=m at *;have HLL:=hid hLL;have HMM:=hid hmm;clear hLL hmm hL;have he:∀ W,Sem.run prog (binOp .eql 38 (aE (aC ⟨vb,vo,aD⟩) m vc) (aE aD 0 0)) W=.ok (.bool false) W:=fun W=>rfl
    go_wp2_with fail
    clear e6;have kn:W8.cell? ⟨w.heap.size,0,aD⟩=aC (.pointer (aC ⟨X,0,aD⟩)):=cell_of_row W8 _ 0 _ _ _ HN8.out;have kx:W8.cell? ⟨X,3,aD⟩=aC (aE (aC ⟨gb,0,aD⟩) z cap):=cell_of_row W8 _ 3 _ _ _ (aW H.out.box HX8.out);have km:W8.cell? ⟨w.heap.size+1,0,aD⟩=aC (aA aB x.Id):=cell_of_row W8 _ 0 _ _ _ HM8.out
    go_region_held3 (fun w'=>(w'.cell? ⟨w.heap.size,0,aD⟩=aC (.pointer (aC ⟨X,0,aD⟩))/\w'.cell? ⟨X,3,aD⟩=aC (aE (aC ⟨gb,0,aD⟩) z cap)/\w'.cell? ⟨w.heap.size+1,0,aD⟩=aC (aA aB x.Id)))
     (first
      | go_keep
      | (
        go_split_ands
        exact⟨hxk.ce' (by assumption),hxk.ce' (by assumption),hxk.ce' (by assumption)⟩))
     (first
      | (go_at_call 135;refine(WH.out _ HX8.out.dr).mono ?_;rintro e W9 ⟨i,fb,rfl,hfb,hxk⟩;have HIB:=hid hfb.1;have HX9:=hid ((Ext.rf W8).dr.tr hxk);clear hfb))
    clear kn kx km
    go_wp2_with fail
    have hm9:=aW HM8.out HX9.out;have hn9:=aW HN8.out HX9.out;have hX9:=aW H.out.box (HX8.out.tr HX9.out);obtain⟨q0,q1,q2,q3,q4,q5,q6,_⟩:=dX hm9;refine dF 11 (fun W=>W.cell? ⟨w.heap.size,0,aD⟩=aC (.pointer (aC ⟨X,0,aD⟩))/\W.cell? ⟨X,3,aD⟩=aC (aE (aC ⟨gb,0,aD⟩) z cap)/\W.cell? ⟨w.heap.size+1,0,aD⟩=aC (aA aB x.Id)/\W.cell? ⟨w.heap.size+1,1,aD⟩=aC (aA aB x.aP.aG)/\W.cell? ⟨w.heap.size+1,2,aD⟩=aC (aA aB x.aP.aI)/\W.cell? ⟨w.heap.size+1,3,aD⟩=aC (aA aB x.aP.aH)/\W.cell? ⟨w.heap.size+1,4,aD⟩=aC (aA aB x.aP.aJ)/\W.cell? ⟨w.heap.size+1,5,aD⟩=aC (aE pa pn pc)/\W.cell? ⟨w.heap.size+1,6,aD⟩=aC (aE (aC ⟨vb,vo,aD⟩) m vc)) (by kernel_rfl)
     ⟨cell_of_row W9 _ 0 _ _ _ hn9,cell_of_row W9 _ 3 _ _ _ hX9,q0,q1,q2,q3,q4,q5,q6⟩ (fun hHeld=>?_)
    have HM9:=hid hm9;have HN9:=hid hn9;have HX9':=hid hX9;clear hm9 hn9 hX9 q0 q1 q2 q3 q4 q5 q6;refine tkT 0 ?_;refine tkT 1 ?_;refine tkT 2 ?_;refine tkT 3 ?_;refine tkT 4 ?_;refine tkT 5 ?_;refine tkT 6 ?_;refine dG (i:=7) (by kernel_rfl) rfl (fun K hK=>?_);simp only[zA,zB,zC];go_simp;obtain⟨W10,hW10⟩:∃ W10,(W9.alloc (.cells #[aA aB x.Id,aA aB x.aP.aG,aA aB x.aP.aI,aA aB x.aP.aH,aA aB x.aP.aJ,aE pa pn pc,aE (aC ⟨vb,vo,aD⟩) m vc] 40)).drew=W10:=⟨_,rfl⟩;have hx10:Ext W9 W10:=hW10▸((Ext.rf W9).al _).dr;have hb10:W10.heap[W9.heap.size]?=aC (.cells #[aA aB x.Id,aA aB x.aP.aG,aA aB x.aP.aI,aA aB x.aP.aH,aA aB x.aP.aJ,aE pa pn pc,aE (aC ⟨vb,vo,aD⟩) m vc] 40 (0,0)):=hW10▸aC5 W9 _;rw[hW10];have hx910:=((Ext.rf W9).al (.cells #[aA aB x.Id,aA aB x.aP.aG,aA aB x.aP.aI,aA aB x.aP.aH,aA aB x.aP.aJ,aE pa pn pc,aE (aC ⟨vb,vo,aD⟩) m vc] 40)).dr;rw[hW10] at hx910;refine hK.out _ _ ?_ (fun hHeld=>?_)
    ·(obtain⟨k0,k1,k2,k3,k4,k5,k6,k7,k8⟩:=hHeld;exact⟨hx910.ce' k0,hx910.ce' k1,hx910.ce' k2,hx910.ce' k3,hx910.ce' k4,hx910.ce' k5,hx910.ce' k6,hx910.ce' k7,hx910.ce' k8⟩)
    clear hK K;have hxw10:Ext w W10:=(HX8.out.tr HX9.out).tr hx10;have hbl:W6.heap.size<=vb:=HFR.out;have hb8:vb < W8.heap.size:=HVB.out;have hs910:=(HX9.out.tr hx10).size;have IN:=hid (Ti ex w0.heap.size W10 (aE (aC ⟨gq,0,aD⟩) l.length qc) gb z cap i W9.heap.size l b ⟨x.Id,x.aP,L⟩ [aA aB x.Id,aA aB x.aP.aG,aA aB x.aP.aI,aA aB x.aP.aH,aA aB x.aP.aJ,aE pa pn pc,aE (aC ⟨vb,vo,aD⟩) m vc]
     (H.out.own.ext hxw10) H.out.len (by have:=HIB.out.1;rw[H.out.len] at this;exact this) H.out.room.1 H.out.room.2
     ⟨_,_,rfl,⟨_,rfl,HPX.out.mono hxw10,HI.out⟩,HV8.out.mono (HX9.out.tr hx10),(dY H.out.cells).2.2.2⟩
     (nF (l:=l) (b:=[⟨x.Id,x.aP,L⟩]) (fun y hy=>by rw[aCB.1 hy];exact HBK2.out) _ (aCB.2 rfl))
     (fun s hs a n c' e=>by
      simp only[aC8,aCj,or_false] at hs;rcases hs with rfl | rfl | rfl | rfl | rfl | rfl | rfl
      ·cases e
      ·cases e
      ·cases e
      ·cases e
      ·cases e
      ·obtain⟨p1,p2⟩:=H.out.apart (aE pa pn pc) (by simp) a n c' e;exact⟨aBA p1 hxw10.size,p2⟩
      ·cases e;have h0:=H.out.low;have h1:=HS6.out;obtain⟨ga,qa,e1,⟨g1,g2⟩⟩:=H.out.own.uform;cases e1;have g3:=(aBy.1 H.out.box).1;obtain⟨_,_,e2,hg⟩:=H.out.own.vform;have g4:=hg gb rfl;show vb < W10.heap.size/\vb≠gb/\w0.heap.size<=vb/\vb∉ex/\∀ r,(aE (aC ⟨gq,0,aD⟩) l.length qc).ownBlock=aC r->vb≠r;refine⟨by omega,by omega,by omega,fun hm=>by have:=H.out.exlt _ hm;omega,fun r hr=>?_⟩;have:gq=r:=by simpa[aCZ] using hr
       omega)
     (by simp[aBz]) hb10 (by
      obtain⟨_,_,e2,hg⟩:=H.out.own.vform;have g4:=hg gb rfl;have:=(HX8.out.tr HX9.out).size;omega))
    refine dG (i:=8) (by kernel_rfl) rfl (fun K hK=>?_);simp only[zA,zB,zC];go_simp;refine IN.out.mono ?_;rintro e W11 ⟨rfl,hO11,hg11⟩;have hgbw:gb≠X/\gb < w.heap.size:=by
     obtain⟨_,_,_,hg⟩:=H.out.own.vform;exact⟨fun e=>H.out.own.vne gb rfl X H.out.xin e,(hg gb rfl).2⟩
    go_wp2_with fail
    refine hK.out _ _ ?_ (fun hHeld=>?_)
    ·(obtain⟨k0,k1,k2,k3,k4,k5,k6,k7,k8⟩:=hHeld;exact⟨fP hg11 k0 (fun r hr=>by have:=Option.some.inj hr;omega),fP hg11 k1 (fun r hr=>by have:=Option.some.inj hr;omega),fP hg11 k2 (fun r hr=>by have:=Option.some.inj hr;omega),fP hg11 k3 (fun r hr=>by have:=Option.some.inj hr;omega),fP hg11 k4 (fun r hr=>by have:=Option.some.inj hr;omega),fP hg11 k5 (fun r hr=>by have:=Option.some.inj hr;omega),fP hg11 k6 (fun r hr=>by have:=Option.some.inj hr;omega),fP hg11 k7 (fun r hr=>by have:=Option.some.inj hr;omega),fP hg11 k8 (fun r hr=>by have:=Option.some.inj hr;omega)⟩)
    clear hK K;have hX11:=(hg11.block X (aBA (aBy.1 H.out.box).1 hxw10.size) (fun e=>hgbw.1 (Option.some.inj e).symm)).trans (aW H.out.box hxw10);have f3:=frozen_of_row W11 X 3 _ _ hX11;have HEND:=hid (show Qd w0 w X gq qc gb cap z c nx l b ex x (.returned (.bool true)) (W11.setCell ⟨X,3,aD⟩ (aE (aC ⟨gb,0,aD⟩) (z+1) cap)) from .inr ⟨HG.out,rfl,heap_setCell_same W11 X 3 _ _ _ hX11,by
     have e:=Tz (x:=⟨x.Id,x.aP,L⟩) HIB.out;have e2:gJ l c b x=b.take i++⟨x.Id,x.aP,L⟩::b.drop i:=by unfold gJ;rw[HLL.out,e]
     rw[e2];exact hO11.kept (aY W11 X 3 _) H.out.xin,W10,W11,hxw10,hg11,rfl⟩)
    clear hX11 hO11 hg11 hx10 hb10 hx910 hxw10 IN hW10;refine tkT 9 ?_;refine tkT 10 ?_;obtain⟨k0,k1,k2,k3,k4,k5,k6,k7,k8⟩:=hHeld;refine eM (t:=11) (by kernel_rfl) rfl (by kernel_rfl) (fun K hK=>?_);simp only[zA,zB,zC];go_simp;refine hK.out _ _ ?_;clear hK K
    go_wp2_with fail
    go_ret;exact HEND.out
theorem gL.setC {bs:List Nat} {W:World} {g:Nat} {l:List Queue} (h:gL bs W g l) {k:Nat} {x:Queue} (hk:l[k]?=aC x) {cv:Value} {f:List Run} (hv:bC W cv f) (ha:bU (g::bs) cv):gL bs (W.setCell ⟨g,k*3+2,aD⟩ cv) g (l.set k ⟨x.aQ,x.aR,f⟩):=by
 obtain⟨vs,h1,h2⟩:=h;have hg:=aY W g (k*3+2) cv;have hr:∀ r,aC g=aC r->r∈g::bs:=fun r e=>by cases e;exact aCw ..
 refine⟨vs.set (k*3+2) cv,h1.set _ _,fun j y hj=>?_⟩;by_cases hjk:j=k
 ·subst hjk;obtain⟨a,b,c,d,cw,e,f',i⟩:=h2 j x hk;rw[aCz (aBD.1 hk).1] at hj;cases hj;exact⟨by rw[aCA (by omega)];exact a,b,by rw[aCA (by omega)];exact c,d,cv,by rw[aCz (aBD.1 e).1],eI hv ha hg hr,ha⟩
 ·rw[aCA (fun h=>hjk h.symm)] at hj;obtain⟨a,b,c,d,cw,e,f',i⟩:=h2 j y hj;exact⟨by rw[aCA (by omega)];exact a,b,by rw[aCA (by omega)];exact c,d,cw,by rw[aCA (by omega)];exact e,eI f' i hg hr,i⟩
theorem cP.setC {ex:List Nat} {B g qc k:Nat} {W:World} {v cv:Value} {l:List Queue} {b:List aT} {f:List Run} (h:cP ex B W (aE (aC ⟨g,0,aD⟩) l.length qc) v l b) (hk:k < l.length) (hv:bC W cv f) (hf:f≠[]) (ha:bU (g::(v.ownBlock.toList++(ex++List.range B))) cv) :
  cP ex B (W.setCell ⟨g,k*3+2,aD⟩ cv) (aE (aC ⟨g,0,aD⟩) l.length qc) v (eC l k f) b:=by
 obtain⟨g',qc',e,h1,h2,h5,h12,hgB,hs,he,hl,hc,ho,hne,hq⟩:=h;cases e;obtain⟨x,hx⟩:=bT hk;obtain⟨e1,e2,_⟩:=fC hx;have hg:=aY W g (k*3+2) cv;refine⟨g,qc,by rw[jN],by rw[jN];exact h1,h2,by rw[jN];exact h5,h12,hgB,aBA hs hg.size,he,hl,fun y hy=>?_,ho.keptR hg (aCw ..) (fun r hr e=>(hne r hr).1 e.symm),hne,?_⟩
 ·rcases aDC hy with h | h
  ·exact hc y h
  ·rw[h];exact hf
 ·have:=hq.setC hx hv ha;rw[<- e1,<- e2] at this;exact this
theorem mU {w:World} {base e:Nat} {v:Value} {xs:List Int} (h:w.ownsRow base e 1 v xs.length (xs.map fun n=>aA .i64 n)) (hi:∀ x∈xs,I64 x) (hl:xs.length<=17592186044416):pP w v xs:=by
 rcases h.2 with ⟨rfl,h0⟩ | ⟨g,cap,cur,rfl,hb,hg,hcp,hm,hcs,htk⟩
 ·exact .inl ⟨aBC h0,aD,0,rfl,by omega⟩
 ·refine .inr ⟨g,0,cap,rfl,hcp,by unfold maxLen at hm;omega,hl,mS.row hg,fun k x hk=>⟨?_,hi x (aBJ hk)⟩⟩;refine kG hg ?_;have hkl:=(aBD.1 hk).1;have e:(xs.map fun n=>aA .i64 n)[k]?=aC (aA aB x):=by rw[List.getElem?_map,hk];rfl
  rw[<- htk,aCY (by omega)] at e;rw[Nat.zero_add,Nat.mul_one];exact e
structure dJ (w0:World) (X gq qc gb cap:Nat) (c nx:Int) (l:List Queue) (A:List aT) (va:Value) (b:List aT) (m d:List Int) (vm vd:Value) (W:World):Prop where
 box:W.heap[X]?=aC (.cells #[aA aB c,aA aB nx,aE (aC ⟨gq,0,aD⟩) l.length qc,aE (aC ⟨gb,0,aD⟩) b.length cap] 25 (0,0))
 own:cP (vm.ownBlock.toList++(vd.ownBlock.toList++(va.ownBlock.toList++[X]))) w0.heap.size W (aE (aC ⟨gq,0,aD⟩) l.length qc) (aE (aC ⟨gb,0,aD⟩) b.length cap) l b
 away:eP (vm.ownBlock.toList++(vd.ownBlock.toList++(gb::gq::X::List.range w0.heap.size))) w0.heap.size W va A
 live:yQ A
 mrow:W.ownsRow w0.heap.size 3 1 vm m.length (m.map fun n=>aA .i64 n)
 drow:W.ownsRow w0.heap.size 3 1 vd d.length (d.map fun n=>aA .i64 n)
 mapart:∀ r,vm.ownBlock=aC r->r≠X/\va.ownBlock≠aC r/\vd.ownBlock≠aC r
 dapart:∀ r,vd.ownBlock=aC r->r≠X/\va.ownBlock≠aC r/\vm.ownBlock≠aC r
 aapart:va.ownBlock≠aC X
 ext:Ext w0 W
 low:w0.heap.size<=X
section
variable {w0 W:World} {X gq qc gb cap:Nat} {c nx:Int} {l:List Queue} {A b:List aT} {m d:List Int} {va vm vd:Value}
theorem mem3 {α:Type} {r:α} {a b c:List α}:r∈a++(b++c)->r∈b++(a++c):=fun h=>by
 simp only[aBm] at h ⊢;rcases h with h | h | h
 ·exact .inr (.inl h)
 ·exact .inl h
 ·exact .inr (.inr h)
theorem dJ.swap (h:dJ w0 X gq qc gb cap c nx l A va b m d vm vd W):dJ w0 X gq qc gb cap c nx l A va b d m vd vm W:=
 ⟨h.box,h.own.low (aBq _) (fun r hr=>mem3 hr),h.away.sub (fun r hr=>mem3 hr),h.live,h.drow,h.mrow,h.dapart,h.mapart,h.aapart,h.ext,h.low⟩
theorem dJ.later {W':World} (h:dJ w0 X gq qc gb cap c nx l A va b m d vm vd W) (hx:Ext W W'):dJ w0 X gq qc gb cap c nx l A va b m d vm vd W':=
 ⟨aW h.box hx,h.own.ext hx,h.away.ext hx,h.live,bE h.mrow hx,bE h.drow hx,h.mapart,h.dapart,h.aapart,h.ext.tr hx,h.low⟩
theorem dJ.ne (h:dJ w0 X gq qc gb cap c nx l A va b m d vm vd W):(gb≠X/\gq≠X/\gq≠gb/\w0.heap.size<=gb/\gb < W.heap.size/\gq < W.heap.size)/\(∀ r,vm.ownBlock=aC r->r≠gb/\r≠gq)/\(∀ r,vd.ownBlock=aC r->r≠gb/\r≠gq)/\∀ r,va.ownBlock=aC r->r≠gb/\r≠gq:=by
 obtain⟨g,qc',e,h1,h2,h5,h12,hgB,hs,he,_,_,⟨css,o1,_⟩,hne,_⟩:=h.own;cases e;have hg:=o1.lt gb rfl;have hgb:=(hne gb rfl).2;have X1:∀ r,r∈vm.ownBlock.toList++(vd.ownBlock.toList++(va.ownBlock.toList++[X]))->r≠gb/\r≠gq:=fun r hr=>⟨fun e=>hgb (e▸hr),fun e=>he (e▸hr)⟩;refine⟨⟨fun e=>(X1 X (by simp)).1 e.symm,fun e=>(X1 X (by simp)).2 e.symm,(hne gb rfl).1,hg.1,hg.2,hs⟩,fun r hr=>X1 r (by simp[hr]),fun r hr=>X1 r (by simp[hr]),fun r hr=>X1 r (by simp[hr])⟩
theorem cY {W W':World} {base e sz n:Nat} {v:Value} {xs:List Value} {row:Option Nat} (h:W.ownsRow base e sz v n xs) (hg:W.grownBy W' row) (hne:∀ r,v.ownBlock=aC r->row≠aC r):W'.ownsRow base e sz v n xs:=by
 refine⟨h.1,?_⟩;rcases h.2 with h | ⟨g,cap,cur,hv,hb,hc,q⟩
 ·exact .inl h
 ·exact .inr ⟨g,cap,cur,hv,hb,(hg.block g (aBy.1 hc).1 (fun e=>hne g (by rw[hv];rfl) e.symm)).trans hc,q⟩
theorem dJ.back {W1 W2:World} {b2:List aT} (h:dJ w0 X gq qc gb cap c nx l A va b m d vm vd W) (hx:Ext W W1) (hg:W1.grownBy W2 (aC gb)) (v:Value)
  (hbox:(W2.setCell ⟨X,3,aD⟩ v).heap[X]?=aC (.cells #[aA aB c,aA aB nx,aE (aC ⟨gq,0,aD⟩) l.length qc,aE (aC ⟨gb,0,aD⟩) b2.length cap] 25 (0,0)))
  (hown:cP (vm.ownBlock.toList++(vd.ownBlock.toList++(va.ownBlock.toList++[X]))) w0.heap.size (W2.setCell ⟨X,3,aD⟩ v) (aE (aC ⟨gq,0,aD⟩) l.length qc) (aE (aC ⟨gb,0,aD⟩) b2.length cap) l b2) :
  dJ w0 X gq qc gb cap c nx l A va b2 m d vm vd (W2.setCell ⟨X,3,aD⟩ v):=by
 obtain⟨⟨n1,n2,n3,n4,n5,_⟩,k1,k2,k3⟩:=h.ne;have hs:=aY W2 X 3 v;refine⟨hbox,hown,?_,h.live,?_,?_,h.mapart,h.dapart,h.aapart,?_,h.low⟩
 ·refine((h.away.ext hx).keptR hg (by simp) (fun r hr=>(k3 r hr).1)).keptR hs (by simp) (fun r hr e=>h.aapart (e▸hr))
 ·refine cY (cY (bE h.mrow hx) hg (fun r hr e=>(k1 r hr).1 (Option.some.inj e).symm)) hs (fun r hr e=>(h.mapart r hr).1 (Option.some.inj e).symm)
 ·refine cY (cY (bE h.drow hx) hg (fun r hr e=>(k2 r hr).1 (Option.some.inj e).symm)) hs (fun r hr e=>(h.dapart r hr).1 (Option.some.inj e).symm)
 ·exact((h.ext.tr hx).gr (v:=aE (aC ⟨gb,0,aD⟩) 0 0) hg (fun k hk=>by have e:=Option.some.inj hk;have e2:gb=k:=e;omega)).se h.low _
theorem dJ.push {W':World} {g2 cap2:Nat} {n:Int} (h:dJ w0 X gq qc gb cap c nx l A va b m d vm vd W)
  (hown:W'.ownsRow w0.heap.size 3 1 (aE (aC ⟨g2,0,aD⟩) (m.length+1) cap2) (m.length+1) ((m.map fun n=>aA .i64 n)++[aA aB n]))
  (hg:(W.alloc (.cells #[aA aB n] 3)).grownBy W' vm.ownBlock) (hlie:vm.ownBlock=aC g2\/g2=W.heap.size+1) :
  dJ w0 X gq qc gb cap c nx l A va b (m++[n]) d (aE (aC ⟨g2,0,aD⟩) (m++[n]).length cap2) vd W':=by
 have hlen:(m++[n]).length=m.length+1:=by simp
 obtain⟨⟨n1,n2,n3,n4,n5,n6⟩,k1,k2,k3⟩:=h.ne;have hXw:=(aBy.1 h.box).1;have h1:=h.later ((Ext.rf W).al (.cells #[aA aB n] 3));have hsz:(W.alloc (.cells #[aA aB n] 3)).heap.size=W.heap.size+1:=aCl ..;have hva:∀ r,va.ownBlock=aC r->r < W.heap.size:=fun r hr=>by obtain⟨css,o1,_⟩:=h.away;exact(o1.lt r hr).2
 have hvd:∀ r,vd.ownBlock=aC r->r < W.heap.size:=fun r hr=>(h.drow.lt r hr).2;have hg2:g2≠X/\va.ownBlock≠aC g2/\vd.ownBlock≠aC g2:=by
  rcases hlie with e | e
  ·exact h.mapart g2 e
  ·exact⟨by omega,fun e2=>by have:=hva g2 e2;omega,fun e2=>by have:=hvd g2 e2;omega⟩
 have e2:(aE (aC ⟨g2,0,aD⟩) (m++[n]).length cap2).ownBlock=aC g2:=rfl;refine⟨?_,?_,?_,h.live,?_,?_,fun r hr=>?_,fun r hr=>?_,h.aapart,?_,h.low⟩
 ·exact(hg.block X (aBA hXw (by omega)) (fun e=>(h.mapart X e.symm).1 rfl)).trans h1.box
 ·have hO2:cP (g2::(vm.ownBlock.toList++(vd.ownBlock.toList++(va.ownBlock.toList++[X])))) w0.heap.size (W.alloc (.cells #[aA aB n] 3)) (aE (aC ⟨gq,0,aD⟩) l.length qc) (aE (aC ⟨gb,0,aD⟩) b.length cap) l b:=by
   rcases hlie with e | e
   ·exact h1.own.low (aBq _) (fun r hr=>by
     rcases aC8.1 hr with rfl | hr
     ·exact aD1 _ (by rw[e];exact aCB.2 rfl)
     ·exact hr)
   ·exact h1.own.box (by omega)
  refine(hO2.keptR hg (fun r hr=>aBl _ (aD1 _ (by rw[hr];exact aCB.2 rfl)))).low (aBq _) (fun r hr=>?_);rw[e2] at hr;rcases aBm.1 hr with h | h
  ·rw[aCB.1 h];exact aCw ..
  ·exact aBl _ (aD2 _ h)
 ·have hA2:eP (g2::(vm.ownBlock.toList++(vd.ownBlock.toList++(gb::gq::X::List.range w0.heap.size)))) w0.heap.size (W.alloc (.cells #[aA aB n] 3)) va A:=by
   rcases hlie with e | e
   ·exact h1.away.sub (fun r hr=>by
     rcases aC8.1 hr with rfl | hr
     ·exact aD1 _ (by rw[e];exact aCB.2 rfl)
     ·exact hr)
   ·exact h1.away.low_all h.live (by omega)
  have hA3:eP (g2::(vm.ownBlock.toList++(vd.ownBlock.toList++(gb::gq::X::List.range w0.heap.size)))) w0.heap.size W' va A:=by
   cases hv:vm.ownBlock with
   | none=>rw[hv] at hg hA2;exact hA2.ext ((Ext.rf _).gr (v:=.bool true) hg (fun k e=>by cases e))
   | some r=>rw[hv] at hg hA2;exact hA2.keptR hg (by simp) (fun k hk e=>(h.mapart r hv).2.1 (e▸hk))
  refine hA3.sub (fun r hr=>?_);rw[e2] at hr;rcases aBm.1 hr with h | h
  ·rw[aCB.1 h];exact aCw ..
  ·exact aBl _ (aD2 _ h)
 ·rw[hlen,List.map_append];exact hown
 ·exact cY h1.drow hg (fun r hr e=>(h.dapart r hr).2.2 e)
 ·have:g2=r:=by simpa[aCZ] using hr
  rw[<- this];exact hg2
 ·exact⟨(h.dapart r hr).1,(h.dapart r hr).2.1,fun e=>hg2.2.2 (by
                                    have:g2=r:=by simpa[aCZ] using e
                                    rw[this];exact hr)⟩
 ·exact(h1.ext).gr hg (fun k hk=>(h.mrow.lt k hk).1)
theorem dJ.take {k:Nat} {x:aT} (h:dJ w0 X gq qc gb cap c nx l A va b m d vm vd W) (hk:A[k]?=aC x) :
  ∃ ga ca pv bv,va=aE (aC ⟨ga,0,aD⟩) A.length ca/\kY W ga (k*7) x pv bv/\fE W [aA aB x.Id,aA aB x.aP.aG,aA aB x.aP.aI,aA aB x.aP.aH,aA aB x.aP.aJ,pv,bv] x/\
   ∀ s∈([aA aB x.Id,aA aB x.aP.aG,aA aB x.aP.aI,aA aB x.aP.aH,aA aB x.aP.aJ,pv,bv]:List Value),∀ a n c,s=aE (aC a) n c->a.block < W.heap.size/\a.block≠gb/\w0.heap.size<=a.block/\a.block∉vm.ownBlock.toList++(vd.ownBlock.toList++(va.ownBlock.toList++[X]))/\∀ r,(aE (aC ⟨gq,0,aD⟩) l.length qc).ownBlock=aC r->a.block≠r:=by
 obtain⟨css,o1,o2,o3,o4⟩:=h.away;have hkl:=(aBD.1 hk).1;rcases o1.2 with ⟨_,h0⟩ | ⟨ga,ca,cur,hv,hb,hcur,hnc,hcm,hcs,htk⟩
 ·omega
 obtain⟨cs,hcs'⟩:=bT (f:=css) (k:=k) (by rw[o2.len];exact hkl);have hbc:=o2.each k cs x hcs' hk;have hmem:=aBJ hcs';have hcell:∀ (j:Nat) v,j < 7->cs[j]?=aC v->W.cell? ⟨ga,k*7+j,aD⟩=aC v:=fun j v hj hv=>by
  refine kG hcur ?_;have e:=Bc (m:=7) (by omega) css o2.seven k j hj;rw[hcs'] at e;have e2:css.flatten[k*7+j]?=aC v:=by rw[e];exact hv
  rw[<- htk,aBH] at e2;split at e2
  ·exact e2
  ·cases e2
 have hlow:=jQ o2 (fun x hx=>(h.live x hx).1) cs hmem;have hap:=o3 cs hmem;have hap2:=o4 ga (by rw[hv];rfl) cs hmem;have hbc':=hbc;obtain⟨qs,bv,rfl,⟨pv,rfl,_⟩,_⟩:=hbc;refine⟨ga,ca,pv,bv,hv,⟨hcell 0 _ (by omega) rfl,hcell 1 _ (by omega) rfl,hcell 2 _ (by omega) rfl,hcell 3 _ (by omega) rfl,hcell 4 _ (by omega) rfl,hcell 5 _ (by omega) rfl,hcell 6 _ (by omega) rfl⟩,hbc',fun s hsm a n c e=>?_⟩;have e1:=hlow s hsm a n c e;have e2:=hap s hsm a n c e;have e3:=hap2 s hsm a n c e;have hvb:va.ownBlock=aC ga:=by rw[hv];rfl
 refine⟨e1,fun h=>e2 (by simp[h]),?_,fun h=>?_,fun r hr h=>e2 ?_⟩
 ·rcases aBK a.block w0.heap.size with h | h
  ·exact absurd (show a.block∈_ from by simp[aC3.2 h,h]) e2
  ·exact h
 ·simp only[aBm,aCB,hvb,Option.toList_some] at h;rcases h with h | h | h | h
  ·exact e2 (aD1 _ h)
  ·exact e2 (aD2 _ (aD1 _ h))
  ·exact e3 (aCB.2 h)
  ·exact e2 (by simp[h])
 ·have:gq=r:=by simpa[aCZ] using hr
  simp[h,<- this]
end
def gV (w:World) (x:aV × List Int × List Int × Int) (e:Ending) (w':World):Prop:=
 ∃ u v mv dv,e=.returned (.tuple #[.agg #[aA aB x.1.aL,aA aB x.1.aM,u,v],mv,dv,aA aB x.2.2.2])/\StS w.heap.size w' u v x.1/\pP w' mv x.2.1/\pP w' dv x.2.2.1/\Ext w w'
theorem lK {w w':World} {x:aV × List Int × List Int × Int} {s:aV} {m d:List Int} {n:Int} {u v mv dv:Value} (h:x=(s,m,d,n)) (h1:StS w.heap.size w' u v s) (h2:pP w' mv m) (h3:pP w' dv d) (hx:Ext w w') :
  gV w x (.returned (.tuple #[.agg #[aA aB s.aL,aA aB s.aM,u,v],mv,dv,aA aB n])) w':=by
 subst h;exact⟨u,v,mv,dv,rfl,h1,h2,h3,hx⟩
theorem gG {w w':World} {x:aV × List Int × List Int × Int} {n:Int} (h:x=(fA,[],[],n)) (hx:Ext w w'):gV w x (.returned (.tuple #[.agg #[aA aB 0,aA aB 0,aE aD 0 0,aE aD 0 0],aE aD 0 0,aE aD 0 0,aA aB n])) w':=
 lK (s:=fA) h (.inr ⟨rfl,rfl,rfl,rfl⟩) SV.nil SV.nil hx
theorem cU {P:Program} {fn:Func} {p u1 u2 u3:Tmp} {ty:TypeId} (h:fn.results=#[.cell p ty,.tmp u1,.tmp u2,.tmp u3]) (tmps:Array Value) (w:World) (g:Nat) (t:TypeId) (cs:Array Value) (fr:Nat × Nat) (d:TypeDesc)
  (hp:tmps.getD p undef=.pointer (aC ⟨g,0,aD⟩)) (hg:w.heap[g]?=aC (.cells cs t fr))
  (hu:P.underlying ty=aC d) (hd:(match d with | .struct _ | .array _ _=>true | _=>false)=true) (hi:(P.info? ty).map (·.size)=aC cs.size) :
  (results fn tmps).run P w=.ok (.tuple #[.agg cs,tmps.getD u1 undef,tmps.getD u2 undef,tmps.getD u3 undef]) w:=by
 have hp':tmps[p]?.getD undef=.pointer (aC ⟨g,0,aD⟩):=by simpa using hp
 simp[results,h,hp',asAddr,run_loadVar_row w g t ty cs fr d hg hu hd hi]
theorem Tl (w:World) (tv bv rv:Value) (s:aV) (q:Int) (f:List Run) (hl:aX w tv s.aN) (hb:bD w bv s.aK) (hr:bC w rv f) (h0:aZ s≠0) :
  Calls prog 41 #[.agg #[aA aB s.aL,aA aB s.aM,tv,bv],aA aB q,rv] w (gV w (dK s q f)):=by
 have F:=hid (fun(W:World) (h:Ext w W)=>eQ W tv bv s (hl.mono h) (hb.mono h));have CF:=hid (fun(W:World) (h:Ext w W)=>yX W rv f (hr.mono h));obtain⟨wb,hwb,HX,HSS,HZZ,hszb⟩:=eD w s tv bv;have HX0:=hid HX;have HS0:=hid HSS;have HZ0:=hid HZZ;have HWB:=hid hwb;have HSB:=hid hszb;clear HX HSS HZZ hwb hszb;have HR:=hid (Bj (q:=q) (f:=f) h0);have hne:=neT h0;generalize aZ s=se at *;obtain⟨qa,qc,rfl,_,_,_⟩:=hl.form;obtain⟨ba,bc,rfl,_,_,_⟩:=hb.form;obtain⟨fa,fc,rfl,_,_,_⟩:=hr.form;clear hl hb hr h0;generalize dK s q f=cr at *;generalize s.aN.length=n at *;generalize s.aK.length=z at *;generalize f.length=fl at *;go_enter func41,ntmps41
 go_wp2_with fail
 rw[HWB.out];refine(F.out _ HX0.out).mono ?_;rintro e w2 ⟨rfl,hx2⟩;have HB:=hid (HZ0.out w2 hx2);have HX2:=hid ((HX0.out.tr hx2).sr (b:=w.heap.size+1) (by omega) #[aA aB 0,aA aB 0,aE aD 0 0,aE aD 0 0]);have HB2:=hid (setRow_heap w2 (w.heap.size+1) _ #[aA aB 0,aA aB 0,aE aD 0 0,aE aD 0 0] _ _ HB.out)
 go_wp2_with (refine wpList_store_row rfl 25 _ _ rfl (w.heap.size+1) #[aA aB 0,aA aB 0,aE aD 0 0,aE aD 0 0] rfl rfl 25 _ HB.out size25 rfl (by simp[aBz]) ?_)
 exact bodyPost_ret (cU (u1:=7) (u2:=8) (u3:=9) rfl _ _ (w.heap.size+1) 25 #[aA aB 0,aA aB 0,aE aD 0 0,aE aD 0 0] (0,0) _ rfl HB2.out underlying25 rfl size25) rfl (gG HR.out HX2.out)
theorem Xp (w:World) (tv bv rv:Value) (s:aV) (q:Int) (f:List Run) (hl:aX w tv s.aN) (hb:bD w bv s.aK) (hr:bC w rv f) (h0:aZ s=0) (h1:¬ (0<=q/\q < s.aN.length)) :
  Calls prog 41 #[.agg #[aA aB s.aL,aA aB s.aM,tv,bv],aA aB q,rv] w (gV w (dK s q f)):=by
 have F:=hid (fun(W:World) (h:Ext w W)=>eQ W tv bv s (hl.mono h) (hb.mono h));have CF:=hid (fun(W:World) (h:Ext w W)=>yX W rv f (hr.mono h));obtain⟨wb,hwb,HX,HSS,HZZ,hszb⟩:=eD w s tv bv;have HX0:=hid HX;have HS0:=hid HSS;have HZ0:=hid HZZ;have HWB:=hid hwb;have HSB:=hid hszb;clear HX HSS HZZ hwb hszb;have HR:=hid (yE (f:=f) h0 h1);rw[h0] at F;obtain⟨qa,qc,rfl,_,_,_⟩:=hl.form;obtain⟨ba,bc,rfl,_,_,_⟩:=hb.form;obtain⟨fa,fc,rfl,_,_,_⟩:=hr.form;clear hl hb hr h0;generalize dK s q f=cr at *;generalize s.aN.length=n at *;generalize s.aK.length=z at *;generalize f.length=fl at *;go_enter func41,ntmps41
 go_wp2_with fail
 rw[HWB.out];refine(F.out _ HX0.out).mono ?_;rintro e w2 ⟨rfl,hx2⟩;obtain⟨a0,a1,a2,a3⟩:=HS0.out w2 hx2;by_cases hq:q < 0
 ·clear a0 a1 a3;have HB:=hid (HZ0.out w2 hx2);have HX2:=hid ((HX0.out.tr hx2).sr (b:=w.heap.size+1) (by omega) #[aA aB 0,aA aB 0,aE aD 0 0,aE aD 0 0]);have HB2:=hid (setRow_heap w2 (w.heap.size+1) _ #[aA aB 0,aA aB 0,aE aD 0 0,aE aD 0 0] _ _ HB.out)
  go_wp2_with (refine wpList_store_row rfl 25 _ _ rfl (w.heap.size+1) #[aA aB 0,aA aB 0,aE aD 0 0,aE aD 0 0] rfl rfl 25 _ HB.out size25 rfl (by simp[aBz]) ?_)
  exact bodyPost_ret (cU (u1:=7) (u2:=8) (u3:=9) rfl _ _ (w.heap.size+1) 25 #[aA aB 0,aA aB 0,aE aD 0 0,aE aD 0 0] (0,0) _ rfl HB2.out underlying25 rfl size25) rfl (gG HR.out HX2.out)
 ·have hq2:¬ q < (n:Int):=by omega
  have hq3:(n:Int)<=q:=by omega
  clear a0 a1 a3;have HB:=hid (HZ0.out w2 hx2);have HX2:=hid ((HX0.out.tr hx2).sr (b:=w.heap.size+1) (by omega) #[aA aB 0,aA aB 0,aE aD 0 0,aE aD 0 0]);have HB2:=hid (setRow_heap w2 (w.heap.size+1) _ #[aA aB 0,aA aB 0,aE aD 0 0,aE aD 0 0] _ _ HB.out)
  go_wp2_with (refine wpList_store_row rfl 25 _ _ rfl (w.heap.size+1) #[aA aB 0,aA aB 0,aE aD 0 0,aE aD 0 0] rfl rfl 25 _ HB.out size25 rfl (by simp[aBz]) ?_)
  exact bodyPost_ret (cU (u1:=7) (u2:=8) (u3:=9) rfl _ _ (w.heap.size+1) 25 #[aA aB 0,aA aB 0,aE aD 0 0,aE aD 0 0] (0,0) _ rfl HB2.out underlying25 rfl size25) rfl (gG HR.out HX2.out)
theorem Pz (w:World) (tv bv rv:Value) (s:aV) (q:Int) (f:List Run) (hl:aX w tv s.aN) (hb:bD w bv s.aK) (hr:bC w rv f) (h0:aZ s=0) (h1:0<=q/\q < s.aN.length) (h2:¬ fK f) :
  Calls prog 41 #[.agg #[aA aB s.aL,aA aB s.aM,tv,bv],aA aB q,rv] w (gV w (dK s q f)):=by
 have F:=hid (fun(W:World) (h:Ext w W)=>eQ W tv bv s (hl.mono h) (hb.mono h));have CF:=hid (fun(W:World) (h:Ext w W)=>yX W rv f (hr.mono h));obtain⟨wb,hwb,HX,HSS,HZZ,hszb⟩:=eD w s tv bv;have HX0:=hid HX;have HS0:=hid HSS;have HZ0:=hid HZZ;have HWB:=hid hwb;have HSB:=hid hszb;clear HX HSS HZZ hwb hszb;have HR:=hid (yF h0 h1 h2);rw[h0] at F;rw[deF h2] at CF;clear h2;obtain⟨qa,qc,rfl,_,_,_⟩:=hl.form;obtain⟨ba,bc,rfl,_,_,_⟩:=hb.form;obtain⟨fa,fc,rfl,_,_,_⟩:=hr.form;clear hl hb hr h0;generalize dK s q f=cr at *;generalize s.aN.length=n at *;generalize s.aK.length=z at *;generalize f.length=fl at *;go_enter func41,ntmps41
 go_wp2_with fail
 rw[HWB.out];refine(F.out _ HX0.out).mono ?_;rintro e w2 ⟨rfl,hx2⟩;obtain⟨a0,a1,a2,a3⟩:=HS0.out w2 hx2;obtain⟨hq1,hq2⟩:=h1;have hq3:¬ q < 0:=by omega
 have hq4:¬ (n:Int)<=q:=by omega
 have HXB2:=hid hx2
 go_wp2_with fail
 refine(CF.out _ (HX0.out.tr hx2)).mono ?_;rintro e w3 ⟨rfl,hx3⟩;clear a0 a1 a2 a3;have HB:=hid (HZ0.out w3 (HXB2.out.tr hx3));have HX2:=hid ((HX0.out.tr (HXB2.out.tr hx3)).sr (b:=w.heap.size+1) (by omega) #[aA aB 0,aA aB 0,aE aD 0 0,aE aD 0 0]);have HB2:=hid (setRow_heap w3 (w.heap.size+1) _ #[aA aB 0,aA aB 0,aE aD 0 0,aE aD 0 0] _ _ HB.out)
 go_wp2_with (refine wpList_store_row rfl 25 _ _ rfl (w.heap.size+1) #[aA aB 0,aA aB 0,aE aD 0 0,aE aD 0 0] rfl rfl 25 _ HB.out size25 rfl (by simp[aBz]) ?_)
 exact bodyPost_ret (cU (u1:=7) (u2:=8) (u3:=9) rfl _ _ (w.heap.size+1) 25 #[aA aB 0,aA aB 0,aE aD 0 0,aE aD 0 0] (0,0) _ rfl HB2.out underlying25 rfl size25) rfl (gG HR.out HX2.out)
theorem cP.capLe {ex:List Nat} {B g z cap:Nat} {W:World} {u:Value} {l:List Queue} {b:List aT} (h:cP ex B W u (aE (aC ⟨g,0,aD⟩) z cap) l b) (hz:b.length=z):z<=cap:=by
 obtain⟨_,_,_,_,_,_,_,_,_,_,_,_,⟨css,o1,_⟩,_⟩:=h;rw[hz] at o1;rcases o1.2 with ⟨hv,_⟩ | ⟨g',cap',cur,hv,hb,hcur,hnc,_⟩
 ·cases hv
 ·cases hv;exact hnc
theorem cP.qcell {ex:List Nat} {B g qc k:Nat} {W:World} {v:Value} {l:List Queue} {b:List aT} (h:cP ex B W (aE (aC ⟨g,0,aD⟩) l.length qc) v l b) (hk:k < l.length):(∃ old,W.cell? ⟨g,k*3+2,aD⟩=aC old)/\W.frozen? ⟨g,k*3+2,aD⟩=false:=by
 obtain⟨g',qc',e,_,_,_,_,_,_,_,_,_,_,_,hq⟩:=h;cases e;obtain⟨x,hx⟩:=bT hk;obtain⟨cv,h1,h2,_⟩:=hq.cell hx;exact⟨⟨cv,h1⟩,h2⟩
theorem yC {s:aV} (h:s.aK=[]) (k:Nat) (f:List Run):lZ s k f=([],[],[]):=by
 have e:jI s k f=([],[]):=by unfold jI Nu;rw[h];rfl
 unfold lZ;rw[e];rfl
structure nU (l:List Queue) (c nx:Int) (A:List aT) (N:Nat) (R:List aT × List Int × List Int) (j:Nat) (b:List aT) (m d:List Int):Prop where
 go:iO l c (A.drop j) b m d=R
 right:aZ ⟨c,nx,l,b⟩=0
 diff:(b++A.drop j).Pairwise (fun x y=>x.Id≠y.Id)
 len:b.length+(A.drop j).length<=N
theorem Md {α:Type} {A:List α} {j:Nat} {x:α} (h:A[j]?=aC x):A.drop j=x::A.drop (j+1):=by
 obtain⟨hl,e⟩:=aBD.1 h;rw[<- e];exact List.drop_eq_getElem_cons hl
theorem nU.cons {l:List Queue} {c nx:Int} {A:List aT} {N j:Nat} {R:List aT × List Int × List Int} {b:List aT} {m d:List Int} {x:aT} (h:nU l c nx A N R j b m d) (hx:A[j]?=aC x):(∀ y∈b,y.Id≠x.Id)/\(b++A.drop (j+1)).Pairwise (fun x y=>x.Id≠y.Id)/\(∀ y∈b++A.drop (j+1),x.Id≠y.Id)/\b.length+(A.drop (j+1)).length+1<=N:=by
 have h1:=h.diff;have h2:=h.len;rw[Md hx] at h1 h2;have h3:(x::(b++A.drop (j+1))).Pairwise (fun x y:aT=>x.Id≠y.Id):=(aDl.pairwise_iff (fun h e=>h e.symm) List.perm_middle).1 h1;obtain⟨h4,h5⟩:=aDq.1 h3;exact⟨fun y hy e=>h4 y (aD1 _ hy) e.symm,h5,h4,by rw[aBB] at h2;omega⟩
theorem nU.gone {l:List Queue} {c nx:Int} {A:List aT} {N j:Nat} {R:List aT × List Int × List Int} {b:List aT} {m d:List Int} {x:aT} (h:nU l c nx A N R j b m d) (hx:A[j]?=aC x) (hg:iM l c b x=true):nU l c nx A N R (j+1) b m (d++[x.Id]):=by
 have h1:=h.go;have h2:=h.len;rw[Md hx,Fw hg] at h1;obtain⟨p1,p2,p3,p4⟩:=h.cons hx;exact⟨h1,h.right,p2,by omega⟩
theorem nU.put {l:List Queue} {c nx:Int} {A:List aT} {N j:Nat} {R:List aT × List Int × List Int} {b:List aT} {m d:List Int} {x:aT} (h:nU l c nx A N R j b m d) (hx:A[j]?=aC x) (hg:iM l c b x=false) (hbk:cB l x) (hi:0<=x.Id/\x.Id < nx) (hN:N<=12):nU l c nx A N R (j+1) (gJ l c b x) (m++[x.Id]) d:=by
 have h1:=h.go;rw[Md hx,Fx hg] at h1;obtain⟨p1,p2,p3,p4⟩:=h.cons hx;have hperm:(gJ l c b x).Perm (⟨x.Id,x.aP,cN l c b x⟩::b):=lC _ _;have hl:=hperm.length_eq;rw[aBB] at hl;refine⟨h1,(rS h.right hbk hi p1 (by omega) hg).1,?_,by omega⟩;exact(aDl.pairwise_iff (fun h e=>h e.symm) (aDl.append_right _ hperm)).2 (aDq.2 ⟨p3,p2⟩)
theorem tW {l:List Queue} {c:Int} {b:List aT} {x:aT}:(gJ l c b x).length=b.length+1:=(lC _ _).length_eq
theorem yH {f:List Run} (h:fK f):f≠[]:=fun e=>by have:=h.1.1;rw[e] at this;exact this
theorem Ke {f:List Run} (h:fK f):f.length<=48:=jF h.1.1
theorem Py (w:World) (tv bv rv:Value) (s:aV) (k:Nat) (f:List Run) (hl:aX w tv s.aN) (hb:bD w bv s.aK) (hr:bC w rv f) (h0:aZ s=0) (h1:k < s.aN.length) (h2:fK f) :
  Calls prog 41 #[.agg #[aA aB s.aL,aA aB s.aM,tv,bv],aA aB (k:Int),rv] w (gV w (dK s (k:Int) f)):=by
 have F:=hid (fun(W:World) (h:Ext w W)=>eQ W tv bv s (hl.mono h) (hb.mono h));have CF:=hid (fun(W:World) (h:Ext w W)=>yX W rv f (hr.mono h));have CL:=hid (fun(W:World) (h:Ext w W)=>yW W rv f (hr.mono h) (Ke h2));obtain⟨ok,h12,hbok⟩:=iI h0;have OW:=hid (fun(W:World) (h:Ext w W)=>Up W tv bv s (hl.mono h) (hb.mono h) ok h12 hbok);obtain⟨wb,hwb,HX,HSS,HZZ,hszb⟩:=eD w s tv bv;have HX0:=hid HX;have HS0:=hid HSS;have HZ0:=hid HZZ;have HWB:=hid hwb;have HSB:=hid hszb;clear HX HSS HZZ hwb hszb;have HR:=hid (Fm h0 h1 h2);have H0:=hid h0;have H2:=hid h2;have HK:=hid h1;have HOK:=hid hbok;rw[h0] at F;rw[deT h2] at CF;obtain⟨qa,qc0,rfl,_,_,_⟩:=hl.form;obtain⟨ba,bc,rfl,_,_,_⟩:=hb.form;obtain⟨fa,fc,rfl,_,_,_⟩:=hr.form;have hq3:¬ (k:Int) < 0:=by omega
 have hq5:decide ((k:Int) < 0)=false:=deF hq3;have hq4:¬ ((s.aN.length:Nat):Int)<=(k:Int):=by omega
 clear hl hb hr h0 h2;generalize dK s (k:Int) f=cr at *;generalize hqn:s.aN.length=n at *;generalize hbz:s.aK.length=z at *;generalize hfl:f.length=fl at *;have HQN:=hid hqn;have HBZ:=hid hbz;clear hqn hbz hfl;go_enter func41,ntmps41
 go_wp2_with fail
 rw[HWB.out];refine(F.out _ HX0.out).mono ?_;rintro e w2 ⟨rfl,hx2⟩;obtain⟨a0,a1,a2,a3⟩:=HS0.out w2 hx2;have HXB2:=hid hx2
 go_wp2_with fail
 refine(CF.out _ (HX0.out.tr hx2)).mono ?_;rintro e w3 ⟨rfl,hx3⟩;clear a0 a1 a2 a3 hx2;obtain⟨a0,a1,a2,a3⟩:=HS0.out w3 (HXB2.out.tr hx3);have HXB3:=hid (HXB2.out.tr hx3);have HX3:=hid (HX0.out.tr HXB3.out);clear hx3
 go_wp2_with fail
 refine(OW.out _ HX3.out).mono ?_;rintro e w7 ⟨u7,v7,rfl,hO7,hx7⟩;clear a0 a1 a2 a3;obtain⟨gq,qc,rfl,hgB,hgs⟩:=hO7.uform;obtain⟨ra,rc,rfl,hrw⟩:=hO7.vform;rw[HBZ.out] at hO7 hrw ⊢;rw[HQN.out] at hO7 ⊢
 go_wp2_with fail
 obtain⟨W8,hW8⟩:∃ W8,w7.alloc (.cells #[aA aB s.aL,aA aB s.aM,aE (aC ⟨gq,0,aD⟩) n qc,aE ra z rc] 25)=W8:=⟨_,rfl⟩;have hx8:Ext w7 W8:=hW8▸(Ext.rf w7).al _;have hb8:W8.heap[w7.heap.size]?=aC (.cells #[aA aB s.aL,aA aB s.aM,aE (aC ⟨gq,0,aD⟩) n qc,aE ra z rc] 25 (0,0)):=hW8▸heap_alloc_new w7 _;rw[hW8];have hO8:cP [w7.heap.size] wb.heap.size W8 (aE (aC ⟨gq,0,aD⟩) n qc) (aE ra z rc) s.aN s.aK:=((hO7.low (B2:=wb.heap.size) HXB3.out.size (fun r hr=>hr)).box (r:=w7.heap.size) (aBq _)).ext hx8;have HO8:=hid hO8;have HB8:=hid hb8;have HX8:=hid (HX3.out.tr (hx7.tr hx8));have HXB8:=hid (HXB3.out.tr (hx7.tr hx8));have HX78:=hid hx8;have HGQ:=hid (And.intro hgB hgs);have HS3:=hid (And.intro HX3.out.size hx7.size);have HRW:=hid hrw;clear hO8 hb8 hx7 hx8 hO7 hW8 hgB hgs hrw;have CL8:=hid (CL.out W8.drew HX8.out.dr);have e2:W8.cell? ⟨w7.heap.size,2,aD⟩=aC (aE (aC ⟨gq,0,aD⟩) n qc):=cell_of_row _ _ 2 _ _ _ HB8.out;refine dF 7 (fun W=>W.cell? ⟨w7.heap.size,2,aD⟩=aC (aE (aC ⟨gq,0,aD⟩) n qc)) (by kernel_rfl) e2 (fun hHeld=>?_);clear e2;refine tkT 0 ?_;refine tkT 1 ?_;refine tkT 2 ?_;refine tkT 3 ?_;refine dG (i:=4) (by kernel_rfl) rfl (fun K hK=>?_);simp only[zA,zB,zC];go_simp;refine CL8.out.mono ?_;rintro e W9 ⟨cv,rfl,hcv,hfr,hx9⟩
 go_wp2_with fail
 refine hK.out _ _ ?_ (fun hHeld=>?_)
 ·(exact hx9.ce' hHeld)
 clear hK K;refine tkT 5 ?_;refine tkT 6 ?_;have hx89:Ext W8 W9:=(Ext.rf W8).dr.tr hx9;have hO9:=HO8.out.ext hx89;rw[<- HQN.out] at hO9;obtain⟨⟨old,k0⟩,f0⟩:=hO9.qcell (k:=k) (by rw[HQN.out];exact HK.out);have hrb:∀ r,(aE ra z rc).ownBlock=aC r->r < w7.heap.size:=fun r hr=>(HRW.out r hr).2;have hO10:=hO9.setC (k:=k) (by rw[HQN.out];exact HK.out) hcv (yH H2.out) (fun a m c e hm=>by
  have h1:=hfr a m c e;have h2:W8.drew.heap.size=W8.heap.size:=rfl;have h3:=HXB8.out.size;have h4:=(aBy.1 HB8.out).1;have h5:=HGQ.out.2;have h6:=HX78.out.size;simp only[aC8,aBm,aCj,or_false,aDD] at hm;rcases hm with hm | hm | hm | hm
  ·omega
  ·have:=hrb _ hm;omega
  ·omega
  ·have:=kH hm;omega)
 rw[HQN.out] at hO10;have hb10:(W9.setCell ⟨gq,k*3+2,aD⟩ cv).heap[w7.heap.size]?=aC (.cells #[aA aB s.aL,aA aB s.aM,aE (aC ⟨gq,0,aD⟩) n qc,aE ra z rc] 25 (0,0)):=by
  rw[heap_setCell_other W9 ⟨gq,k*3+2,aD⟩ _ _ (by show w7.heap.size≠gq;have:=HGQ.out.2;omega)];exact aW HB8.out hx89
 have hx10:Ext wb (W9.setCell ⟨gq,k*3+2,aD⟩ cv):=(HXB8.out.tr hx89).se (b:=gq) (o:=k*3+2) (by have:=HGQ.out.1;have:=HXB3.out.size;omega) cv;obtain⟨ca,cn,cc,rfl⟩:∃ a n c,cv=aE a n c:=by obtain⟨a,c,e,_⟩:=hcv.form;exact⟨a,_,c,e⟩
 have HO10:=hid hO10;have HB10:=hid hb10;have HX10:=hid hx10;clear hO9 hO10 hb10 hx10 hcv hfr hx9 hHeld hx89 HO8 CL8;refine eM (t:=7) (by kernel_rfl) rfl (by kernel_rfl) (fun K hK=>?_);simp only[zA,zB,zC];go_simp;refine hK.out _ _ ?_;clear hK K;generalize W9.setCell ⟨gq,k*3+2,aD⟩ (aE ca cn cc)=W10 at *;have hXl:wb.heap.size<=w7.heap.size:=by have:=HXB3.out.size;have:=HS3.out.2;omega
 have HOKT:=hid (Dd (q:=k) (eF (cS (cL H0.out).1).1).2.1 H2.out);have hcl:=(cS (cL H0.out).1).2.1;have HCL:=hid (show 0<=s.aL/\s.aL<=48 from ⟨hcl.1,hcl.2.1⟩);rcases aDE z with hz0 | hz0
 ·have hbn:s.aK=[]:=aBC (by rw[HBZ.out];exact hz0);have hO:=HO10.out;rw[hbn] at hO;have RN:=hid (Lk wb W10 w7.heap.size _ _ s.aL s.aM _ HB10.out hO HOKT.out HCL.out);clear hO
  go_wp2_with (go_at_call 84;refine RN.out.mono ?_;rintro e W11 ⟨rfl,hx11⟩)
  refine wp_loop_rounds 1 ?_;rw[rounds_succ];have HB11:=hid (aW HB10.out hx11);have HX11:=hid (HX10.out.tr hx11);have HO11:=hid (HO10.out.ext hx11);have HZ:=hid (HZ0.out _ (HX10.out.tr hx11));clear hx11;have e0:W11.cell? ⟨w7.heap.size,0,aD⟩=aC (aA aB s.aL):=cell_of_row _ _ 0 _ _ _ HB11.out;have e1:W11.cell? ⟨w7.heap.size,1,aD⟩=aC (aA aB s.aM):=cell_of_row _ _ 1 _ _ _ HB11.out;have e2:W11.cell? ⟨w7.heap.size,2,aD⟩=aC (aE (aC ⟨gq,0,aD⟩) n qc):=cell_of_row _ _ 2 _ _ _ HB11.out;have e3:W11.cell? ⟨w7.heap.size,3,aD⟩=aC (aE ra z rc):=cell_of_row _ _ 3 _ _ _ HB11.out;have HEND:=hid (show StS w.heap.size (W11.setRow (w.heap.size+1) #[aA aB s.aL,aA aB s.aM,aE (aC ⟨gq,0,aD⟩) n qc,aE ra z rc]) (aE (aC ⟨gq,0,aD⟩) n qc) (aE ra z rc) (pY s k f) from .inl (by
   have h:=(((HO11.out.under (r:=w.heap.size+1) (by have:=HSB.out;omega)).kept (bS W11 (w.heap.size+1) #[aA aB s.aL,aA aB s.aM,aE (aC ⟨gq,0,aD⟩) n qc,aE ra z rc]) (aCw ..)).low (ex2:=[]) (B2:=w.heap.size) HX0.out.size (fun r hr=>by cases hr));have e:(pY s k f).aK=s.aK:=by show (lZ s k f).1=s.aK;rw[yC hbn,hbn]
   rw[e];exact h))
  have HX12:=hid ((HX0.out.tr HX11.out).sr (b:=w.heap.size+1) (by omega) #[aA aB s.aL,aA aB s.aM,aE (aC ⟨gq,0,aD⟩) n qc,aE ra z rc]);have HR12:=hid (setRow_heap W11 (w.heap.size+1) _ #[aA aB s.aL,aA aB s.aM,aE (aC ⟨gq,0,aD⟩) n qc,aE ra z rc] _ _ HZ.out);have HRR:=hid (show cr=(pY s k f,[],[],0) from by rw[HR.out,yC hbn]);clear hbn;generalize hzz:z=z' at *;clear hzz hz0
  go_wp2_with (refine wpList_store_row rfl 25 _ _ rfl (w.heap.size+1) #[aA aB s.aL,aA aB s.aM,aE (aC ⟨gq,0,aD⟩) n qc,aE ra z' rc] rfl rfl 25 _ HZ.out size25 rfl (by simp[aBz]) ?_)
  exact bodyPost_ret (cU (u1:=7) (u2:=8) (u3:=9) rfl _ _ (w.heap.size+1) 25 #[aA aB s.aL,aA aB s.aM,aE (aC ⟨gq,0,aD⟩) n qc,aE ra z' rc] (0,0) _ rfl HR12.out underlying25 rfl size25) rfl (lK (s:=pY s k f) HRR.out HEND.out SV.nil SV.nil HX12.out)
 ·obtain⟨gb,rc',e,_,_⟩:=HO10.out.vsome (by rw[HBZ.out];exact hz0);rw[HBZ.out] at e;cases e;have hln:(eC s.aN k f).length=n:=by rw[jN,HQN.out]
  obtain⟨L,hL⟩:∃ L,eC s.aN k f=L:=⟨_,rfl⟩;have hA0:dR wb w7.heap.size gq qc gb rc s.aL s.aM (eC s.aN k f) s.aK [] (aE aD 0 0) W10:=
   ⟨by rw[hln,HBZ.out];exact HB10.out,by rw[hln,HBZ.out];exact HO10.out,⟨[],aBV _ _ _ _,⟨rfl,fun k cs x h=>(by simp at h)⟩,fun cs h=>(by cases h),fun g h=>(by cases h)⟩,by simp[aCZ],fun x h=>(by cases h),HX10.out,hXl⟩
  obtain⟨hf0,_⟩:=cL H0.out;obtain⟨_,_,hids,_⟩:=cS hf0;have RS:=hid (Lj wb W10 w7.heap.size gq qc gb rc s.aL s.aM _ s.aK hA0 (by rw[HBZ.out];exact HO10.out.capLe HBZ.out) HOKT.out (fun x hx=>oV.2 (HOK.out x hx)) (by rw[HBZ.out];exact h12) HCL.out (Ex (tK.1 hids).2));obtain⟨hA1,hA2,hA3⟩:=Mi (q:=k) H0.out H2.out;have HL0:=hid (show nU L s.aL s.aM (iD (jI s k f).2) s.aK.length (lZ s k f) 0 (jI s k f).1 [] [] from by
   rw[<- hL];exact⟨rfl,zR H0.out H2.out,hA2,by rw[aCO,hA3];exact aBq _⟩)
  have HAB:=hid (show ∀ x∈iD (jI s k f).2,cB L x/\0<=x.Id/\x.Id < s.aM from by rw[<- hL];exact hA1);clear hA0 hf0 hids hA1 hA2 hA3
  go_wp2_with fail
  refine RS.out.mono ?_;rintro e W11 ⟨va,gb2,cap2,rfl,hA,hcap2⟩;obtain⟨A,hAe⟩:∃ A,iD (jI s k f).2=A:=⟨_,rfl⟩;obtain⟨b1,hb1⟩:∃ b1,(jI s k f).1=b1:=⟨_,rfl⟩;obtain⟨R,hRe⟩:∃ R,lZ s k f=R:=⟨_,rfl⟩;have hA':dR wb w7.heap.size gq qc gb2 cap2 s.aL s.aM L b1 A va W11:=by rw[<- hL,<- hAe,<- hb1];exact hA
  rw[hAe,hb1,hRe] at HL0;rw[hAe] at HAB;have hLn:L.length=n:=by rw[<- hL];exact hln
  have hci:dJ wb w7.heap.size gq qc gb2 cap2 s.aL s.aM L A va b1 [] [] (aE aD 0 0) (aE aD 0 0) W11:=
   ⟨hA'.box,hA'.own,hA'.away,hA'.live,aBV _ _ _ _,aBV _ _ _ _,fun r h=>(by cases h),fun r h=>(by cases h),hA'.apart,hA'.ext,hA'.low⟩
  obtain⟨aa,ac,hva⟩:∃ a c,va=aE a A.length c:=by
   obtain⟨css,o1,_⟩:=hA'.away;rcases o1.2 with ⟨h,h0⟩ | ⟨g,cp,cur,h,_⟩
   ·exact⟨aD,0,by rw[h,h0]⟩
   ·exact⟨_,_,h⟩
  subst hva;have hN12:s.aK.length<=12:=by rw[HBZ.out];exact h12
  have hNc:s.aK.length<=cap2:=hcap2;have hnx:=(cS (cL H0.out).1).2.1;have HNX:=hid (show 0<=s.aM/\s.aM<=1048576 from ⟨hnx.2.2.1,hnx.2.2.2⟩);have HREQ:=hid (And.intro hL (And.intro hAe (And.intro hb1 hRe)));have HCI:=hid hci;have HLN:=hid hLn;have hAl:A.length<=12:=by have:=HL0.out.len;rw[aCO] at this;omega
  clear hA hA' hci hL hAe hb1 hRe hcap2 hLn hln hcl hnx;generalize s.aK.length=N at *;generalize hal:A.length=al at *;have HAL:=hid hal;clear hal;obtain⟨ii,ii1,ii2,ii3,ii4⟩:=info_parts info3
  go_wp2_with fail
  go_loopw [12,13,47] (fun vm vd i wr=>∃ (j:Nat) (b:List aT) (m d:List Int),i=aA aB j/\j<=al/\Hid (dJ wb w7.heap.size gq qc gb2 cap2 s.aL s.aM L A (aE aa al ac) b m d vm vd wr)/\Hid (nU L s.aL s.aM A N R j b m d)/\Hid (m.length+d.length=j)) (fun _ _ i _=>al - (intOf i).toNat)
  case atStart=>exact⟨0,b1,[],[],rfl,Nat.zero_le _,HCI,HL0,hid rfl⟩
  case round=>
   obtain⟨j,b,m,d,rfl,hj,HC,HLA,HMD⟩:=hrel;by_cases hlt:j < al
   ·obtain⟨x,hx⟩:=bT (f:=A) (k:=j) (by rw[HAL.out];exact hlt);obtain⟨ga,ca',pv,bv,e,⟨c0,c1,c2,c3,c4,c5,c6⟩,hbc,hap⟩:=HC.out.take hx;cases e;obtain⟨hbkx,hidx⟩:=HAB.out x (aBJ hx);obtain⟨hdx,_,_,hlx⟩:=HLA.out.cons hx;obtain⟨pa,pc,hpf,_⟩:=(dY hbc).1.form;obtain⟨ba',bc',hbf,_⟩:=(dY hbc).2.1.form;subst hpf hbf;have hxq:=(Ext.rf wr).al (.cells #[aA aB x.Id,aA aB x.aP.aG,aA aB x.aP.aI,aA aB x.aP.aH,aA aB x.aP.aJ,aE pa x.aP.aF.length pc,aE ba' x.aO.length bc'] 40);have hbq:=aC5 wr (.cells #[aA aB x.Id,aA aB x.aP.aG,aA aB x.aP.aI,aA aB x.aP.aH,aA aB x.aP.aJ,aE pa x.aP.aF.length pc,aE ba' x.aO.length bc'] 40);obtain⟨wq,hwq⟩:∃ wq,wr.alloc (.cells #[aA aB x.Id,aA aB x.aP.aG,aA aB x.aP.aI,aA aB x.aP.aH,aA aB x.aP.aJ,aE pa x.aP.aF.length pc,aE ba' x.aO.length bc'] 40)=wq:=⟨_,rfl⟩;rw[hwq] at hxq hbq;have hCq:=HC.out.later hxq;obtain⟨⟨_,_,_,_,_,_⟩,_⟩:=hCq.ne;have hXq:=(aBy.1 hCq.box).1;have BK:=hid (Zo wb wq w7.heap.size gq qc gb2 cap2 b.length s.aL s.aM L b _ x _ _ ⟨hCq.box,hCq.own,rfl,by simp,fun r hr=>by
      simp only[aBm,aCB,aDD] at hr;rcases hr with hr | hr | hr | hr
      ·exact(hCq.mrow.lt r hr).2
      ·exact(hCq.drow.lt r hr).2
      ·obtain⟨css,o1,_⟩:=hCq.away;exact(o1.lt r hr).2
      ·rw[hr];exact hXq,HLA.out.right,hbkx,hidx,hdx,⟨by omega,by omega⟩,hbc.mono hxq,fun s hs a n c e=>by
      obtain⟨p1,p2⟩:=hap s hs a n c e;exact⟨aBA p1 hxq.size,p2⟩,hCq.ext.size⟩)
    have HCQ:=hid hCq;have HX:=hid hx;have HWQ:=hid hwq;have HBQ:=hid hbq;have HBKX:=hid hbkx;have HIDX:=hid hidx;clear hbc hap hbkx hidx hdx hxq hbq hwq hCq hXq hx;generalize x.aP.aF.length=pn at *;generalize x.aO.length=bn at *
    go_wp2_with fail
    rw[HWQ.out];refine BK.out.mono ?_;rintro e W2 (⟨hg,rfl,hx2⟩ | ⟨hg,rfl,hbx,hox,W1,W1',hx1,hg1,hw2⟩)
    ·have HC2:=hid (HCQ.out.later hx2);have HLA2:=hid (HLA.out.gone HX.out hg);have e0:W2.cell? ⟨wr.heap.size,0,aD⟩=aC (aA aB x.Id):=(dX (aW HBQ.out hx2)).1;have HO1:=hid (HC2.out.drow.alloc (.cells #[aA aB x.Id] 3));have HN1:=hid (Ci W2 rfl (aA aB x.Id) 3);have HSZ:=hid (show wb.heap.size<=(W2.alloc (.cells #[aA aB x.Id] 3)).heap.size from (HC2.out.ext.al _).size);have hmd:=HMD.out;clear hg hx2 BK hmd;have hdl:d.length<=12:=by have:=HMD.out;omega
     go_wp2_with (at_builtin;refine wpList_append_lies _ rfl _ _ 67 rfl wb.heap.size 3 ii _ 1 8 underlying67 ii1 ii2 ii3 ii4 rfl (by decide) u13 d.length (d.map fun n=>aA .i64 n) rfl HO1.out ⟨W2.heap.size,0,aD⟩ 1 1 [aA aB x.Id] rfl rfl HN1.out (by simp[aBz]) (by omega) (by unfold maxLen;omega) (by omega) HSZ.out (W2.heap.size+1) (by simp) ?_;intro g2 cp2 W3 hown hgrow hlie hlt3)
     have hrel2:=(HC2.out.swap.push hown hgrow hlie).swap;go_roundw
     case rel=>
      have e:(d++[x.Id]).length=d.length+1:=by simp
      rw[e] at hrel2;exact⟨j+1,b,m,d++[x.Id],by go_num,by omega,hid hrel2,HLA2,hid (by rw[e];have:=HMD.out;omega)⟩
     case measure=>simp[intOf];omega
    ·subst hw2;have HC2:=hid (HCQ.out.back (b2:=gJ L s.aL b x) hx1 hg1 _ (by rw[tW];exact hbx) (by rw[tW];exact hox));have HLA2:=hid (HLA.out.put HX.out hg HBKX.out HIDX.out hN12);obtain⟨⟨_,_,_,_,n5,_⟩,_⟩:=HC.out.ne;have hXr:=(aBy.1 HC.out.box).1;have hbq1:=aW HBQ.out hx1;have hbq2:=(hg1.block wr.heap.size (aBy.1 hbq1).1 (fun e=>by have:=Option.some.inj e;omega)).trans hbq1;have e0:(W1'.setCell ⟨w7.heap.size,3,aD⟩ (aE (aC ⟨gb2,0,aD⟩) (b.length+1) cap2)).cell? ⟨wr.heap.size,0,aD⟩=aC (aA aB x.Id):=(dX (by rw[heap_setCell_other W1' ⟨w7.heap.size,3,aD⟩ _ _ (by show wr.heap.size≠w7.heap.size;omega)];exact hbq2)).1;clear hbq1 hbq2 hXr n5 hx1 hg1 hbx hox;generalize hW2:W1'.setCell ⟨w7.heap.size,3,aD⟩ (aE (aC ⟨gb2,0,aD⟩) (b.length+1) cap2)=W2 at *;clear hW2;have HO1:=hid (HC2.out.mrow.alloc (.cells #[aA aB x.Id] 3));have HN1:=hid (Ci W2 rfl (aA aB x.Id) 3);have HSZ:=hid (show wb.heap.size<=(W2.alloc (.cells #[aA aB x.Id] 3)).heap.size from (HC2.out.ext.al _).size);clear hg BK;have hdl:m.length<=12:=by have:=HMD.out;omega
     go_wp2_with (at_builtin;refine wpList_append_lies _ rfl _ _ 67 rfl wb.heap.size 3 ii _ 1 8 underlying67 ii1 ii2 ii3 ii4 rfl (by decide) u12 m.length (m.map fun n=>aA .i64 n) rfl HO1.out ⟨W2.heap.size,0,aD⟩ 1 1 [aA aB x.Id] rfl rfl HN1.out (by simp[aBz]) (by omega) (by unfold maxLen;omega) (by omega) HSZ.out (W2.heap.size+1) (by simp) ?_;intro g2 cp2 W3 hown hgrow hlie hlt3)
     have hrel2:=HC2.out.push hown hgrow hlie;go_roundw
     case rel=>
      have e:(m++[x.Id]).length=m.length+1:=by simp
      rw[e] at hrel2;exact⟨j+1,_,m++[x.Id],d,by go_num,by omega,hid hrel2,HLA2,hid (by rw[e];have:=HMD.out;omega)⟩
     case measure=>simp[intOf];omega
   ·obtain rfl:j=al:=by omega
    have hgo:=HLA.out.go;rw[List.drop_of_length_le (by rw[HAL.out];exact aBq _)] at hgo;obtain⟨hL,hAe,hb1,hRe⟩:=HREQ.out;have hEe:lZ s k f=(b,m,d):=hRe.trans hgo.symm;have HB11:=hid (HLN.out▸HC.out.box);have e0:wr.cell? ⟨w7.heap.size,0,aD⟩=aC (aA aB s.aL):=cell_of_row _ _ 0 _ _ _ HB11.out;have e1:wr.cell? ⟨w7.heap.size,1,aD⟩=aC (aA aB s.aM):=cell_of_row _ _ 1 _ _ _ HB11.out;have e2:wr.cell? ⟨w7.heap.size,2,aD⟩=aC (aE (aC ⟨gq,0,aD⟩) n qc):=cell_of_row _ _ 2 _ _ _ HB11.out;have e3:wr.cell? ⟨w7.heap.size,3,aD⟩=aC (aE (aC ⟨gb2,0,aD⟩) b.length cap2):=cell_of_row _ _ 3 _ _ _ HB11.out;have HZ:=hid (HZ0.out _ HC.out.ext);have HO11:=hid (HC.out.own);have EI:=hid (Zh (q:=k) H0.out H2.out);have hids:∀ y∈m++d,I64 y:=fun y hy=>by
     have hp:=EI.out.perm;rw[hEe] at hp;obtain⟨z',hz',rfl⟩:=List.mem_map.1 (hp.subset hy);obtain⟨_,q1,q2⟩:=HAB.out z' (by rw[<- hAe];exact(iU _).symm.subset hz');have:=HNX.out;unfold I64;omega
    have HEND:=hid (show StS w.heap.size (wr.setRow (w.heap.size+1) #[aA aB s.aL,aA aB s.aM,aE (aC ⟨gq,0,aD⟩) n qc,aE (aC ⟨gb2,0,aD⟩) b.length cap2]) (aE (aC ⟨gq,0,aD⟩) n qc) (aE (aC ⟨gb2,0,aD⟩) b.length cap2) (pY s k f) from .inl (by
     have h:=(((HO11.out.under (r:=w.heap.size+1) (by have:=HSB.out;omega)).kept (bS wr (w.heap.size+1) #[aA aB s.aL,aA aB s.aM,aE (aC ⟨gq,0,aD⟩) n qc,aE (aC ⟨gb2,0,aD⟩) b.length cap2]) (aCw ..)).low (ex2:=[]) (B2:=w.heap.size) HX0.out.size (fun r hr=>by cases hr));have e:(pY s k f).aK=b:=by show (lZ s k f).1=b;rw[hEe]
     have e':(pY s k f).aN=L:=hL;rw[e,e'];rw[HLN.out] at h;exact h))
    have HX12:=hid ((HX0.out.tr HC.out.ext).sr (b:=w.heap.size+1) (by omega) #[aA aB s.aL,aA aB s.aM,aE (aC ⟨gq,0,aD⟩) n qc,aE (aC ⟨gb2,0,aD⟩) b.length cap2]);have HR12:=hid (setRow_heap wr (w.heap.size+1) _ #[aA aB s.aL,aA aB s.aM,aE (aC ⟨gq,0,aD⟩) n qc,aE (aC ⟨gb2,0,aD⟩) b.length cap2] _ _ HZ.out);have HRR:=hid (show cr=(pY s k f,m,d,0) from by rw[HR.out,hEe]);have hsz:=HSB.out;have HIM:=hid (mU (cY HC.out.mrow (bS wr (w.heap.size+1) #[aA aB s.aL,aA aB s.aM,aE (aC ⟨gq,0,aD⟩) n qc,aE (aC ⟨gb2,0,aD⟩) b.length cap2]) (fun r hr e=>by have:=(HC.out.mrow.lt r hr).1;have:=Option.some.inj e;omega)) (fun y hy=>hids y (aD1 _ hy)) (by have:=HMD.out;omega));have HID:=hid (mU (cY HC.out.drow (bS wr (w.heap.size+1) #[aA aB s.aL,aA aB s.aM,aE (aC ⟨gq,0,aD⟩) n qc,aE (aC ⟨gb2,0,aD⟩) b.length cap2]) (fun r hr e=>by have:=(HC.out.drow.lt r hr).1;have:=Option.some.inj e;omega)) (fun y hy=>hids y (aD2 _ hy)) (by have:=HMD.out;omega));clear hgo hL hAe hb1 hRe hEe hids hsz
    go_wp2_with (refine wpList_store_row rfl 25 _ _ rfl (w.heap.size+1) #[aA aB s.aL,aA aB s.aM,aE (aC ⟨gq,0,aD⟩) n qc,aE (aC ⟨gb2,0,aD⟩) b.length cap2] rfl rfl 25 _ HZ.out size25 rfl (by simp[aBz]) ?_)
    exact bodyPost_ret (cU (u1:=7) (u2:=8) (u3:=9) rfl _ _ (w.heap.size+1) 25 #[aA aB s.aL,aA aB s.aM,aE (aC ⟨gq,0,aD⟩) n qc,aE (aC ⟨gb2,0,aD⟩) b.length cap2] (0,0) _ rfl HR12.out underlying25 rfl size25) rfl (lK (s:=pY s k f) HRR.out HEND.out HIM.out HID.out HX12.out)
theorem Tm (w:World) (tv bv rv:Value) (s:aV) (q:Int) (f:List Run) (hl:aX w tv s.aN) (hb:bD w bv s.aK) (hr:bC w rv f) (hq:I64 q) :
  Calls prog 41 #[.agg #[aA aB s.aL,aA aB s.aM,tv,bv],aA aB q,rv] w (gV w (dK s q f)):=by
 by_cases h0:aZ s=0
 ·by_cases h1:0<=q/\q < s.aN.length
  ·obtain⟨k,rfl⟩:∃ k:Nat,q=k:=⟨q.toNat,by omega⟩;by_cases h2:fK f
   ·exact Py w tv bv rv s k f hl hb hr h0 (by omega) h2
   ·exact Pz w tv bv rv s k f hl hb hr h0 h1 h2
  ·exact Xp w tv bv rv s q f hl hb hr h0 h1
 ·exact Tl w tv bv rv s q f hl hb hr h0
theorem aAd {p:Nat->Bool} {z k:Nat} (hk:k < z) (h:p k=true) (hn:∀ i:Nat,k < i->i < z->p i=false):mB p z=k:=by
 rw[qK (m:=k+1) (by omega) (fun j h1 h2=>hn j (by omega) h2)];simp only[mB];rw[if_pos h]
theorem Xr {p:Nat->Bool} {z:Nat} (hn:∀ i:Nat,0 < i->i < z->p i=false):mB p z=0:=by
 rcases aDE z with rfl | h
 ·rfl
 ·rw[qK (m:=1) (by omega) (fun j h1 h2=>hn j (by omega) h2)];simp only[mB];split <;> rfl
theorem Gy (w:World) (c nx:Int) (u v:Value) (l:List Queue) (b:List aT) (t q:Nat) (hl:aX w u l) (hb:bD w v b) (ok:fB l) (hok:∀ x∈b,cB l x) (h12:b.length<=12) :
  Calls prog 98 #[.agg #[aA aB c,aA aB nx,u,v],aA aB (t:Int),aA aB (q:Int)] w fun e w'=>e=.returned (aA aB (oJ l b t q:Int))/\Ext w w':=by
 have BN:=hid (fun(W:World) (h:Ext w W) (x:aT) (hx:x∈b)=>Bt W u l x.aP.aG (q:Int) (hl.mono h) ok.pars ok.n5 (hok x hx).q0 (hok x hx).q1);have TK:=hid (fun(W:World) (pv biv:Value) (x:aT) (hx:x∈b) (h1:aU W pv x.aP.aF) (h2:bJ W biv x.aO)=>It W pv biv x t h1 h2 (hok x hx).req (fun k hk=>((hok x hx).bites k hk).1) (hok x hx).many.2);obtain⟨ba,bc,rfl,hbc,hbc9,hbl,hbE⟩:=jD hb;obtain⟨qa,qc,rfl,_,_,_⟩:=hl.form;have HBE:=hid hbE;have HIT:=hid (fun(k:Nat) (x:aT) (h:b[k]?=aC x)=>uP (l:=l) (t:=t) (q:=q) h);have VH:=hid (fun(k:Nat) (hk:k < b.length)=>aAd (p:=Ey l b t q) hk);have VN:=hid (Xr (p:=Ey l b t q) (z:=b.length));have hvk:oJ l b t q=mB (Ey l b t q) b.length:=rfl;rw[hvk];clear hl hb hbE hok hvk;generalize l.length=n at *;generalize hzz:b.length=z at *;have Hz:=hid hzz;generalize Ey l b t q=hk at *;obtain⟨w1,hw1⟩:∃ w1,w.alloc (.cells #[aA aB c,aA aB nx,aE qa n qc,aE ba z bc] 25)=w1:=⟨_,rfl⟩;have hX:w1.heap[w.heap.size]?=aC (.cells #[aA aB c,aA aB nx,aE qa n qc,aE ba z bc] 25 (0,0)):=hw1▸aC5 w _;have HX1:=hid (show Ext w w1 from hw1▸(Ext.rf w).al _);have HXB:=hid hX;have HW1:=hid hw1;have e3:=cell_of_row _ _ 3 _ _ _ hX;clear hzz hX hw1;generalize mB hk z=vk at *;have hz12:z<=12:=h12;go_enter func98,ntmps98
 go_wp2_with fail
 rw[HW1.out]
 go_wp2_with fail
 go_loopw [7] (fun c' wr=>∃ (j:Int),c'=aA aB j/\-1<=j/\j < z/\Hid (∀ i:Nat,j < i->i < z->hk i=false)/\Ext w1 wr) (fun c' _=>(intOf c'+1).toNat)
 case atStart=>exact⟨(z:Int) - 1,by go_num,by omega,by omega,hid (fun i h1 h2=>by omega),Ext.rf _⟩
 case round=>
  obtain⟨j,rfl,hj0,hjz,HNO,hx⟩:=hrel;by_cases hlt:0 < j
  ·obtain⟨k,rfl⟩:∃ k:Nat,j=k:=⟨j.toNat,by omega⟩;obtain⟨x,hxk⟩:=bT (f:=b) (k:=k) (by rw[Hz.out];omega);obtain⟨bb,bo,rfl,hbb,hE⟩:=HBE.out (by omega);obtain⟨pv,biv,c0,c1,c2,c3,c4,c5,c6,hp,hbi⟩:=cZ (iR.mono w wr bb _ x (HX1.out.tr hx) (hE k x hxk));have hm:x∈b:=aBJ hxk;have hh:=HIT.out k x hxk;have B1:=hid (fun p:bF wr=>fH p (BN.out p.v (HX1.out.tr (hx.tr p.h)) x hm));have T1:=hid (fun p:bF wr=>fH p (TK.out p.v pv biv x hm (hp.mono p.h) (hbi.mono p.h)));have hkz:(k:Int) < (z:Int):=by omega
   have hk0:(0:Int)<=(k:Int):=by omega
   have hkp:decide (0 < k)=true:=deT (by omega);obtain⟨pa,pc,rfl,_,_,_⟩:=hp.form;obtain⟨bia,bic,rfl,_,_,_⟩:=hbi.form;have hX:=aW HXB.out hx;have a2:=fun p:bF wr=>p.cell (cell_of_row wr w.heap.size 2 _ _ _ hX);have a3:=fun p:bF wr=>p.cell (cell_of_row wr w.heap.size 3 _ _ _ hX);replace c0:=fun p:bF wr=>p.cell c0;replace c1:=fun p:bF wr=>p.cell c1;replace c2:=fun p:bF wr=>p.cell c2;replace c3:=fun p:bF wr=>p.cell c3;replace c4:=fun p:bF wr=>p.cell c4;replace c5:=fun p:bF wr=>p.cell c5;replace c6:=fun p:bF wr=>p.cell c6;clear hp hbi hE hxk hm hX;unfold Ot at hh;generalize under l x.aP.aG (q:Int)=ud at *;obtain⟨d,hd⟩:∃ d,decide (0 < dO x t)=d:=⟨_,rfl⟩;rw[hd] at hh;have HH:=hid hh;generalize dO x t=tk at *;generalize x.aP.aF.length=pn at *;generalize x.aO.length=bn at *;clear hh;cases ud with
   | true=>
    go_wp2_with fail
    refine cJ (by kernel_rfl) (by kernel_rfl) ?_
    repeat (go_big_quiet_step (first | with_reducible exact B1.out _ | with_reducible exact T1.out _))
    refine wpQuiet_nil ?_;rintro w' ⟨p,rfl⟩;have HXP:=hid (hx.tr p.h);clear B1 T1 a2 a3 c0 c1 c2 c3 c4 c5 c6;generalize p.v=wp at *;cases d with
    | true=>
     have HV:=hid (VH.out k (by omega) (by rw[HH.out];rfl) (fun i h1 h2=>HNO.out i (by omega) h2))
     go_wp2_with fail
     go_ret;exact⟨bB (by rw[HV.out]),HX1.out.tr HXP.out⟩
    | false=>
     have hwr:IntKind.i64.wrap ((k:Int) - 1)=(k:Int) - 1:=by rw[IntKind.wrap_i64];omega
     go_wp2_with fail
     go_roundw
     case rel=>
      refine⟨(k:Int) - 1,by go_num,by omega,by omega,hid (fun i h1 h2=>?_),HXP.out⟩;rcases aBK k i with h | h
      ·exact HNO.out i (by omega) h2
      ·obtain rfl:i=k:=by omega
       rw[HH.out];rfl
     case measure=>simp[intOf]
   | false=>
    go_wp2_with fail
    refine cJ (by kernel_rfl) (by kernel_rfl) ?_
    repeat (go_big_quiet_step (first | with_reducible exact B1.out _ | with_reducible exact T1.out _))
    refine wpQuiet_nil ?_;rintro w' ⟨p,rfl⟩;have HXP:=hid (hx.tr p.h);clear B1 T1 a2 a3 c0 c1 c2 c3 c4 c5 c6;generalize p.v=wp at *;have hwr:IntKind.i64.wrap ((k:Int) - 1)=(k:Int) - 1:=by rw[IntKind.wrap_i64];omega
    go_wp2_with fail
    go_roundw
    case rel=>
     refine⟨(k:Int) - 1,by go_num,by omega,by omega,hid (fun i h1 h2=>?_),HXP.out⟩;rcases aBK k i with h | h
     ·exact HNO.out i (by omega) h2
     ·obtain rfl:i=k:=by omega
      rw[HH.out];rfl
    case measure=>simp[intOf]
  ·have HV:=hid (VN.out (fun i h1 h2=>HNO.out i (by omega) h2))
   go_wp2_with fail
   go_ret;exact⟨bB (by rw[HV.out];rfl),HX1.out.tr hx⟩
theorem Ms (w:World) (tv bv rv:Value) (s:aV) (q:Int) (f:List Run) (hl:aX w tv s.aN) (hb:bD w bv s.aK) (hr:bC w rv f) (h0:aZ s≠0) :
  Calls prog 48 #[.agg #[aA aB s.aL,aA aB s.aM,tv,bv],aA aB q,rv] w (gV w (dK s q f)):=by
 have F:=hid (fun(W:World) (h:Ext w W)=>cI W tv bv s (hl.mono h) (hb.mono h));have CF:=hid (fun(W:World) (h:Ext w W)=>nQ W rv f (hr.mono h));obtain⟨wb,hwb,HX,HSS,HZZ,hszb⟩:=eD w s tv bv;have HX0:=hid HX;have HS0:=hid HSS;have HZ0:=hid HZZ;have HWB:=hid hwb;have HSB:=hid hszb;clear HX HSS HZZ hwb hszb;have HR:=hid (Bj (q:=q) (f:=f) h0);have hne:=neT h0;generalize aZ s=se at *;obtain⟨qa,qc,rfl,_,_,_⟩:=hl.form;obtain⟨ba,bc,rfl,_,_,_⟩:=hb.form;obtain⟨fa,fc,rfl,_,_,_⟩:=hr.form;clear hl hb hr h0;generalize dK s q f=cr at *;generalize s.aN.length=n at *;generalize s.aK.length=z at *;generalize f.length=fl at *;go_enter func48,ntmps48
 go_wp2_with fail
 rw[HWB.out];refine(F.out _ HX0.out).mono ?_;rintro e w2 ⟨rfl,hx2⟩;have HB:=hid (HZ0.out w2 hx2);have HX2:=hid ((HX0.out.tr hx2).sr (b:=w.heap.size+1) (by omega) #[aA aB 0,aA aB 0,aE aD 0 0,aE aD 0 0]);have HB2:=hid (setRow_heap w2 (w.heap.size+1) _ #[aA aB 0,aA aB 0,aE aD 0 0,aE aD 0 0] _ _ HB.out)
 go_wp2_with (refine wpList_store_row rfl 25 _ _ rfl (w.heap.size+1) #[aA aB 0,aA aB 0,aE aD 0 0,aE aD 0 0] rfl rfl 25 _ HB.out size25 rfl (by simp[aBz]) ?_)
 exact bodyPost_ret (cU (u1:=7) (u2:=8) (u3:=9) rfl _ _ (w.heap.size+1) 25 #[aA aB 0,aA aB 0,aE aD 0 0,aE aD 0 0] (0,0) _ rfl HB2.out underlying25 rfl size25) rfl (gG HR.out HX2.out)
theorem Qa (w:World) (tv bv rv:Value) (s:aV) (q:Int) (f:List Run) (hl:aX w tv s.aN) (hb:bD w bv s.aK) (hr:bC w rv f) (h0:aZ s=0) (h1:¬ (0<=q/\q < s.aN.length)) :
  Calls prog 48 #[.agg #[aA aB s.aL,aA aB s.aM,tv,bv],aA aB q,rv] w (gV w (dK s q f)):=by
 have F:=hid (fun(W:World) (h:Ext w W)=>cI W tv bv s (hl.mono h) (hb.mono h));have CF:=hid (fun(W:World) (h:Ext w W)=>nQ W rv f (hr.mono h));obtain⟨wb,hwb,HX,HSS,HZZ,hszb⟩:=eD w s tv bv;have HX0:=hid HX;have HS0:=hid HSS;have HZ0:=hid HZZ;have HWB:=hid hwb;have HSB:=hid hszb;clear HX HSS HZZ hwb hszb;have HR:=hid (yE (f:=f) h0 h1);have WI:=hid (fun W=>dU q 0 ((s.aN.length:Int) - 1) W (fun h=>h1 ⟨h.1,by omega⟩));rw[h0] at F;obtain⟨qa,qc,rfl,_,_,_⟩:=hl.form;obtain⟨ba,bc,rfl,_,_,_⟩:=hb.form;obtain⟨fa,fc,rfl,_,_,_⟩:=hr.form;clear hl hb hr h0;generalize dK s q f=cr at *;generalize s.aN.length=n at *;generalize s.aK.length=z at *;generalize f.length=fl at *;go_enter func48,ntmps48
 go_wp2_with fail
 rw[HWB.out];refine(F.out _ HX0.out).mono ?_;rintro e w2 ⟨rfl,hx2⟩;obtain⟨a0,a1,a2,a3⟩:=HS0.out w2 hx2;have HXB2:=hid hx2
 go_wp2_with fail
 refine(WI.out _).mono ?_;rintro e w3 ⟨rfl,hw3⟩;obtain rfl:=hw3.symm;clear a0 a1 a2 a3;have HB:=hid (HZ0.out w2 HXB2.out);have HX2:=hid ((HX0.out.tr HXB2.out).sr (b:=w.heap.size+1) (by omega) #[aA aB 0,aA aB 0,aE aD 0 0,aE aD 0 0]);have HB2:=hid (setRow_heap w2 (w.heap.size+1) _ #[aA aB 0,aA aB 0,aE aD 0 0,aE aD 0 0] _ _ HB.out)
 go_wp2_with (refine wpList_store_row rfl 25 _ _ rfl (w.heap.size+1) #[aA aB 0,aA aB 0,aE aD 0 0,aE aD 0 0] rfl rfl 25 _ HB.out size25 rfl (by simp[aBz]) ?_)
 exact bodyPost_ret (cU (u1:=7) (u2:=8) (u3:=9) rfl _ _ (w.heap.size+1) 25 #[aA aB 0,aA aB 0,aE aD 0 0,aE aD 0 0] (0,0) _ rfl HB2.out underlying25 rfl size25) rfl (gG HR.out HX2.out)
theorem Ip (w:World) (tv bv rv:Value) (s:aV) (q:Int) (f:List Run) (hl:aX w tv s.aN) (hb:bD w bv s.aK) (hr:bC w rv f) (h0:aZ s=0) (h1:0<=q/\q < s.aN.length) (h2:¬ fK f) :
  Calls prog 48 #[.agg #[aA aB s.aL,aA aB s.aM,tv,bv],aA aB q,rv] w (gV w (dK s q f)):=by
 have F:=hid (fun(W:World) (h:Ext w W)=>cI W tv bv s (hl.mono h) (hb.mono h));have CF:=hid (fun(W:World) (h:Ext w W)=>nQ W rv f (hr.mono h));obtain⟨wb,hwb,HX,HSS,HZZ,hszb⟩:=eD w s tv bv;have HX0:=hid HX;have HS0:=hid HSS;have HZ0:=hid HZZ;have HWB:=hid hwb;have HSB:=hid hszb;clear HX HSS HZZ hwb hszb;have HR:=hid (yF h0 h1 h2);have WI:=hid (fun W=>cE q 0 ((s.aN.length:Int) - 1) W h1.1 (by omega));rw[h0] at F;rw[deF h2] at CF;clear h2;obtain⟨qa,qc,rfl,_,_,_⟩:=hl.form;obtain⟨ba,bc,rfl,_,_,_⟩:=hb.form;obtain⟨fa,fc,rfl,_,_,_⟩:=hr.form;clear hl hb hr h0;generalize dK s q f=cr at *;generalize s.aN.length=n at *;generalize s.aK.length=z at *;generalize f.length=fl at *;go_enter func48,ntmps48
 go_wp2_with fail
 rw[HWB.out];refine(F.out _ HX0.out).mono ?_;rintro e w2 ⟨rfl,hx2⟩;obtain⟨a0,a1,a2,a3⟩:=HS0.out w2 hx2;have HXB2:=hid hx2
 go_wp2_with fail
 refine(WI.out _).mono ?_;rintro e w3 ⟨rfl,hw3⟩;obtain rfl:=hw3.symm;clear a0 a1 a2 a3
 go_wp2_with fail
 refine(CF.out _ (HX0.out.tr HXB2.out)).mono ?_;rintro e w3 ⟨rfl,hx3⟩;have HB:=hid (HZ0.out w3 (HXB2.out.tr hx3));have HX2:=hid ((HX0.out.tr (HXB2.out.tr hx3)).sr (b:=w.heap.size+1) (by omega) #[aA aB 0,aA aB 0,aE aD 0 0,aE aD 0 0]);have HB2:=hid (setRow_heap w3 (w.heap.size+1) _ #[aA aB 0,aA aB 0,aE aD 0 0,aE aD 0 0] _ _ HB.out)
 go_wp2_with (refine wpList_store_row rfl 25 _ _ rfl (w.heap.size+1) #[aA aB 0,aA aB 0,aE aD 0 0,aE aD 0 0] rfl rfl 25 _ HB.out size25 rfl (by simp[aBz]) ?_)
 exact bodyPost_ret (cU (u1:=7) (u2:=8) (u3:=9) rfl _ _ (w.heap.size+1) 25 #[aA aB 0,aA aB 0,aE aD 0 0,aE aD 0 0] (0,0) _ rfl HB2.out underlying25 rfl size25) rfl (gG HR.out HX2.out)
theorem Do {P:Program} (w:World) (t ty e:TypeId) (i:TypeInfo) (ht:P.underlying t=aC (.slice e)) (hi:P.info? e=aC i) (a:Addr) (n cap:Nat) (hn:n<=cap) :
  (Builtin.append_ #[t,t] ty #[aE (aC a) n cap,aE aD 0 0]).run P w=.ok (aE (aC a) n cap) w:=by
 simp[Builtin.append_,run_underlying ht,sizeOf,typeInfo,hi,Builtin.lenOf,Builtin.firstCells,hn,storeCells]
theorem wX {P:Program} {ops:Array Oper} {rest:List Oper} {o:Oper} {a:Act} {w:World} {Q:Exit->Act->World->Prop} (hgd:o.guard=aD) (s x:Operand) (t:TypeId)
  (ho:o.op=.call { callee:=.builtin .append,args:=#[s,x],argTypes:=#[t,t]}) (e:TypeId) (i:TypeInfo) (ht:P.underlying t=aC (.slice e)) (hi:P.info? e=aC i)
  (ad:Addr) (n cap:Nat) (hs:a.eval s=aE (aC ad) n cap) (hx:a.eval x=aE aD 0 0) (hn:n<=cap)
  (h:wpList P ops Q rest (a.put o.dst (aE (aC ad) n cap)) w):wpList P ops Q (o::rest) a w:=
 wpList_plain hgd fun _ hK=>by
  have hr:=Do (P:=P) w t o.type e i ht hi ad n cap hn;unfold Oper.wp execOp;simp only[ho,resolve,invoke,builtin,Sem.run_bind,Sem.run_pure,Result.andThen_ok,List.map_toArray,List.map_cons,List.map_nil,hs,hx,hr];exact hK _ _ h
theorem wY {P:Program} {ops:Array Oper} {rest:List Oper} {o:Oper} {a:Act} {w:World} {Q:Exit->Act->World->Prop} (hgd:o.guard=aD) (s x:Operand) (t:TypeId)
  (ho:o.op=.call { callee:=.builtin .append,args:=#[s,x],argTypes:=#[t,t]})
  (base:Nat) (e:TypeId) (i:TypeInfo) (z:Value) (size bytes:Nat) (ht:P.underlying t=aC (.slice e)) (hi:P.info? e=aC i) (hz:i.zero=aC z)
  (hsize:i.size=size) (hby:i.bytes=bytes) (hzs:z.cells.size=size) (hsz:0 < size)
  (g n cap:Nat) (xs:List Value) (hs:a.eval s=aE (aC ⟨g,0,aD⟩) n cap) (hown:w.ownsRow base e size (aE (aC ⟨g,0,aD⟩) n cap) n xs) (hn:n<=cap)
  (xv:Value) (b2 m:Nat) (news:List Value) (hx:a.eval x=xv) (hxo:w.ownsRow b2 e size xv m news) (h1:∀ u∈news,u.oneCell'=true)
  (h63:n+m<=maxLen) (hbytes:(n+m)*bytes<=140737488355328) (hbase:base<=w.heap.size)
  (h:∀ v' w',w'.ownsRow base e size v' (n+m) (xs++news)->w.grownBy w' (aC g)->wpList P ops Q rest (a.put o.dst v') w'):wpList P ops Q (o::rest) a w:=by
 have hl:=hxo.1;rcases hxo.2 with ⟨rfl,rfl⟩ | ⟨g',cap',cur,rfl,hb',hc',q1,q2,q3,q4⟩
 ·have hnil:news=[]:=aBC (by rw[hl];simp);refine wX hgd s x t ho e i ht hi ⟨g,0,aD⟩ n cap hs hx hn (h _ _ ?_ (bI (Ext.rf w)));rw[hnil,List.append_nil];exact hown
 ·exact wpList_append_own w hgd s x t ho base e i z size bytes ht hi hz hsize hby hzs hsz _ n xs hs hown ⟨g',0,aD⟩ m cap' news hx hl (fun j u hj=>hxo.cells (g:=g') rfl j u hj) h1 h63 hbytes hbase (fun v' w' k1 k2 _=>h v' w' k1 k2)
theorem oD {x:aT}:∀ {b:List aT} {i:Nat},i<=b.length->(∀ j y,j < i->b[j]?=aC y->y.Id < x.Id)->(∀ y,b[i]?=aC y->¬ y.Id < x.Id)->qM x b=b.take i++x::b.drop i
 | [],i,_,_,_=>by simp[qM]
 | y::b,0,_,_,h2=>by simp only[qM];rw[if_neg (h2 y rfl)];rfl
 | y::b,i+1,h0,h1,h2=>by
  simp only[qM];rw[if_pos (h1 0 y (by omega) rfl),oD (i:=i) (by simpa using h0) (fun j z hj hz=>h1 (j+1) z (by omega) (by simpa using hz)) (fun z hz=>h2 z (by simpa using hz))];rfl
theorem eP.build {bs:List Nat} {base g n cap:Nat} {W W':World} {b:List aT} {css:List (List Value)} (hlen:css.length=b.length) (each:∀ (k:Nat) (cs:List Value) (x:aT),css[k]?=aC cs->b[k]?=aC x->fE W cs x)
  (hlow:∀ ds∈css,∀ u∈ds,∀ a n c,u=aE (aC a) n c->a.block < W.heap.size/\a.block∉bs) (hx:Ext W W') (hg:W.heap.size<=g)
  (ho:W'.ownsRow base 40 7 (aE (aC ⟨g,0,aD⟩) n cap) n css.flatten) (hn:n=b.length):eP bs base W' (aE (aC ⟨g,0,aD⟩) n cap) b:=by
 subst hn;refine⟨css,ho,⟨hlen,fun k cs x h1 h2=>(each k cs x h1 h2).mono hx⟩,fun ds hd u hu a n c e=>(hlow ds hd u hu a n c e).2,fun g' hg' ds hd u hu a n c e hm=>?_⟩;obtain rfl:g=g':=by simpa[aCZ] using hg'
 have h1:=(hlow ds hd u hu a n c e).1;have h2:=aCB.1 hm;omega
theorem eP.at {bs:List Nat} {base ga n cp k:Nat} {W:World} {a:List aT} {x:aT} (h:eP bs base W (aE (aC ⟨ga,0,aD⟩) n cp) a) (hk:a[k]?=aC x) :
  ∃ pv bv:Value,kY W ga (k*7) x pv bv/\fE W [aA aB x.Id,aA aB x.aP.aG,aA aB x.aP.aI,aA aB x.aP.aH,aA aB x.aP.aJ,pv,bv] x/\(∀ s∈([aA aB x.Id,aA aB x.aP.aG,aA aB x.aP.aI,aA aB x.aP.aH,aA aB x.aP.aJ,pv,bv]:List Value),bU (ga::bs) s)/\W.there ga (k*7) 7:=by
 obtain⟨css,o1,o2,o3,o4⟩:=h;have hkl:=(aBD.1 hk).1;rcases o1.2 with ⟨hv,_⟩ | ⟨g',cp',cur,hv,hb,hcur,hnc,hcm,hcs,htk⟩
 ·cases hv
 have hgg:g'=ga/\cp'=cp:=by cases hv;exact⟨rfl,rfl⟩
 obtain⟨rfl,rfl⟩:=hgg;obtain⟨cs,hcs'⟩:=bT (f:=css) (k:=k) (by rw[o2.len];exact hkl);have hbc:=o2.each k cs x hcs' hk;have hmem:=aBJ hcs';have hcell:∀ (j:Nat) v,j < 7->cs[j]?=aC v->W.cell? ⟨g',k*7+j,aD⟩=aC v:=fun j v hj hv=>by
  refine kG hcur ?_;have e:=Bc (m:=7) (by omega) css o2.seven k j hj;rw[hcs'] at e;have e2:css.flatten[k*7+j]?=aC v:=by rw[e];exact hv
  rw[<- htk,aBH] at e2;split at e2
  ·exact e2
  ·cases e2
 have hap:=o3 cs hmem;have hap2:=o4 g' rfl cs hmem;have hbc':=hbc;obtain⟨qs,bv,rfl,⟨pv,rfl,_⟩,_⟩:=hbc;refine⟨pv,bv,⟨hcell 0 _ (by omega) rfl,hcell 1 _ (by omega) rfl,hcell 2 _ (by omega) rfl,hcell 3 _ (by omega) rfl,hcell 4 _ (by omega) rfl,hcell 5 _ (by omega) rfl,hcell 6 _ (by omega) rfl⟩,hbc',fun s hsm ad n c e hm=>?_,fun j hj=>⟨by rw[cell_of_row W g' _ _ _ _ hcur,Array.getElem?_eq_getElem (by rw[hcs];omega)];rfl,frozen_of_row W g' _ _ _ hcur⟩⟩;rcases aC8.1 hm with h | h
 ·exact hap2 s hsm ad n c e (aCB.2 h)
 ·exact hap s hsm ad n c e h
theorem eP.put {bs:List Nat} {base ga n cp k:Nat} {W:World} {a:List aT} {x:aT} {cs:List Value} (h:eP bs base W (aE (aC ⟨ga,0,aD⟩) n cp) a) (hk:k < a.length) (hbc:fE W cs x) (hap:∀ s∈cs,bU (ga::bs) s) :
  eP bs base (W.setCells ga (k*7) cs) (aE (aC ⟨ga,0,aD⟩) n cp) (a.set k x):=by
 obtain⟨css,o1,o2,o3,o4⟩:=h;rcases o1.2 with ⟨hv,_⟩ | ⟨g',cp',cur,hv,hb,hcur,hnc,hcm,hcs,htk⟩
 ·cases hv
 have hgg:g'=ga/\cp'=cp/\n=a.length:=by cases hv;exact⟨rfl,rfl,rfl⟩
 obtain⟨rfl,rfl,rfl⟩:=hgg;have h7:=uW hbc;have hcl:css.length=a.length:=o2.len;obtain⟨cur',q1,q2,q3,q4⟩:=jX cs (k*7) W cur hcur (by rw[h7,hcs];omega);rw[h7] at q3 q4;have hdrop:cur'.toList.drop (k*7+7)=cur.toList.drop (k*7+7):=List.ext_getElem? fun m=>by
  rw[aBN,aBN,q4 _ (by omega)]
 have e1:cur'.toList=cur.toList.take (k*7)++cs++cur.toList.drop (k*7+7):=by
  rw[<- q3,<- hdrop];exact(List.take_append_drop ..).symm
 have hset:css.set k cs=css.take k++cs::css.drop (k+1):=List.set_eq_take_append_cons_drop .. |>.trans (by rw[if_pos (by omega)])
 have hfl:(css.set k cs).flatten=css.flatten.take (k*7)++(cs++css.flatten.drop ((k+1)*7)):=by
  rw[hset,aD3,aCT,mP css o2.seven,eW css o2.seven]
 have hg:=eV W g' cs (k*7);have hone:∀ ds∈css,∀ u∈ds,bU [g'] u:=o4 g' rfl;have hmem:∀ ds∈css.set k cs,∀ u∈ds,bU bs u/\bU [g'] u:=fun ds hd u hu=>by
  rcases aDC hd with h | h
  ·exact⟨o3 ds h u hu,hone ds h u hu⟩
  ·subst h;exact⟨fun a n c e hm=>hap u hu a n c e (aBl _ hm),fun a n c e hm=>hap u hu a n c e (by rw[aCB.1 hm];exact aCw ..)⟩
 refine⟨css.set k cs,⟨?_,.inr ⟨g',cp',cur',by rw[aDF],hb,q1,by rw[aDF];exact hnc,hcm,by rw[q2,hcs],?_⟩⟩,⟨by rw[aDF,aDF,hcl],fun j ds y h1 h2=>?_⟩,fun ds hd u hu=>(hmem ds hd u hu).1,fun g2 hg2 ds hd u hu=>?_⟩
 ·rw[gU _ (fun ds hd=>by
   rcases aDC hd with h | h
   ·exact o2.seven ds h
   ·rw[h];exact h7),aDF,aDF,hcl]
 ·rw[aDF,hfl,e1,<- htk,List.take_take,List.drop_take,show min (k*7) (a.length*7)=k*7 by omega];have hA:(cur.toList.take (k*7)).length=k*7:=by rw[aCH,Array.length_toList,hcs];omega
  have hB:(cur.toList.take (k*7)++cs).length=k*7+7:=by rw[aBk,hA,h7]
  rw[List.take_append,hB,List.take_of_length_le (by rw[hB];omega),aDm,show (k+1)*7=k*7+7 by omega]
 ·by_cases hj:j=k
  ·subst hj;rw[aCz (by omega)] at h1;rw[aCz hk] at h2;cases h1;cases h2;exact gE hbc hg (fun u hu=>(hmem cs (aBJ (by rw[aCz (by omega)])) u hu).2)
  ·rw[aCA (fun h=>hj h.symm)] at h1 h2;exact gE (o2.each j ds y h1 h2) hg (hone ds (aBJ h1))
 ·obtain rfl:g'=g2:=by simpa[aCZ] using hg2
  exact(hmem ds hd u hu).2
section
variable {w0 W:World} {X gq qc gb cap:Nat} {c nx:Int} {l:List Queue} {b a:List aT} {va:Value}
theorem dR.pre {W':World} {g2 cap2 n2:Nat} {x:aT} {pv bv:Value} {ca:List (List Value)} (h:dR w0 X gq qc gb cap c nx l b a va W)
  (o2:fF W ca a) (o3:lX (gb::gq::X::List.range w0.heap.size) ca)
  (hbc:fE W [aA aB x.Id,aA aB x.aP.aG,aA aB x.aP.aI,aA aB x.aP.aH,aA aB x.aP.aJ,pv,bv] x) (hlx:sF x)
  (hap:∀ s∈([aA aB x.Id,aA aB x.aP.aG,aA aB x.aP.aI,aA aB x.aP.aH,aA aB x.aP.aJ,pv,bv]:List Value),∀ ad n c',s=aE (aC ad) n c'->ad.block < W.heap.size/\ad.block≠gb/\w0.heap.size<=ad.block/\ad.block∉va.ownBlock.toList++[X]/\∀ r,(aE (aC ⟨gq,0,aD⟩) l.length qc).ownBlock=aC r->ad.block≠r)
  (hx:Ext W W') (hg2:W.heap.size<=g2)
  (hown:W'.ownsRow W.heap.size 40 7 (aE (aC ⟨g2,0,aD⟩) n2 cap2) n2 ([aA aB x.Id,aA aB x.aP.aG,aA aB x.aP.aI,aA aB x.aP.aH,aA aB x.aP.aJ,pv,bv]++ca.flatten)) (hn:n2=a.length+1) :
  dR w0 X gq qc gb cap c nx l b (x::a) (aE (aC ⟨g2,0,aD⟩) n2 cap2) W':=by
 have hXw:=(aBy.1 h.box).1;refine⟨aW h.box hx,?_,?_,?_,fun y hy=>?_,h.ext.tr hx,h.low⟩
 ·refine((h.own.box hg2).ext hx).low (aBq _) (fun r hr=>?_);have hr':r=g2\/r=X:=by simpa[aCZ] using hr
  rcases hr' with rfl | rfl
  ·exact aCw ..
  ·exact aBl _ (aD2 _ (aCB.2 rfl))
 ·refine eP.build (W:=W) (css:=[aA aB x.Id,aA aB x.aP.aG,aA aB x.aP.aI,aA aB x.aP.aH,aA aB x.aP.aJ,pv,bv]::ca) (by simp[o2.len]) (fun k cs y h1 h2=>?_) (fun ds hd u hu ad n c' e=>?_) hx hg2 (sU (by rw[aCT];exact hown) h.ext.size) (by rw[hn];rfl)
  ·cases k with
   | zero=>
    have h1':=Option.some.inj h1;have h2':=Option.some.inj h2;rw[<- h1',<- h2'];exact hbc
   | succ k=>exact o2.each k cs y (by simpa using h1) (by simpa using h2)
  ·rcases aC8.1 hd with hd | hd
   ·rw[hd] at hu;obtain⟨p1,p2,p3,p4,p5⟩:=hap u hu ad n c' e;refine⟨p1,fun hm=>?_⟩;rcases aC8.1 hm with h1 | hm
    ·exact p2 h1
    ·rcases aC8.1 hm with h1 | hm
     ·exact p5 gq rfl h1
     ·rcases aC8.1 hm with h1 | hm
      ·exact p4 (aD2 _ (aCB.2 h1))
      ·have:=aC3.1 hm;omega
   ·exact⟨jQ o2 (fun y hy=>(h.live y hy).1) ds hd u hu ad n c' e,o3 ds hd u hu ad n c' e⟩
 ·intro e;have:g2=X:=by simpa[aCZ] using e
  omega
 ·rcases aC8.1 hy with h1 | h1
  ·rw[h1];exact hlx
  ·exact h.live y h1
theorem dR.put {ga n ca k:Nat} {x:aT} {cs:List Value} (h:dR w0 X gq qc gb cap c nx l b a (aE (aC ⟨ga,0,aD⟩) n ca) W) (hk:k < a.length) (hbc:fE W cs x) (hlx:sF x) (hap:∀ s∈cs,bU (ga::gb::gq::X::List.range w0.heap.size) s) :
  dR w0 X gq qc gb cap c nx l b (a.set k x) (aE (aC ⟨ga,0,aD⟩) n ca) (W.setCells ga (k*7) cs):=by
 have hne:=h.ne (r:=ga) rfl;have hg:=eV W ga cs (k*7);refine⟨(hg.block X (aBy.1 h.box).1 (fun e=>hne.2.2.1 (Option.some.inj e).symm)).trans h.box,h.own.kept hg (aD1 _ (aCB.2 rfl)),h.away.put hk hbc hap,h.apart,fun y hy=>?_,h.ext.gr (v:=aE (aC ⟨ga,0,aD⟩) n ca) hg (fun k hk=>by have e:=Option.some.inj hk;have e2:ga=k:=e;omega),h.low⟩;rcases aDC hy with h1 | h1
 ·exact h.live y h1
 ·rw[h1];exact hlx
theorem dR.renew {W':World} {gq' qc' gb' cap':Nat} {b':List aT} (h:dR w0 X gq qc gb cap c nx l b a va W) (hO:cP [] W.heap.size W' (aE (aC ⟨gq',0,aD⟩) l.length qc') (aE (aC ⟨gb',0,aD⟩) b'.length cap') l b') (hx:Ext W W') :
  dR w0 X gq' qc' gb' cap' c nx l b' a va (W'.setRow X #[aA aB c,aA aB nx,aE (aC ⟨gq',0,aD⟩) l.length qc',aE (aC ⟨gb',0,aD⟩) b'.length cap']):=by
 have hXw:=(aBy.1 h.box).1;have hg:=bS W' X #[aA aB c,aA aB nx,aE (aC ⟨gq',0,aD⟩) l.length qc',aE (aC ⟨gb',0,aD⟩) b'.length cap'];obtain⟨g1,c1,e1,hgq,_⟩:=hO.uform;cases e1;obtain⟨_,_,_,hvb⟩:=hO.vform;have hgb:=(hvb gb' rfl).1;refine⟨setRow_heap W' X _ _ _ _ (aW h.box hx),?_,?_,h.apart,h.live,(h.ext.tr hx).sr h.low _,h.low⟩
 ·have hO2:cP (va.ownBlock.toList++[X]) W.heap.size W' (aE (aC ⟨gq',0,aD⟩) l.length qc') (aE (aC ⟨gb',0,aD⟩) b'.length cap') l b':=by
   cases hv:va.ownBlock with
   | none=>exact hO.under hXw
   | some r=>exact(hO.under hXw).under (h.ne hv).2.2.2.2
  exact(hO2.kept hg (aD2 _ (aCB.2 rfl))).low h.ext.size (fun r hr=>hr)
 ·have h1:=((h.away.low_all h.live hgq).low_all h.live hgb).sub (cs:=gb'::gq'::X::List.range w0.heap.size) (fun r hr=>by
   simp only[aC8] at hr ⊢;rcases hr with h | h | h | h
   ·exact .inl h
   ·exact .inr (.inl h)
   ·exact .inr (.inr (.inr (.inr (.inl h))))
   ·exact .inr (.inr (.inr (.inr (.inr h)))))
  exact(h1.ext hx).keptR hg (by simp) (fun r hr=>(h.ne hr).2.2.1)
end
theorem cP.mid {ex:List Nat} {B g z cap:Nat} {W:World} {u:Value} {l:List Queue} {b:List aT} (h:cP ex B W u (aE (aC ⟨g,0,aD⟩) z cap) l b) (hz:b.length=z) (h12:b.length < 12) :
  ∃ css:List (List Value),css.length=z/\(∀ cs∈css,cs.length=7)/\(∀ v∈css.flatten,v.oneCell'=true)/\z<=cap/\(∀ (j:Nat) v,css.flatten[j]?=aC v->W.cell? ⟨g,j,aD⟩=aC v)/\
   (∀ (k:Nat) (x:aT),b[k]?=aC x->∃ pv bv:Value,css[k]?=aC [aA aB x.Id,aA aB x.aP.aG,aA aB x.aP.aI,aA aB x.aP.aH,aA aB x.aP.aJ,pv,bv]/\aU W pv x.aP.aF/\bJ W bv x.aO)/\
   ∀ (W':World) (g2 n2 cap2 i:Nat) (cs:List Value) (x:aT),Ext W W'->W.heap.size<=g2->i<=z->fE W cs x->sF x->
    (∀ s∈cs,∀ a n c,s=aE (aC a) n c->a.block < W.heap.size/\B<=a.block/\a.block∉ex/\∀ r,u.ownBlock=aC r->a.block≠r)->(∀ r∈ex,r < W.heap.size)->
    W'.ownsRow W.heap.size 40 7 (aE (aC ⟨g2,0,aD⟩) n2 cap2) n2 ((css.take i).flatten++cs++(css.drop i).flatten)->n2=z+1->
    cP ex B W' u (aE (aC ⟨g2,0,aD⟩) n2 cap2) l (b.take i++x::b.drop i):=by
 obtain⟨gq,qc,rfl,h1,h2,h5,_,hgB,hs,he,hl,hc,⟨css,o1,o2,o3,o4⟩,hne,hq⟩:=h;rcases o1.2 with ⟨hv,_⟩ | ⟨g',cap',cur,hv,hb,hcur,hnc,hcm,hcs,htk⟩
 ·cases hv
 have hgg:g'=g/\cap'=cap:=by cases hv;exact⟨rfl,rfl⟩
 obtain⟨rfl,rfl⟩:=hgg;have hcl:css.length=z:=by rw[o2.len,hz]
 refine⟨css,hcl,o2.seven,o2.one,by omega,fun j v hj=>?_,fun k x hk=>?_,fun W' g2 n2 cap2 i cs x hx hg2 hi hbc hlx hap hex hown hn=>?_⟩
 ·refine kG hcur ?_;have hjl:=(aBD.1 hj).1;have e2:=hj;rw[<- htk,aBH] at e2;split at e2
  ·exact e2
  ·cases e2
 ·obtain⟨cs,hcs'⟩:=bT (f:=css) (k:=k) (by rw[o2.len];exact(aBD.1 hk).1);obtain⟨qs,bv,rfl,⟨pv,rfl,hp,_⟩,hbt,_⟩:=o2.each k cs x hcs' hk;exact⟨pv,bv,hcs',hp,hbt⟩
 ·have hBW:B<=W.heap.size:=by omega
  refine⟨gq,qc,rfl,h1,h2,h5,?_,hgB,aBA hs hx.size,he,fun y hy=>?_,hc,?_,fun r hr=>?_,?_⟩
  ·simp only[aBk,aCH,aBB,aDc];omega
  ·rcases aBm.1 hy with h | h
   ·exact hl y (aDy h)
   ·rcases aC8.1 h with h | h
    ·rw[h];exact hlx
    ·exact hl y (aDb h)
  ·refine eP.build (W:=W) (css:=css.take i++cs::css.drop i) ?_ (fun k ds y k1 k2=>?_) (fun ds hd s hsm a n c e=>?_) hx hg2 (sU (by rw[aD3,aCT,<- aDm];exact hown) hBW) ?_
   ·simp only[aBk,aCH,aBB,aDc];omega
   ·have hti:(css.take i).length=i:=by rw[aCH];omega
    have htb:(b.take i).length=i:=by rw[aCH];omega
    rcases Nat.lt_trichotomy k i with hk | hk | hk
    ·rw[List.getElem?_append_left (by omega),aCY hk] at k1 k2;exact o2.each k ds y k1 k2
    ·subst hk;rw[aCJ (by omega),hti,aCp] at k1;rw[aCJ (by omega),htb,aCp] at k2;have e1:cs=ds:=by simpa using k1
     have e2:x=y:=by simpa using k2
     rw[<- e1,<- e2];exact hbc
    ·obtain⟨m,rfl⟩:∃ m,k=i+(m+1):=⟨k - i - 1,by omega⟩;rw[aCJ (by omega),hti,show i+(m+1) - i=m+1 by omega,aDz,aBN] at k1;rw[aCJ (by omega),htb,show i+(m+1) - i=m+1 by omega,aDz,aBN] at k2;exact o2.each (i+m) ds y k1 k2
   ·have hold:ds∈css->a.block < W.heap.size/\a.block∉gq::(ex++List.range B):=fun hd=>⟨jQ o2 (fun y hy=>(hl y hy).1) ds hd s hsm a n c e,o3 ds hd s hsm a n c e⟩;rcases aBm.1 hd with h | h
    ·exact hold (aDy h)
    ·rcases aC8.1 h with h | h
     ·rw[h] at hsm;obtain⟨p1,p2,p3,p4⟩:=hap s hsm a n c e;refine⟨p1,fun hm=>?_⟩;rcases aC8.1 hm with h | h
      ·exact p4 gq rfl h
      ·rcases aBm.1 h with h | h
       ·exact p3 h
       ·have:=kH h;omega
     ·exact hold (aDb h)
   ·simp only[aBk,aCH,aBB,aDc];omega
  ·obtain rfl:g2=r:=by simpa[aCZ] using hr
   exact⟨by omega,fun hm=>by have:=hex g2 hm;omega⟩
  ·have h3:=(hq.more hc hg2).ext hx;exact h3.less (fun r hr=>by
    rcases aBm.1 hr with h | h
    ·have:r=g2:=by simpa[aCZ] using h
     rw[this];exact aCw ..
    ·exact aBl _ (aD2 _ h))
section
variable {w0 W:World} {X gq qc gb cap:Nat} {c nx:Int} {l:List Queue} {A b:List aT} {m d:List Int} {va vm vd:Value}
theorem dJ.old (h:dJ w0 X gq qc gb cap c nx l A va b m d vm vd W):∀ r∈vm.ownBlock.toList++(vd.ownBlock.toList++(va.ownBlock.toList++[X])),r < W.heap.size:=fun r hr=>by
 simp only[aBm,aCB,aDD] at hr;rcases hr with hr | hr | hr | hr
 ·exact(h.mrow.lt r hr).2
 ·exact(h.drow.lt r hr).2
 ·obtain⟨css,o1,_⟩:=h.away;exact(o1.lt r hr).2
 ·rw[hr];exact(aBy.1 h.box).1
theorem dJ.anew {W':World} {g2 cap2:Nat} {b2:List aT} (h:dJ w0 X gq qc gb cap c nx l A va b m d vm vd W) (hx:Ext W W') (hg2:W.heap.size<=g2)
  (hown:cP (vm.ownBlock.toList++(vd.ownBlock.toList++(va.ownBlock.toList++[X]))) w0.heap.size W' (aE (aC ⟨gq,0,aD⟩) l.length qc) (aE (aC ⟨g2,0,aD⟩) b2.length cap2) l b2) :
  dJ w0 X gq qc g2 cap2 c nx l A va b2 m d vm vd (W'.setCell ⟨X,3,aD⟩ (aE (aC ⟨g2,0,aD⟩) b2.length cap2)):=by
 have hs:=aY W' X 3 (aE (aC ⟨g2,0,aD⟩) b2.length cap2);refine⟨heap_setCell_same W' X 3 _ _ _ (aW h.box hx),hown.kept hs (by simp),?_,h.live,?_,?_,h.mapart,h.dapart,h.aapart,(h.ext.tr hx).se h.low _,h.low⟩
 ·have h1:=((h.away.low_all h.live hg2).sub (cs:=vm.ownBlock.toList++(vd.ownBlock.toList++(g2::gq::X::List.range w0.heap.size))) (fun r hr=>by
   simp only[aC8,aBm] at hr ⊢;rcases hr with h | h | h | h | h | h
   ·exact .inr (.inl h)
   ·exact .inr (.inr (.inl h))
   ·exact .inl h
   ·exact .inr (.inr (.inr (.inr (.inl h))))
   ·exact .inr (.inr (.inr (.inr (.inr (.inl h)))))
   ·exact .inr (.inr (.inr (.inr (.inr (.inr h)))))))
  exact(h1.ext hx).keptR hs (by simp) (fun r hr e=>h.aapart (e▸hr))
 ·exact cY (bE h.mrow hx) hs (fun r hr e=>(h.mapart r hr).1 (Option.some.inj e).symm)
 ·exact cY (bE h.drow hx) hs (fun r hr e=>(h.dapart r hr).1 (Option.some.inj e).symm)
end
end Go.Proofs.YtdcndkojmflhnaaGreat
