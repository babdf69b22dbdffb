/- Ticks and changes of room: contracts of their functions and of the references'; each theorem names its own conditions. -/
import Derived.Test.YtaekdjbnldlklaaGreatDoorVLoadTrue
import Derived.Test.YtaekdjbnldlklaaGreatDoorVReqL
import Derived.Test.YtaekdjbnldlklaaGreatDoorVCore
import Derived.Deep.RegionHeld3
import Derived.RangeFuncNested
import Derived.RangeFuncBound
import Derived.RangeFuncCalls
import Derived.RangeFuncLeaves
import Derived.RangeFuncBox
import Derived.Shelf.Abstract
import Derived.Shelf.RegionOpen
import Derived.WalkKit
import Derived.OwnWalkIn
import Derived.TacticsInMore
import Derived.LoopNIn
import Derived.LoopIn
import Derived.Maps.AppendAt
import Derived.Shelf.SlSortCmp.SmallK
import Derived.Shelf.SlicesG.Cmp
import Derived.Shelf.Small.Bits
import Derived.Ground.SlsfProg
import Derived.Ground.SlgcProg
import Derived.Ground.NamesProg
import Derived.Shelf.Spec.SlicesInsert
set_option linter.unusedVariables false
set_option maxRecDepth 100000
set_option maxHeartbeats 8000000
set_option linter.unusedSimpArgs false
namespace Go.Proofs.YtaekdjbnldlklaaGreatDoor
open Tryz
open Go.RowKit
open List renaming getElem_toArray->zA,getElem_cons_zero->zB,getElem_cons_succ->zC,setIfInBounds_toArray->zD,set_cons_zero->zE,set_cons_succ->zF
open Go.Value renaming int->Y,slice->O,oneCell'->aGr,ownBlock->aHR
open Go.IntKind renaming i64->Z
open _root_.Option renaming none->J,some->M,mem_toList->aIv
open Go.World renaming size_alloc->aHb,cell?_of_block->aHm,ownsRow_nil->aGQ,alloc_heap_new->aGY
open _root_.Nat renaming le_refl->aGi,le_trans->aGR,lt_of_lt_of_le->aGs,eq_zero_or_pos->aIc,lt_or_ge->aGD,reduceAdd->aH3,reduceSub->aH4,zero_le->aGI,zero_add->aGx,not_lt_zero->aGf,min->aIt,min_def->aIu
open _root_.List renaming mem_cons_self->aHv,length_filter_le->aIb,mem_cons_of_mem->aGc,mem_append_right->aHW,take_add_one->aHZ,length_take->aHB,mem_of_getElem?->aGC,take_of_length_le->aHF,mem_cons->aH1,getElem?_eq_getElem->aGm,cons_append->aGd,mem_append->aGe,mem_singleton->aHf,getD_eq_getElem?_getD->aGW,getElem?_eq_none->aHN,any_eq_false->aGU,mem_range->aGN,getElem?_eq_some_iff->aGw,length_eraseIdx_of_lt->aId,Perm->aIe,append_assoc->aIf,eq_nil_of_length_eq_zero->aGv,Sublist->aIg,eraseIdx_sublist->aIh,append_nil->aG9,perm_middle->aIi,nil_append->aH9,pairwise_cons->aIj,mem_append_left->aHV,Pairwise->aIk,mem_iff_getElem?->aHK,map_cons->aHs,mem_map->aHd,length_cons->aGt,length_append->aGb,getElem?_append_left->aHI,getElem?_append_right->aHJ,size_toArray->aH2,length_nil->aGu,push_toArray->aH7,append_toArray->aH8,not_mem_nil->aHa,getElem?_map->aHt,ext_getElem?->aIl,length_map->aHC,getElem?_take_of_lt->aHQ,pairwise_iff_getElem->aIr,getElem?_take->aGA,length_drop->aI4,mem_of_mem_take->aHA,mem_of_mem_drop->aI3,getElem?_cons_succ->aIs,getElem?_drop->aGG,take_take->aI0,flatten_append->aHS,flatten_cons->aHH,getElem?_set_self->aHy,getElem?_set_ne->aHz,drop_zero->aHl
open _root_.Array renaming getElem?_eq_some_iff->aGq,replicate_succ->aH5,replicate_zero->aH6,getElem?_toList->aIm,length_toList->aI2,getElem?_append_left->aIn,size_modify->aIo,getElem?_modify->aIp,extract_size->aIq
open _root_.Int renaming le_refl->aGh,toNat_of_nonneg->aHo
open Go renaming Boxed→s9,Calls→y8,Ending→r8,Program→o9,TypeId→o8,Value→y5,World→y4,bodyPost_ret→v6,callFunc→i6,cell_of_row→y6,frozen_of_row→x4,heap_alloc_new→y7,heap_setCell_other→x7,heap_setCell_same→x6,info_parts→s8,maxLen→o0,run_takeDeferred→m7,setRow_heap→x5,undef→u5,wpAnyH_done→r7,wpList_append_lies→n8,wpQuiet_nil→i8
open Go.Value renaming pointer→zz,bool→zx,func→zy,tuple→zw
open Go.Ending renaming returned→zv
open Go.Obj renaming cells→zt
noncomputable def iX (t:Int) (b:List aH):List aH:=b.filter λa=>!fD t a
noncomputable def xM (s:aG) (t:Int):aG:=⟨t,s.H,s.K,iX t s.F⟩
@[irreducible] noncomputable def eZ (s:aG) (t:Int):aG × Int × Int:=
 if aI s≠0 then(gQ,0,aI s) else if¬ (0<=t/\t<=48) then(gQ,0,3) else if t<s.G then(gQ,0,9) else(xM s t,(s.F.length:Int)-((iX t s.F).length:Int),0)
theorem yR {s:aG} {t:Int} (a:aI s≠0):eZ s t=(gQ,0,aI s):=by unfold eZ;rw[c7 a]
theorem sE {s:aG} {t:Int} (a:aI s=0) (b:¬ (0<=t/\t<=48)):eZ s t=(gQ,0,3):=by unfold eZ;rw[d8 (by simp[a]),c7 b]
theorem vB {s:aG} {t:Int} (a:aI s=0) (b:0<=t/\t<=48) (c:t<s.G):eZ s t=(gQ,0,9):=by unfold eZ;rw[d8 (by simp[a]),d8 (by simp[b]),c7 c]
theorem tP {s:aG} {t:Int} (a:aI s=0) (b:0<=t/\t<=48) (c:¬ t<s.G):eZ s t=(xM s t,(s.F.length:Int)-((iX t s.F).length:Int),0):=by unfold eZ;rw[d8 (by simp[a]),d8 (by simp[b]),d8 c]
theorem aDm (w:y4) (c a:y5) (x:aH) (t:Int) (B:Nat) (b:aM w c x.P.A) (hb:bF w a x.L) (h:w ⟨B,0,J⟩=M (Y Z t)) :
  y8 prog 102 #[.agg #[x.Id,x.P.B,x.P.D,x.P.C,x.P.E,c,a],zz (M ⟨B,0,J⟩)] w λd e=>d=zv (zx (fD t x))/\d7 w e:=by
 have g:=I (λ(W:y4) (e:d7 w W)=>Tm W c a x t (b.m e) (hb.m e));have f:=World.block_lt_of_cell? w _ h;have m:B<w.heap.size:=f;clear f;obtain⟨o,p,rfl,_,_,_⟩:=b.i;obtain⟨j,k,rfl,_,_,_⟩:=hb.i;clear b hb;generalize fD t x=n at *;generalize x.P.A.length=q at *;generalize x.L.length=l at *;go_enter func102,ntmps102;go_wp2_with fail;refine(g _ ((b8 w).a _)).m ?_;rintro d r ⟨rfl,i⟩;go_wp2;go_ret;exact⟨rfl,((b8 w).a _).r i⟩
theorem vA (w:y4) (s:aG) (t:Int) (d c:y5):∃ a:y4,((w.alloc (zt #[s.G,s.H,d,c] 34)).alloc (zt #[t] 3)).alloc (zt #[Y Z 0,Y Z 0,O J 0 0,O J 0 0] 34)=a/\d7 w a/\(∀ W,d7 a W->(W ⟨w,0,J⟩=M (Y Z s.G)/\W ⟨w,1,J⟩=M (Y Z s.H)/\W ⟨w,2,J⟩=M d/\W ⟨w,3,J⟩=M c))/\
  (∀ W,d7 a W->W ⟨w+1,0,J⟩=M (Y Z t))/\
  (∀ W,d7 a W->W.heap[w.heap.size+1+1]?=M (zt #[Y Z 0,Y Z 0,O J 0 0,O J 0 0] 34 (0,0)))/\a.heap.size=w.heap.size+3:=by
 refine⟨_,rfl,(((b8 w).a _).a _).a _,λW b=>dY ((((b8 _).a _).a _).r b),λW b=>?_,λW b=>?_,by simp⟩
 ·have a:=y7 (w.alloc (zt #[s.G,s.H,d,c] 34)) (zt #[t] 3);simp only[aHb] at a;exact y6 W _ 0 _ _ _ ((b.block _ (by simp)).trans ((((b8 _).a _).block _ (by simp)).trans a))
 have a:=y7 ((w.alloc (zt #[s.G,s.H,d,c] 34)).alloc (zt #[t] 3)) (zt #[Y Z 0,Y Z 0,O J 0 0,O J 0 0] 34);simp only[aHb] at a;exact(b.block _ (by simp)).trans a
theorem aEv (w:y4) (c a:y5) (s:aG) (t:Int) (e:aK w c s.K) (hb:aS w a s.F) (d:aI s≠0) :
  y8 prog 49 #[.agg #[s.G,s.H,c,a],t] w (dF w (eZ s t)):=by
 have o:=I (λ(W:y4) (j:d7 w W)=>eU W c a s (e.m j) (hb.m j));obtain⟨G,k,g,r,u,i,z⟩:=vA w s t c a;obtain⟨h,y,v⟩:=zq g i k;clear g r u i k z;have q:=I (yR (t:=t) d);have D:=neT d;obtain⟨E,qc,rfl,_,_,_⟩:=e.i;obtain⟨A,B,rfl,_,_,_⟩:=hb.i;clear e hb;clear d;generalize aI s=F at *;generalize s.K.length=n at *;generalize s.F.length=H at *;go_enter func49,ntmps49;go_wp2_with fail;rw[v.o];refine(o _ h).m ?_;rintro C m ⟨rfl,l⟩;obtain⟨f,x⟩:=zr (y m (l)) ((h.r (l)).sr (b:=w+1+1) (by omega) #[Y Z 0,Y Z 0,O J 0 0,O J 0 0]);have p:=I (x5 m (w+1+1) _ #[Y Z 0,Y Z 0,O J 0 0,O J 0 0] _ _ f);go_wp2_with (refine z6 (w+1+1) #[Y Z 0,Y Z 0,O J 0 0,O J 0 0] f ?_);exact v6 (bC (u1:=5) (u2:=6) rfl _ _ (w+1+1) 34 #[Y Z 0,Y Z 0,O J 0 0,O J 0 0] (0,0) _ rfl p underlying34 rfl size34) rfl (cV q x)
theorem aBb (w:y4) (d a:y5) (s:aG) (t:Int) (g:aK w d s.K) (hb:aS w a s.F) (f:aI s=0) (C:¬ (0<=t/\t<=48)) :
  y8 prog 49 #[.agg #[s.G,s.H,d,a],t] w (dF w (eZ s t)):=by
 have h:=I (λ(W:y4) (p:d7 w W)=>eU W d a s (g.m p) (hb.m p));obtain⟨U,r,l,j,k,o,E⟩:=vA w s t d a;obtain⟨m,x,y,B,z⟩:=zm l j k o r;clear l j k o r E;have v:=I (sE f C);rw[f] at h;obtain⟨S,qc,rfl,_,_,_⟩:=g.i;obtain⟨N,P,rfl,_,_,_⟩:=hb.i;clear g hb;clear f;generalize s.K.length=n at *;generalize s.F.length=V at *;go_enter func49,ntmps49;go_wp2_with fail;rw[z.o];refine(h _ m).m ?_;rintro R e ⟨rfl,c⟩;obtain⟨G,H,K,L⟩:=x e c;have Q:=y e c;by_cases q:t<0;have F:=deT q;rotate_left;have D:48<t:=by omega
 have F:=deF q;have T:=deT D
 all_goals
  obtain⟨i,A⟩:=zr (B e (c)) ((m.r (c)).sr (b:=w+1+1) (by omega) #[Y Z 0,Y Z 0,O J 0 0,O J 0 0]);have u:=I (x5 e (w+1+1) _ #[Y Z 0,Y Z 0,O J 0 0,O J 0 0] _ _ i);go_wp2_with (refine z6 (w+1+1) #[Y Z 0,Y Z 0,O J 0 0,O J 0 0] i ?_);exact v6 (bC (u1:=5) (u2:=6) rfl _ _ (w+1+1) 34 #[Y Z 0,Y Z 0,O J 0 0,O J 0 0] (0,0) _ rfl u underlying34 rfl size34) rfl (cV v A)
theorem aDl (w:y4) (d a:y5) (s:aG) (t:Int) (g:aK w d s.K) (hb:aS w a s.F) (f:aI s=0) (q:0<=t/\t<=48) (r:t<s.G) :
  y8 prog 49 #[.agg #[s.G,s.H,d,a],t] w (dF w (eZ s t)):=by
 have h:=I (λ(W:y4) (p:d7 w W)=>eU W d a s (g.m p) (hb.m p));obtain⟨X,u,l,j,k,o,D⟩:=vA w s t d a;obtain⟨m,y,z,C,A⟩:=zm l j k o u;clear l j k o u D;have x:=I (vB f q r);rw[f] at h;obtain⟨S,qc,rfl,_,_,_⟩:=g.i;obtain⟨K,L,rfl,_,_,_⟩:=hb.i;clear g hb;clear f;obtain⟨Q,R⟩:=q;generalize s.K.length=n at *;generalize s.F.length=a0 at *;go_enter func49,ntmps49;go_wp2_with fail;rw[A.o];refine(h _ m).m ?_;rintro P e ⟨rfl,c⟩;obtain⟨E,F,G,H⟩:=y e c;have N:=z e c;have T:=deF (show ¬ t<0 by omega);have U:=deF (show ¬ 48<t by omega);have V:=deT r;obtain⟨i,B⟩:=zr (C e (c)) ((m.r (c)).sr (b:=w+1+1) (by omega) #[Y Z 0,Y Z 0,O J 0 0,O J 0 0]);have v:=I (x5 e (w+1+1) _ #[Y Z 0,Y Z 0,O J 0 0,O J 0 0] _ _ i);go_wp2_with (refine z6 (w+1+1) #[Y Z 0,Y Z 0,O J 0 0,O J 0 0] i ?_);exact v6 (bC (u1:=5) (u2:=6) rfl _ _ (w+1+1) 34 #[Y Z 0,Y Z 0,O J 0 0,O J 0 0] (0,0) _ rfl v underlying34 rfl size34) rfl (cV x B)
theorem aDk (w:y4) (G p:y5) (s:aG) (t:Int) (T:aK w G s.K) (hb:aS w p s.F) (L:aI s=0) (N:0<=t/\t<=48) (h2:¬ t<s.G) :
  y8 prog 49 #[.agg #[s.G,s.H,G,p],t] w (dF w (eZ s t)):=by
 have ad:=I (λ(W:y4) (A:d7 w W)=>eU W G p s (T.m A) (hb.m A));obtain⟨z,b0,HX,ai,ak,ao,ay⟩:=vA w s t G p;obtain⟨a7,ag,a6,bl,bg,a5⟩:=zl HX ai ak ao b0 ay;clear HX ai ak ao b0 ay;have HR:=I (tP L N h2);rw[L] at ad;obtain⟨ok,bn,au⟩:=eR L;have OW:=I (λ(W:y4) (A:d7 w W)=>aC3 W G p s (T.m A) (hb.m A) ok bn au);obtain⟨qa,qc,rfl,_,_,_⟩:=T.i;obtain⟨ba,bc,rfl,_,_,_⟩:=hb.i;clear T hb;clear L ok au;obtain⟨g1,g2⟩:=N;generalize aw:s.K.length=n at *;generalize av:s.F.length=e at *;obtain⟨b6,ae⟩:=zr aw av;clear aw av;go_enter func49,ntmps49;go_wp2_with fail;rw[bg.o];refine(ad _ a7).m ?_;rintro v w2 ⟨rfl,F⟩;obtain⟨a0,a1,a2,a3⟩:=ag w2 F;have ct:=a6 w2 F;have t1:=deF (show ¬ t<0 by omega);have t2:=deF (show ¬ 48<t by omega);have t3:=deF (show ¬ t<s.G by omega);obtain⟨K,a8⟩:=zr (a7.r F) F;clear F;go_wp2_with fail;refine(OW _ K).m ?_;rintro v c ⟨u7,v7,rfl,x,X⟩;clear a0 a1 a2 a3 ct;obtain⟨gq,f,rfl,bo,bp⟩:=x.uform;obtain⟨q,u,rfl,aa⟩:=x.vform;rw[ae.o] at x aa ⊢;rw[b6.o] at x ⊢;obtain⟨bj,al,aj,af⟩:=zp (K.r X) (a8.r X) (And.intro a8.size X.size) aa;obtain⟨g,Q⟩:∃ g,(c.alloc (zt #[Y Z 0,Y Z 0,O J 0 0,O J 0 0] 34)).setRow c #[s.G,s.H,O (M ⟨gq,0,J⟩) n f,O q e u]=g:=⟨_,rfl⟩;have ab:d7 c g:=Q▸((b8 c).a _).sr (b:=c) (aGi _) _;have D:g.heap[c.heap.size]?=M (zt #[s.G,s.H,O (M ⟨gq,0,J⟩) n f,O q e u] 34 (0,0)):=Q▸x5 (c.alloc _) c _ _ _ _ (y7 c _);have ap:=(((x.under (r:=w+1+1) (by have:=a8.size;have:=a5.o;omega)).low (B2:=w.heap.size) K.size (λr E=>E)).box (aGi _)).e ab;obtain⟨l,B⟩:∃ l,g.setCell ⟨c,0,J⟩ (Y Z t)=l:=⟨_,rfl⟩;have aq:=B▸ap.kept (aN g c 0 (Y Z t)) (aHv ..);have a9:l.heap[c.heap.size]?=M (zt #[t,s.H,O (M ⟨gq,0,J⟩) n f,O q e u] 34 (0,0)):=B▸x6 g c 0 _ _ _ D;have am:=I (al.r ab);have a4:d7 z l:=B▸am.se (b:=c) (o:=0) al.size _;obtain⟨DE,be,bf,an,bk,b3,ah⟩:=zj (Pj [c.heap.size,w.heap.size+1+1] w l _ _ _ s.F 102 #[zz (M ⟨w+1,0,J⟩)] (fD t) aq (enters_of func102 (by kernel_rfl) rfl) (λb1 ac hk W pv p hg hp hb=>aDm W pv p ac t (w+1) hp hb (gM hg (a6 l a4) (λr E=>by have:=af r E;have:=aj.o;have:=a5.o;omega)))) Q B a4 (a7.r a4) a9 (show c.heap.size<l.heap.size from (aGq.1 a9).1);have f8:=x4 g c 0 _ _ D;have e8:g ⟨c,0,J⟩=M (Y Z s.G):=y6 _ _ 0 _ _ _ D;have e3:g ⟨c,3,J⟩=M (O q e u):=y6 _ _ 3 _ _ _ D;have ct:=a6 g am;clear X ab D Q x ap aq a9 a4 B bo bp aa;go_wp2_with (refine z6 c #[s.G,s.H,O (M ⟨gq,0,J⟩) n f,O q e u] (y7 c _) ?_;rw[be.o]);rw[bf.o];refine DE.m ?_;rintro v k ⟨v',rfl,P,S,az⟩;obtain⟨i,j,rfl,ax⟩:=P.vform;obtain⟨m,U⟩:∃ m,(s.F.filter λac=>!fD t ac).length=m:=⟨_,rfl⟩;rw[U] at P az ax ⊢;have br:m<=e:=by rw[<- U,<- ae.o];exact aIb _ _
 have bu:=aj.o;have bq:=a5.o;have bt:=ah.o;have V:=af.o;have R:k.heap[c.heap.size]?=M (zt #[t,s.H,O (M ⟨gq,0,J⟩) n f,O q e u] 34 (0,0)):=(S.block _ ah (λv=>by have:=V _ v.symm;omega)).trans b3;have f3:=x4 k c 3 _ _ R;have k3:k ⟨c,3,J⟩=M (O q e u):=y6 _ _ 3 _ _ _ R;obtain⟨d,y⟩:∃ d,k.setCell ⟨c,3,J⟩ (O i m j)=d:=⟨_,rfl⟩;have C:d.heap[c.heap.size]?=M (zt #[t,s.H,O (M ⟨gq,0,J⟩) n f,O i m j] 34 (0,0)):=y▸x6 k c 3 _ _ _ R;obtain⟨b4,bh⟩:=zr (y▸P.kept (aN k c 3 (O i m j)) (aHv ..)) (show d7 w d from y▸(bk.gr S (λb1 hk=>by have:=V b1 hk;have:=K.size;omega)).se (b:=c) (o:=3) bj.size _);have hold:∀ b,b<=w.heap.size+1+1->d.heap[b]?=z.heap[b]?:=λb hb=>by
  rw[<- y,x7 k ⟨c,3,J⟩ b _ (by show b≠c;omega),S.block b (by have:=an.size;omega) (λv=>by have:=V b v.symm;omega),an.block b (by omega)]
 have h:=(hold (w+1+1) (aGi _)).trans (bl z (b8 z));have a3:d ⟨w,3,J⟩=M (O ba e bc):=by
  obtain⟨_,_,_,N⟩:=ag z (b8 z);rw[<- N];exact aHm (a:=⟨w,3,J⟩) (hold w (by omega))
 have d0:d ⟨c,0,J⟩=M (Y Z t):=y6 _ _ 0 _ _ _ C;have d1:d ⟨c,1,J⟩=M (Y Z s.H):=y6 _ _ 1 _ _ _ C;have d2:d ⟨c,2,J⟩=M (O (M ⟨gq,0,J⟩) n f):=y6 _ _ 2 _ _ _ C;have d3:d ⟨c,3,J⟩=M (O i m j):=y6 _ _ 3 _ _ _ C;have z0:d ⟨w+1+1,0,J⟩=M (Y Z 0):=y6 _ _ 0 _ _ _ h;have z1:d ⟨w+1+1,1,J⟩=M (Y Z 0):=y6 _ _ 1 _ _ _ h;have z2:d ⟨w+1+1,2,J⟩=M (O J 0 0):=y6 _ _ 2 _ _ _ h;have z3:d ⟨w+1+1,3,J⟩=M (O J 0 0):=y6 _ _ 3 _ _ _ h;have y0:=x4 d (w+1+1) 0 _ _ h;have y1:=x4 d (w+1+1) 1 _ _ h;have y2:=x4 d (w+1+1) 2 _ _ h;have y3:=x4 d (w+1+1) 3 _ _ h;have n1:w.heap.size+1+1≠c.heap.size:=by omega
 have n2:w.heap.size+1+1≠w.heap.size:=by omega
 have bv:IntKind.i64.wrap ((e:Int)-(m:Int))=(e:Int)-(m:Int):=by rw[IntKind.wrap_i64];omega
 obtain⟨bd,bm,HM⟩:=zq y h U;clear y C h hold R P S az ax U V bq;go_wp2_with fail;rw[bd.o];clear k3 f3
 go_region_held3 (λH=>(H ⟨c,0,J⟩=M (Y Z t)/\H ⟨c,1,J⟩=M (Y Z s.H)/\H ⟨c,2,J⟩=M (O (M ⟨gq,0,J⟩) n f)/\H ⟨c,3,J⟩=M (O i m j)/\H ⟨w,3,J⟩=M (O ba e bc)))
  (go_keep) (fail)
 have H:=b4.kept (vP d (w+1+1) (Y Z t) (Y Z s.H) (O (M ⟨gq,0,J⟩) n f) (O i m j)) (aGc _ (aHv ..));have ar:=(((bh.se (b:=w+1+1) (o:=0) (by omega) (Y Z t)).se (b:=w+1+1) (o:=1) (by omega) (Y Z s.H)).se (b:=w+1+1) (o:=2) (by omega) (O (M ⟨gq,0,J⟩) n f)).se (b:=w+1+1) (o:=3) (by omega) (O i m j);obtain⟨b5,bi,b2,bb⟩:=zp (H.e (b8 _).dr) ar.dr (Cs (a0:=Y Z t) (a1:=Y Z s.H) (a2:=O (M ⟨gq,0,J⟩) n f) (a3:=(O i m j)) bm) (by rw[HR.o];unfold iX;rw[HM.o]:eZ s t=(xM s t,(e:Int)-(m:Int),0));clear H ar;go_wp2_with fail;exact v6 (bC (u1:=5) (u2:=6) rfl _ _ (w+1+1) 34 #[t,s.H,O (M ⟨gq,0,J⟩) n f,O i m j] (0,0) _ rfl b2 underlying34 rfl size34) rfl (nP (s:=xM s t) bb (.inl (b5.low (aGi _) (λr E=>by cases E))) bi)
theorem aEw (w:y4) (b a:y5) (s:aG) (t:Int) (d:aK w b s.K) (hb:aS w a s.F) :
  y8 prog 49 #[.agg #[s.G,s.H,b,a],t] w (dF w (eZ s t)):=by
 by_cases c:aI s=0
 ·by_cases e:0<=t/\t<=48
  ·by_cases f:t<s.G
   ·exact aDl w b a s t d hb c e f
   exact aDk w b a s t d hb c e f
  exact aBb w b a s t d hb c e
 exact aEv w b a s t d hb c
theorem cH.clear {ex:List Nat} {B:Nat} {W:y4} {u v:y5} {l:List Queue} {b:List aH} (a:cH ex B W u v l b):cH ex B W u (O J 0 0) l []:=by
 obtain⟨c,cap,rfl,e,f,g,p,j,n,i,q,h,s,r,k⟩:=a;exact⟨c,cap,rfl,e,f,g,by simp,j,n,i,λo a=>(by cases a),h,⟨[],aGQ _ _ _ _,⟨rfl,λd d o a=>(by simp at a)⟩,λd a=>(by cases a),λc a=>(by cases a)⟩,λm a=>(by cases a),k.less (λm m=>aHW _ m)⟩
theorem aCl {t:Int} {b:List aH} {k:Nat} {x:aH} (c:b[k]?=M x):iX t (b.take (k+1))=if fD t x=true then iX t (b.take k) else iX t (b.take k)++[x]:=by
 unfold iX;rw[aHZ,c,List.filter_append];by_cases a:fD t x=true
 ·rw[c7 a];simp[a]
 rw[d8 a];simp[a]
theorem aBc (w:y4) (c a:y5) (s:aG) (t:Int) (e:aK w c s.K) (hb:aS w a s.F) (d:aI s≠0) :
  y8 prog 62 #[.agg #[s.G,s.H,c,a],t] w (dF w (eZ s t)):=by
 have o:=I (λ(W:y4) (j:d7 w W)=>cO W c a s (e.m j) (hb.m j));obtain⟨F,k,g,r,i,y⟩:=dW w s c a;obtain⟨h,x,u⟩:=zq g i k;clear g r i k y;have q:=I (yR (t:=t) d);have C:=neT d;obtain⟨D,qc,rfl,_,_,_⟩:=e.i;obtain⟨z,A,rfl,_,_,_⟩:=hb.i;clear e hb;clear d;generalize aI s=E at *;generalize s.K.length=n at *;generalize s.F.length=G at *;go_enter func62,ntmps62;go_wp2_with fail;rw[u.o];refine(o _ h).m ?_;rintro B m ⟨rfl,l⟩;obtain⟨f,v⟩:=zr (x m (l)) ((h.r (l)).sr (b:=w+1) (by omega) #[Y Z 0,Y Z 0,O J 0 0,O J 0 0]);have p:=I (x5 m (w+1) _ #[Y Z 0,Y Z 0,O J 0 0,O J 0 0] _ _ f);go_wp2_with (refine z6 (w+1) #[Y Z 0,Y Z 0,O J 0 0,O J 0 0] f ?_);exact v6 (bC (u1:=5) (u2:=6) rfl _ _ (w+1) 34 #[Y Z 0,Y Z 0,O J 0 0,O J 0 0] (0,0) _ rfl p underlying34 rfl size34) rfl (cV q v)
theorem Vm (w:y4) (c a:y5) (s:aG) (t:Int) (e:aK w c s.K) (hb:aS w a s.F) (d:aI s=0) (C:¬ (0<=t/\t<=48)) :
  y8 prog 62 #[.agg #[s.G,s.H,c,a],t] w (dF w (eZ s t)):=by
 have h:=I (λ(W:y4) (o:d7 w W)=>cO W c a s (e.m o) (hb.m o));obtain⟨R,p,k,j,m,D⟩:=dW w s c a;obtain⟨l,v,z,x⟩:=zp k j m p;clear k j m p D;obtain⟨u,A⟩:=zr (sE d C) (λ(W:y4)=>dH t 0 48 W (by omega));rw[d] at h;obtain⟨P,qc,rfl,_,_,_⟩:=e.i;obtain⟨L,N,rfl,_,_,_⟩:=hb.i;clear e hb;clear d;generalize s.K.length=n at *;generalize s.F.length=S at *;go_enter func62,ntmps62;go_wp2_with fail;rw[x.o];refine(h _ l).m ?_;rintro B g ⟨rfl,f⟩;obtain⟨F,G,H,K⟩:=v g f;have q:=I f;clear f;go_wp2_with fail;refine(A _).m ?_;rintro B Q ⟨rfl,E⟩;obtain rfl:=E.symm;obtain⟨i,y⟩:=zr (z g (q.o)) ((l.r (q.o)).sr (b:=w+1) (by omega) #[Y Z 0,Y Z 0,O J 0 0,O J 0 0]);have r:=I (x5 g (w+1) _ #[Y Z 0,Y Z 0,O J 0 0,O J 0 0] _ _ i);go_wp2_with (refine z6 (w+1) #[Y Z 0,Y Z 0,O J 0 0,O J 0 0] i ?_);exact v6 (bC (u1:=5) (u2:=6) rfl _ _ (w+1) 34 #[Y Z 0,Y Z 0,O J 0 0,O J 0 0] (0,0) _ rfl r underlying34 rfl size34) rfl (cV u y)
theorem Zw (w:y4) (c a:y5) (s:aG) (t:Int) (f:aK w c s.K) (hb:aS w a s.F) (d:aI s=0) (e:0<=t/\t<=48) (q:t<s.G) :
  y8 prog 62 #[.agg #[s.G,s.H,c,a],t] w (dF w (eZ s t)):=by
 have i:=I (λ(W:y4) (p:d7 w W)=>cO W c a s (f.m p) (hb.m p));obtain⟨T,r,l,k,o,E⟩:=dW w s c a;obtain⟨m,y,B,z⟩:=zp l k o r;clear l k o r E;obtain⟨x,C⟩:=zr (vB d e q) (λ(W:y4)=>bI t 0 48 W e.1 e.2);rw[d] at i;obtain⟨Q,qc,rfl,_,_,_⟩:=f.i;obtain⟨N,P,rfl,_,_,_⟩:=hb.i;clear f hb;clear d;generalize s.K.length=n at *;generalize s.F.length=U at *;go_enter func62,ntmps62;go_wp2_with fail;rw[z.o];refine(i _ m).m ?_;rintro D h ⟨rfl,g⟩;obtain⟨G,H,K,L⟩:=y h g;have R:=deT q;have u:=I g;clear g;go_wp2_with fail;refine(C _).m ?_;rintro D S ⟨rfl,F⟩;obtain rfl:=F.symm;obtain⟨j,A⟩:=zr (B h (u.o)) ((m.r (u.o)).sr (b:=w+1) (by omega) #[Y Z 0,Y Z 0,O J 0 0,O J 0 0]);have v:=I (x5 h (w+1) _ #[Y Z 0,Y Z 0,O J 0 0,O J 0 0] _ _ j);go_wp2_with (refine z6 (w+1) #[Y Z 0,Y Z 0,O J 0 0,O J 0 0] j ?_);exact v6 (bC (u1:=5) (u2:=6) rfl _ _ (w+1) 34 #[Y Z 0,Y Z 0,O J 0 0,O J 0 0] (0,0) _ rfl v underlying34 rfl size34) rfl (cV x A)
theorem Zv (w:y4) (tv H:y5) (s:aG) (t:Int) (hl:aK w tv s.K) (hb:aS w H s.F) (h0:aI s=0) (h1:0<=t/\t<=48) (h2:¬ t<s.G) :
  y8 prog 62 #[.agg #[s.G,s.H,tv,H],t] w (dF w (eZ s t)):=by
 have b2:=I (λ(W:y4) (y:d7 w W)=>cO W tv H s (hl.m y) (hb.m y));obtain⟨wb,bt,HX,b5,ag,br⟩:=dW w s tv H;obtain⟨S,b4,cg,cf,a7⟩:=zm HX b5 ag bt br;clear HX b5 ag bt br;obtain⟨HR,WI⟩:=zr (tP h0 h1 h2) (λ(W:y4)=>bI t 0 48 W h1.1 h1.2);rw[h0] at b2;obtain⟨ok,ct,av⟩:=eR h0;obtain⟨OW,c9,c8⟩:=zq (λ(W:y4) (y:d7 w W)=>qX W tv H s (hl.m y) (hb.m y) ok ct av) (tY av) hb;obtain⟨qa,qc,rfl,_,_,_⟩:=hl.i;obtain⟨ch,bc,rfl,_,_,_⟩:=hb.i;clear hl hb;clear h0 ok av;go_enter func62,ntmps62;go_wp2_with fail;rw[cf.o];refine(b2 _ S).m ?_;rintro P w2 ⟨rfl,j⟩;obtain⟨a0,a1,a2,a3⟩:=b4 w2 j;have t3:=deF (show ¬ t<s.G by omega);obtain⟨z,ao⟩:=zr (S.r j) j;clear j;go_wp2_with fail;refine(WI _).m ?_;rintro P w3 ⟨rfl,hw⟩;obtain rfl:=hw.symm;go_wp2_with fail;refine(OW _ z).m ?_;rintro P a ⟨u7,v7,rfl,ai,bv⟩;clear a0 a1 a2 a3;obtain⟨gq,n,rfl,bm,aw⟩:=ai.uform;obtain⟨ra,rc,rfl,cz⟩:=ai.vform;obtain⟨A,aj⟩:∃ A,(a.alloc (zt #[Y Z 0,Y Z 0,O J 0 0,O J 0 0] 34)).setRow a #[s.G,s.H,O (M ⟨gq,0,J⟩) s.K.length n,O ra s.F.length rc]=A:=⟨_,rfl⟩;have b1:d7 a A:=aj▸((b8 a).a _).sr (b:=a) (aGi _) _;have a8:A.heap[a.heap.size]?=M (zt #[s.G,s.H,O (M ⟨gq,0,J⟩) s.K.length n,O ra s.F.length rc] 34 (0,0)):=aj▸x5 (a.alloc _) a _ _ _ _ (y7 a _);have bd:=((((ai.under (r:=w) (by have:=z.size;have:=ao.size;have:=a7.o;omega)).under (r:=w+1) (by have:=ao.size;have:=a7.o;omega)).low (B2:=w.heap.size) z.size (λr d=>d)).box (aGi _)).e b1;obtain⟨W9,ad⟩:∃ W9,(A.setCell ⟨a,0,J⟩ (Y Z t)).setCell ⟨a,3,J⟩ (O J 0 0)=W9:=⟨_,rfl⟩;have be:=ad▸((bd.kept (aN A a 0 (Y Z t)) (aHv ..)).kept (aN _ a 3 (O J 0 0)) (aHv ..)).clear;have bi:W9.heap[a.heap.size]?=M (zt #[t,s.H,O (M ⟨gq,0,J⟩) s.K.length n,O J 0 0] 34 (0,0)):=ad▸x6 _ a 3 _ _ _ (x6 A a 0 _ _ _ a8);have ae:=ao.r bv;have bw:d7 wb W9:=ad▸((ae.r b1).se (b:=a) (o:=0) ae.size _).se (b:=a) (o:=3) ae.size _;obtain⟨p,ab,ac,a5⟩:∃ p:aG,p.G=t/\p.H=s.H/\p.K=s.K:=⟨⟨t,s.H,s.K,[]⟩,rfl,rfl,rfl⟩;have cd:Hid (Ex w wb a (O (M ⟨gq,0,J⟩) p.K.length n) p (iX t (s.F.take 0)) (O J 0 0) W9):=I ⟨by rw[ab,ac,a5];exact bi,by rw[a5];exact be,bw,ae.size⟩;have f8:=x4 A a 0 _ _ a8;have cs:=x4 A a 3 _ _ a8;have e8:A ⟨a,0,J⟩=M (Y Z s.G):=y6 _ _ 0 _ _ _ a8;have e3:A ⟨a,3,J⟩=M (O ra s.F.length rc):=y6 _ _ 3 _ _ _ a8;obtain⟨ba,bb,HT⟩:=zq aj ad (And.intro ab (And.intro ac a5));clear bv b1 a8 aj ai bd be bi bw ad bm aw cz ae ab ac a5;obtain⟨ib,cE,cF,cL,cR⟩:=s8 info80;obtain⟨d1,d2,cu,_,_,_,bj⟩:=jH c8;cases cu;have bR:=I bj;clear bj;generalize bl:s.F.length=G at *;have ap:=I bl;clear bl;go_wp2_with (refine z6 a #[s.G,s.H,O (M ⟨gq,0,J⟩) s.K.length n,O ra G rc] (y7 a _) ?_;rw[ba.o])
 rw[bb.o];clear f8 cs e8 e3;generalize hX:a.heap.size=X at *;clear hX ba bb;go_loopw [9] (λc wr=>∃ (k:Nat) (v:y5),c=Y Z k/\k<=G/\Hid (Ex w wb X (O (M ⟨gq,0,J⟩) p.K.length n) p (iX t (s.F.take k)) v wr)) (λc _=>G-(intOf c).toNat);exact⟨0,_,rfl,by omega,cd⟩;obtain⟨k,v,rfl,hk,e⟩:=hrel;obtain⟨_,_,_,K⟩:=b4 wr e.e;have bh:X<wr.heap.size:=(aGq.1 e.box).1;have ar:=e.low;by_cases cx:k<G
 ·have cy:=z7 k G;obtain⟨m,hlen⟩:∃ m,(iX t (s.F.take k)).length=m:=⟨_,rfl⟩;have d6:m<=k:=by rw[<- hlen];exact aGR (aIb _ _) (by rw[aHB];omega)
  obtain⟨va,q,rfl,a6⟩:=e.own.vform;rw[hlen] at a6 e;obtain⟨cq,o1,bq⟩:=e.own.more (by rw[hlen];omega);rw[hlen] at o1;obtain⟨cc,ca⟩:=zr o1 bq;obtain⟨_,_,he,bm,aw⟩:=e.own.uform;cases he;obtain⟨x,l⟩:=aV (f:=s.F) (k:=k) (by rw[ap.o];exact cx);have ax:wL x:=c9 x (aGC l);obtain⟨g,i,rfl,Q,aq⟩:=bR (by omega);obtain⟨pv,H,c0,c1,c2,c3,c4,c5,c6,hp,ak⟩:=dN (kM.m w wr g _ x (S.r e.e) (aq k x l));have bf:=I (show I64 x.Id/\I64 x.P.B/\I64 x.P.D/\I64 x.P.C/\I64 x.P.E from by
   obtain⟨L,⟨N,H,rfl,⟨pv,rfl,hp,h,C,D,E⟩,hb,F⟩,_⟩:=aq k x l;exact⟨F,h,C,D,E⟩)
  obtain⟨OV,OB,b6⟩:=zq (λ(W:y4) (y:d7 wr W)=>Ow W pv H x.P x.L (hp.m y) (ak.m y)) (λ(W:y4) (y:d7 wr W)=>xD W pv H x (hp.m y) (ak.m y) ax) (aCl (t:=t) l);obtain⟨pa,pc,rfl,_,_,_⟩:=hp.i;obtain⟨ia,ic,rfl,_,_,_⟩:=ak.i;have an:=I ax;have e3:wr ⟨X,3,J⟩=M (O va m q):=y6 _ _ 3 _ _ _ e.box;have t1:=deF (show ¬ (k:Int)<0 by omega);have t2:=deF (show ¬ (G:Int)<=(k:Int) by omega);have t3:=deF (show ¬ G<=k by omega);have bk:g<wr.heap.size:=aGs Q (S.r e.e).size;have al:∀ r,(O va m q).ownBlock=M r->w.heap.size<=r/\r<wr.heap.size/\r≠X/\r≠w.heap.size/\r≠w.heap.size+1:=λr d=>⟨(a6 r d).1,(a6 r d).2,e.own.vne r d X (aHv ..),e.own.vne r d w (by simp),e.own.vne r d (w+1) (by simp)⟩;clear hp ak l ax a6 o1 bq aq;obtain⟨aa,bx,ay⟩:∃ aa bx,pP x.P x.L=(aa,bx):=⟨_,_,rfl⟩;have b3:=I (by unfold fD;rw[ay]:fD t x=decide (aa<=t));rw[ay] at OV;clear ay
  go_wp2_with fail
  go_region_held3 (λW=>(W ⟨w,3,J⟩=M (O (M ⟨g,i,J⟩) G bc)/\W ⟨g,i+k*7+1,J⟩=M (Y Z x.P.B)/\W ⟨g,i+k*7+2,J⟩=M (Y Z x.P.D)/\W ⟨g,i+k*7+3,J⟩=M (Y Z x.P.C)/\W ⟨g,i+k*7+4,J⟩=M (Y Z x.P.E)/\W ⟨g,i+k*7+5,J⟩=M (O pa x.P.A.length pc)/\W ⟨g,i+k*7+6,J⟩=M (O ia x.L.length ic)))
   (first
    | go_keep
    | (
      go_split_ands
      exact⟨l.c (by assumption),l.c (by assumption),l.c (by assumption),l.c (by assumption),l.c (by assumption),l.c (by assumption),l.c (by assumption)⟩))
   (first
    | (go_at_call 113;refine(OV _ (b8 wr).dr).m ?_;rintro P R ⟨rfl,l⟩;have h:=I ((b8 wr).dr.r l)))
  clear l;have HV:=I (e.later h);by_cases bo:aa<=t
  ·have C:=I (by rw[b6.o,c7 (by rw[b3.o,deT bo])]:iX t (s.F.take (k+1))=iX t (s.F.take k));have q1:=deF (show ¬ t<aa by omega);clear e3 c0 c1 c2 c3 c4 c5 c6 K;go_wp2;go_roundw;exact⟨k+1,_,by go_num,by omega,by rw[C.o];exact HV⟩;simp[intOf];omega
  have ce:=I (by rw[b6.o,d8 (by rw[b3.o,deF bo];simp)]:iX t (s.F.take (k+1))=iX t (s.F.take k)++[x]);have q1:=deT (show t<aa by omega);have cr:=h.c e3;have d0:=h.c K;have ci:=h.c c0;have cj:=h.c c1;have ck:=h.c c2;have cl:=h.c c3;have cm:=h.c c4;have cn:=h.c c5;have co:=h.c c6;have bg:X<R.heap.size:=aGs bh h.size;have d4:gq<R.heap.size:=aGs aw h.size;have d3:g<R.heap.size:=aGs bk h.size;have am:∀ r,(O va m q).ownBlock=M r->w.heap.size<=r/\r<R.heap.size/\r≠X/\r≠w.heap.size/\r≠w.heap.size+1:=λr d=>⟨(al r d).1,aGs (al r d).2.1 h.size,(al r d).2.2⟩;clear e3 c0 c1 c2 c3 c4 c5 c6 K bk bh al
  go_wp2_with fail;refine cN 11 (λW=>W ⟨X,3,J⟩=M (O va m q)/\W ⟨w,3,J⟩=M (O (M ⟨g,i,J⟩) G bc)/\W ⟨g,i+k*7,J⟩=M (Y Z x.Id)/\W ⟨g,i+k*7+1,J⟩=M (Y Z x.P.B)/\W ⟨g,i+k*7+2,J⟩=M (Y Z x.P.D)/\W ⟨g,i+k*7+3,J⟩=M (Y Z x.P.C)/\W ⟨g,i+k*7+4,J⟩=M (Y Z x.P.E)/\W ⟨g,i+k*7+5,J⟩=M (O pa x.P.A.length pc)/\W ⟨g,i+k*7+6,J⟩=M (O ia x.L.length ic)) (by kernel_rfl) ⟨cr,d0,ci,cj,ck,cl,cm,cn,co⟩ (λa4=>?_);refine tkT 0 ?_;refine tkT 1 ?_;refine tkT 2 ?_;refine tkT 3 ?_;refine tkT 4 ?_;refine tkT 5 ?_;refine tkT 6 ?_;refine goT 7 λT C=>?_;simp only[zA,zB,zC];go_simp;refine(OB _ (h.r (b8 R).dr)).m ?_;rintro P E ⟨V,L,g2,N,rfl,cv,cw,az,b0,j⟩
  go_wp2_with fail;have bu:d7 R E:=(b8 R).dr.r j;refine C.out _ _ ?_ (λa4=>?_)
  ·(obtain⟨k0,k1,k2,K,k4,k5,k6,k7,k8⟩:=a4;exact⟨j.c k0,j.c k1,j.c k2,j.c K,j.c k4,j.c k5,j.c k6,j.c k7,j.c k8⟩)
  clear C T;refine goT 8 λT C=>?_;simp only[zA,zB,zC];go_simp;have D:=(b8 E).a (zt #[x.Id,x.P.B,x.P.D,x.P.C,x.P.E,O (M ⟨V,0,J⟩) x.P.A.length L,O (M ⟨g2,0,J⟩) x.L.length N] 80);refine C.out _ _ ?_ (λa4=>?_)
  ·(obtain⟨k0,k1,k2,K,k4,k5,k6,k7,k8⟩:=a4;exact⟨D.c k0,D.c k1,D.c k2,D.c K,D.c k4,D.c k5,D.c k6,D.c k7,D.c k8⟩)
  clear C T;obtain⟨z,cb⟩:=zr (bu.r D) (Dg E [Y Z x.Id,Y Z x.P.B,Y Z x.P.D,Y Z x.P.C,Y Z x.P.E,O (M ⟨V,0,J⟩) x.P.A.length L,O (M ⟨g2,0,J⟩) x.L.length N] 80 rfl);have HG:=I (Ft (W:=R) (W1:=E.alloc (zt #[x.Id,x.P.B,x.P.D,x.P.C,x.P.E,O (M ⟨V,0,J⟩) x.P.A.length L,O (M ⟨g2,0,J⟩) x.L.length N] 80)) (B:=w.heap.size) (ex:=[X,w.heap.size+1,w.heap.size]) (u:=O (M ⟨gq,0,J⟩) p.K.length n) (v:=O va m q) (n1:=x.P.A.length) (n2:=x.L.length) (c1:=L) (c2:=N) (x:=x) (S.r HV.e).size cv cw (by rw[aHb];have:=Fr az an.1.1;omega) (by rw[aHb];have:=Fr b0 an.1.2;omega) (λr d=>by
   have h2:r=X\/r=w.heap.size+1\/r=w.heap.size:=by simpa using d
   have:=a7.o;omega) (λr d=>by
   have h2:gq=r:=by simpa[aHR] using d
   omega) (λr d=>(am r d).2.1))
  have bQ:=I (show fW (E.alloc (zt #[x.Id,x.P.B,x.P.D,x.P.C,x.P.E,O (M ⟨V,0,J⟩) x.P.A.length L,O (M ⟨g2,0,J⟩) x.L.length N] 80)) [Y Z x.Id,Y Z x.P.B,Y Z x.P.D,Y Z x.P.C,Y Z x.P.E,O (M ⟨V,0,J⟩) x.P.A.length L,O (M ⟨g2,0,J⟩) x.L.length N] x from ⟨_,_,rfl,⟨_,rfl,az.m ((b8 E).a _),bf.2⟩,b0.m ((b8 E).a _),bf.1⟩);clear az b0 D bu;refine goT 9 λT C=>?_;simp only[zA,zB,zC];rw[c7 (by rfl)];refine wp_append_lies _ _ _ _ (by rfl) w 80 ib _ 7 88 underlying32 cE cF cL cR rfl (by decide) (O va m q) m cq.flatten (by rfl) (aJ (aJ cc h) z) ⟨E,0,J⟩ 1 1 [Y Z x.Id,Y Z x.P.B,Y Z x.P.D,Y Z x.P.C,Y Z x.P.E,O (M ⟨V,0,J⟩) x.P.A.length L,O (M ⟨g2,0,J⟩) x.L.length N] (by rfl) (by rfl) cb (by simp[aGr]) (by omega) (by unfold o0;omega) (by omega) ((S.r HV.e).r z).size (E+1) (by simp) ?_;intro g3 ah U a9 af bp d5;have F:∀ (b:Nat) (o:Nat) (u:y5),(E.alloc (zt #[x.Id,x.P.B,x.P.D,x.P.C,x.P.E,O (M ⟨V,0,J⟩) x.P.A.length L,O (M ⟨g2,0,J⟩) x.L.length N] 80)) ⟨b,o,J⟩=M u->(b<w.heap.size\/b=w.heap.size\/b=X)->U ⟨b,o,J⟩=M u:=λb o u y hb=>gM af y (λr d P=>by
   subst P;have h2:=am r d;omega)
  refine C.out _ _ ?_ (λa4=>?_)
  ·(obtain⟨k0,k1,k2,K,k4,k5,k6,k7,k8⟩:=a4;exact⟨F _ _ _ k0 (.inr (.inr rfl)),F _ _ _ k1 (.inr (.inl rfl)),F _ _ _ k2 (.inl Q),F _ _ _ K (.inl Q),F _ _ _ k4 (.inl Q),F _ _ _ k5 (.inl Q),F _ _ _ k6 (.inl Q),F _ _ _ k7 (.inl Q),F _ _ _ k8 (.inl Q)⟩)
  clear C T;have au:U.heap[X]?=M (zt #[p.G,p.H,O (M ⟨gq,0,J⟩) p.K.length n,O va m q] 34 (0,0)):=
   (af.block X (aGs bg z.size) (λP=>(am X P.symm).2.2.1 rfl)).trans ((z.block X bg).trans HV.box)
  have f3:=x4 U X 3 _ _ au;have bn:=aN U X 3 (O (M ⟨g3,0,J⟩) (m+1) ah);have bz:=I (show Ex w wb X (O (M ⟨gq,0,J⟩) p.K.length n) p (iX t (s.F.take (k+1))) (O (M ⟨g3,0,J⟩) (m+1) ah) (U.setCell ⟨X,3,J⟩ (O (M ⟨g3,0,J⟩) (m+1) ah)) from by
   refine⟨x6 U X 3 _ _ _ au,?_,((HV.e.r z).gr af (λr d=>by have:=am r d;have:=a7.o;omega)).se ar _,ar⟩;rw[ce.o];refine(ca _ U g3 (m+1) ah _ x (h.r z) bQ an HG a9 (by rw[hlen]) af (by rw[aHb];exact bp) (λr d=>?_)).kept bn (aHv ..);have h2:r=X\/r=w.heap.size+1\/r=w.heap.size:=by simpa using d
   have:=a7.o;have:=z.size;omega)
  clear F a9 af bp au bn;refine tkT 10 ?_;refine laT λT C=>?_;simp only[zA,zB,zC];obtain⟨k0,_⟩:=a4;go_simp;refine C.out _ _ ?_;clear C T
  go_wp2;go_roundw;exact⟨k+1,_,by go_num,by omega,bz⟩;simp[intOf];omega
 obtain rfl:k=G:=by omega
 have cy:=z8 k k;have D:s.F.take k=s.F:=aHF (by rw[ap.o];omega);rw[D] at e;obtain⟨m,l⟩:∃ m,(iX t s.F).length=m:=⟨_,rfl⟩;obtain⟨va,q,rfl,a6⟩:=e.own.vform;rw[l] at a6 e;have af:m<=k:=by rw[<- l,<- ap.o];exact aIb _ _
 obtain⟨ab,ac,a5⟩:=HT.o;have h:=e.box;rw[ab,ac,a5] at h;have a9:=e.own;rw[a5] at a9;have g:=cg wr e.e;have U:=a7.o;have ar:=e.low;have V:wr ⟨X,0,J⟩=M (Y Z t):=y6 _ _ 0 _ _ _ h;have a4:wr ⟨X,1,J⟩=M (Y Z s.H):=y6 _ _ 1 _ _ _ h;have aa:wr ⟨X,2,J⟩=M (O (M ⟨gq,0,J⟩) s.K.length n):=y6 _ _ 2 _ _ _ h;have d3:wr ⟨X,3,J⟩=M (O va m q):=y6 _ _ 3 _ _ _ h;have z0:wr ⟨w+1,0,J⟩=M (Y Z 0):=y6 _ _ 0 _ _ _ g;have z1:wr ⟨w+1,1,J⟩=M (Y Z 0):=y6 _ _ 1 _ _ _ g;have z2:wr ⟨w+1,2,J⟩=M (O J 0 0):=y6 _ _ 2 _ _ _ g;have z3:wr ⟨w+1,3,J⟩=M (O J 0 0):=y6 _ _ 3 _ _ _ g;have y0:=x4 wr (w+1) 0 _ _ g;have y1:=x4 wr (w+1) 1 _ _ g;have y2:=x4 wr (w+1) 2 _ _ g;have y3:=x4 wr (w+1) 3 _ _ g;have n1:w+1≠X:=by omega
 have n2:w.heap.size+1≠w.heap.size:=by omega
 have ah:IntKind.i64.wrap ((k:Int)-(m:Int))=(k:Int)-(m:Int):=by rw[IntKind.wrap_i64];omega
 obtain⟨T,N,ag,F⟩:=zp (S.r e.e) a9 g l;clear a6 h a9 g U l D;go_wp2_with fail
 go_region_held3 (λi=>(i ⟨X,0,J⟩=M (Y Z t)/\i ⟨X,1,J⟩=M (Y Z s.H)/\i ⟨X,2,J⟩=M (O (M ⟨gq,0,J⟩) s.K.length n)/\i ⟨X,3,J⟩=M (O va m q)/\i ⟨w,3,J⟩=M (O ch k bc)))
  (go_keep) (fail)
 have i:=N.kept (vP wr (w+1) (Y Z t) (Y Z s.H) (O (M ⟨gq,0,J⟩) s.K.length n) (O va m q)) (by simp);have C:=(((T.se (b:=w+1) (o:=0) (by omega) (Y Z t)).se (b:=w+1) (o:=1) (by omega) (Y Z s.H)).se (b:=w+1) (o:=2) (by omega) (O (M ⟨gq,0,J⟩) s.K.length n)).se (b:=w+1) (o:=3) (by omega) (O va m q);obtain⟨L,R,E,Q⟩:=zp (i.e (b8 _).dr) C.dr (Cs (a0:=Y Z t) (a1:=Y Z s.H) (a2:=O (M ⟨gq,0,J⟩) s.K.length n) (a3:=O va m q) ag) (by rw[HR.o,F.o]:eZ s t=(xM s t,(k:Int)-(m:Int),0));clear i C;go_wp2_with fail;exact v6 (bC (u1:=5) (u2:=6) rfl _ _ (w+1) 34 #[t,s.H,O (M ⟨gq,0,J⟩) s.K.length n,O va m q] (0,0) _ rfl E underlying34 rfl size34) rfl (nP (s:=xM s t) Q (.inl (L.low (aGi _) (λr d=>by cases d))) R)
theorem aBd (w:y4) (b a:y5) (s:aG) (t:Int) (d:aK w b s.K) (hb:aS w a s.F) :
  y8 prog 62 #[.agg #[s.G,s.H,b,a],t] w (dF w (eZ s t)):=by
 by_cases c:aI s=0
 ·by_cases e:0<=t/\t<=48
  ·by_cases f:t<s.G
   ·exact Zw w b a s t d hb c e f
   exact Zv w b a s t d hb c e f
  exact Vm w b a s t d hb c e
 exact aBc w b a s t d hb c
theorem aBX {f g:List Run} {a b n:Int} (c:yC f a b n=(g,0)):kL f/\(0<=a/\a<b/\b<=48)/\kL g/\∀ d,d<48->sp g d=sp f d+cM a.toNat b.toNat n d:=by
 unfold yC at c;split at c
 ·rename_i i
  split at c
  ·rename_i k
   unfold aBC at c;split at c
   ·rename_i j
    have h:aY (λe=>sp f e+cM a.toNat b.toNat n e)=g:=(Prod.mk.inj c).1;subst h;exact⟨i,k.1,zO j,λd d=>gF d⟩
   exact absurd (Prod.mk.inj c).2 (by decide)
  exact absurd (Prod.mk.inj c).2 (by decide)
 exact absurd (Prod.mk.inj c).2 (by decide)
theorem Yq {g:List Run} {a b d:Int} (e:kL g) (f:0<=a/\a<b/\b<=48) (c:xL g a b=(d,0)):d=Dk (sp g) a.toNat b.toNat:=by
 unfold xL at c;rw[c7 e,c7 f] at c;exact(Prod.mk.inj c).1.symm
theorem Sk {r:aF}:∀ (b:List bK) (f:List Run) (y:Nat->Int),(∀ a,a<48->sp f a<=y a)->nA r f b=true->(∀ c∈b,1<=pN r c.Piece.toNat)->
  ∀ c∈b,∀ a,c.At.toNat<=a->a<(c.At+pL r c.Piece.toNat).toNat->pN r c.Piece.toNat<=y a
 | [],_,_,_,_,_,c,d=>by cases d
 | z::b,f,y,hy,h,hN,c,d=>by
  have C:=hN z (.head _);rw[nA] at h;split at h
  ·rename_i v
   obtain⟨t,j,g⟩:=v;obtain⟨e,k⟩:∃ e,yC f z.At (z.At+pL r z.Piece.toNat) (-(pN r z.Piece.toNat))=(e,0):=⟨_,Prod.ext rfl t⟩;rw[k] at j g h;obtain⟨p,m⟩:∃ p,xL e z.At (z.At+pL r z.Piece.toNat)=(p,0):=⟨_,Prod.ext rfl j⟩;obtain⟨A,q,s,i⟩:=aBX k;have w:=Yq s q m;simp only[m] at g;have x:∀ a,a<48->sp e a<=y a:=λa l=>by
    have n:=hy a l;have o:cM z.At.toNat (z.At+pL r z.Piece.toNat).toNat (-(pN r z.Piece.toNat)) a=-(pN r z.Piece.toNat)\/cM z.At.toNat (z.At+pL r z.Piece.toNat).toNat (-(pN r z.Piece.toNat)) a=0:=by unfold cM;split <;> simp
    rw[i a l];omega
   rcases aH1.1 d with rfl|d
   ·intro a n o;rw[w,Ks (by omega)] at g;have u:=g a n o;rw[i a (by omega),Dx n o] at u;have B:=hy a (by omega);omega
   exact Sk b e y x h (λc d=>hN c (.tail _ d)) c d
  cases h
theorem aD2 {r:aF} {f:List Run} {b:List bK} (e:dI r b=true) (q:nA r f b=true):∀ k,k<b.length->nD (sp f) (bA b k).toNat r.C.toNat (pL r (bP b k).toNat).toNat (pN r (bP b k).toNat)/\r.D.toNat<=(bA b k).toNat/\(bA b k).toNat<r.C.toNat/\0<=bA b k:=by
 have w:=e;rw[gL] at e;obtain⟨o,a,v⟩:=e;obtain⟨⟨z,A,B⟩,j⟩:=cJ o;have h:=Cm a;intro k d;obtain⟨u,i⟩:=aV (f:=b) (k:=k) d;obtain⟨l,m⟩:=iS i;have s:=a k d;have C:=s.is;have D:=s.from_;have E:=s.until_;have F:=s.fits;have G:=h k d;obtain⟨⟨y,p2⟩,p3,p4⟩:=j (bP b k).toNat (by omega);have p:∀ c∈b,1<=pN r c.Piece.toNat:=λc t=>by
  obtain⟨g,c,rfl⟩:=List.mem_iff_getElem.1 t;have n:=(iS (aGm c)).1;have x:=(a g c).is;have H:=h g c;rw[<- n];exact(j (bP b g).toNat (by omega)).2.1
 have c:=Sk b f (sp f) (λ_ _=>aGh _) q p u (aGC i);rw[<- l,<- m] at c;refine⟨⟨by omega,λg n x=>c g n (by omega)⟩,by omega,by omega,by omega⟩
def Ab (r:aF):List bK->Nat->Int
 | [],_=>0
 | x::b,t=>cM x.At.toNat (x.At+pL r x.Piece.toNat).toNat (pN r x.Piece.toNat) t+Ab r b t
theorem Ik (r:aF) (t:Nat):∀ b c,Ab r (b++c) t=Ab r b t+Ab r c t
 | [],c=>by simp[Ab]
 | x::b,c=>by
  have:=Ik r t b c;simp only[aGd,Ab];omega
theorem aD0 (a b:Nat) (n:Int) (t:Nat):cM a b (-n) t=-cM a b n t:=by unfold cM;split <;> simp
theorem Bb (x:Nat->Int):∀ n,x 0<=gV x n
 | 0=>aGh _
 | n+1=>by have:=Bb x n;unfold gV;omega
theorem Nq {r:aF} {t:Nat} (k:t<48):∀ (b:List bK) (f:List Run),nA r f b=true->Ab r b t=0\/Ab r b t<=sp f t
 | [],f,_=>.inl rfl
 | z::b,f,h=>by
  rw[nA] at h;split at h
  ·rename_i s
   obtain⟨p,e,a⟩:=s;obtain⟨c,i⟩:∃ c,yC f z.At (z.At+pL r z.Piece.toNat) (-(pN r z.Piece.toNat))=(c,0):=⟨_,Prod.ext rfl p⟩;rw[i] at e a h;obtain⟨l,j⟩:∃ l,xL c z.At (z.At+pL r z.Piece.toNat)=(l,0):=⟨_,Prod.ext rfl e⟩;obtain⟨v,m,n,o⟩:=aBX i;have u:=Yq n m j;simp only[j] at a;have q:=o t k;rw[aD0] at q;rcases Nq k b c h with g|g
   ·by_cases d:z.At.toNat<=t/\t<(z.At+pL r z.Piece.toNat).toNat
    ·rw[u,Ks (by omega)] at a;have w:=a t d.1 d.2;right;simp only[Ab];omega
    left;simp only[Ab];rw[g,qZ d];rfl
   right;simp only[Ab];omega
  cases h
theorem Ii {x:aH} (d:bO x.P) (c:∀ k,k<x.L.length->gU x.P x.L k) (t:Nat):∀ k,k<=x.L.length->gR x k t=Ab x.P (x.L.take k) t
 | 0,_=>by simp[gR,Ab]
 | k+1,hk=>by
  have j:=Ii d c t k (by omega);obtain⟨a,e⟩:=aV (f:=x.L) (k:=k) (by omega);obtain⟨g,h⟩:=iS e;have b:=c k (by omega);obtain⟨⟨l,_⟩,_⟩:=(cJ d).2 (bP x.L k).toNat (by have:=b.low;have:=b.is;omega);have i:=b.at0;show gR x k t+cM _ _ _ t=_;rw[j,aHZ,e,Ik];rw[g] at l ⊢;rw[h] at i ⊢;show _=_+(cM _ _ _ t+0);rw[show (a.At+pL x.P a.Piece.toNat).toNat=a.At.toNat+(pL x.P a.Piece.toNat).toNat by omega];omega
theorem Qr {l:List Queue} {x:aH} (a:bU l x) (t:Nat):dX x t=Ab x.P x.L t:=by
 have:=Ii a.req (λc b=>(a.bites c b).1) t x.L.length (aGi _);rw[List.take_length] at this;exact this
theorem Yd {g:Nat->Int}:∀ (e:List Nat),∀ b∈e,pQ g e<=g b
 | [],b,d=>by cases d
 | j::e,b,d=>by
  have l:∀ (e:List Nat) (c:Int),e.foldl (λa b=>min a (g b)) c<=c/\∀ b∈e,e.foldl (λa b=>min a (g b)) c<=g b:=by
   intro e
   induction e with
   | nil=>intro c;exact⟨aGh _,λb d=>by cases d⟩
   | cons i e k=>
    intro c;obtain⟨h,f⟩:=k (min c (g i));simp only[List.foldl_cons];refine⟨by omega,λb d=>?_⟩;rcases aH1.1 d with rfl|d
    ·omega
    exact f b d
  obtain⟨h,f⟩:=l e (g j);rcases aH1.1 d with rfl|d
  ·exact h
  exact f b d
theorem Mc {l:List Queue} {b:List aH} {q:Int} {p t:Nat} (a:under l q p=true):eQ l b q t<=bE l b p t:=
 Yd (g:=λc=>bE l b c t) _ p (Fl.2 a)
theorem As {s:aG} (b:aI s=0):oH s.K s.F s.G.toNat:=by
 obtain⟨_,a⟩:=bS b;apply Classical.byContradiction;intro c;rw[aES c] at a;cases a
theorem Ct {s:aG} (a:eX s.K s.F=0) (b:mV s) (c:iV (-1) s.H s.F=true) (d:s.F.any (fD s.G)=false) (e:oH s.K s.F s.G.toNat):aI s=0:=
 tR (xV a b c d) (Ao e)
theorem mD {last next:Int} {x:aH} {b:List aH}:iV last next (x::b)=true↔last<x.Id/\x.Id<next/\iV x.Id next b=true:=by
 rw[iV,Bool.and_eq_true,Bool.and_eq_true,decide_eq_true_iff,decide_eq_true_iff,and_assoc]
theorem aEc {next:Int}:∀ {b:List aH} {a c:Int},a<=c->iV c next b=true->iV a next b=true
 | [],_,_,_,_=>rfl
 | x::b,a,c,h,h1=>by
  obtain⟨f,d,e⟩:=mD.1 h1;exact mD.2 ⟨by omega,d,e⟩
theorem Yx {next:Int} {b c:List aH} (d:c.Sublist b):∀ {last:Int},iV last next b=true->iV last next c=true:=by
 induction d with
 | slnil=>exact λd=>d
 | cons i _ f=>
  intro last e;obtain⟨g,h,a⟩:=mD.1 e;exact f (aEc (by omega) a)
 | cons_cons i _ f=>
  intro last e;obtain⟨g,h,a⟩:=mD.1 e;exact mD.2 ⟨g,h,f a⟩
theorem Sj {m:Int} {x:aH} (e:x.Id=m):∀ {b:List aH} {last:Int},last<m->iV last m b=true->iV last (m+1) (b++[x])=true
 | [],last,h,_=>mD.2 ⟨by omega,by omega,rfl⟩
 | y::b,last,h,h1=>by
  obtain⟨a,c,d⟩:=mD.1 h1;exact mD.2 ⟨a,by omega,Sj e c d⟩
theorem Ll {l:List Queue} {b c:List aH} (q t:Nat) (h:c.Sublist b):(∀ d∈b,bU l d)->aU l c q t<=aU l b q t:=by
 induction h with
 | slnil=>exact λ_=>aGh _
 | cons d _ f=>
  intro a;have i:=f (λg e=>a g (aGc _ e));have j:=uQ (a d (aHv ..)) t;simp only[aU];split <;> omega
 | cons_cons d _ f=>
  intro a;have i:=f (λg e=>a g (aGc _ e));simp only[aU];omega
theorem Rf {s:aG} (e:aI s=0) {b:List aH} {c:Int} (hb:b.Sublist s.F) (x:s.G<=c) (i:c<=48) (n:b.any (fD c)=false):aI ⟨c,s.H,s.K,b⟩=0:=by
 obtain⟨m,_⟩:=bS e;obtain⟨f,⟨y,z,t,u⟩,h,_⟩:=cD m;obtain⟨_,_,w,k⟩:=dV f;have hlen:=hb.length_le;have j:=As e;refine Ct (aB6 f (λa r=>hb.subset r) (by show b.length<=12;omega)) ⟨by show 0<=c;omega,i,t,u⟩ (Yx hb h) n (λa p q d o=>?_);have g:=j a (by have:c.toNat<=a:=p;omega) q d o;have v:=Ll (l:=s.K) d a hb k;show 0<=bE s.K b d a;unfold bE at g ⊢;omega
theorem aAq {s:aG} (i:aI s=0) {r:aF} {b:List bK} (n:fZ s.K r=0) (e:dI r b=true) (k:nA r (aY (eQ s.K s.F r.B)) b=true) (H:¬ r.D<s.G)
  (F:s.F.length<12) (L:s.H<1048576):aI (Mq s r b)=0:=by
 obtain⟨x,_⟩:=bS i;obtain⟨d,⟨A,B,N,P⟩,p,q⟩:=cD x;obtain⟨_,j,_,G⟩:=dV d;obtain⟨_,o,C,D⟩:=Ga n;have c:bU s.K ⟨s.H,r,b⟩:=⟨C,D,e⟩;have u:=As i;have w:eX s.K (s.F++[⟨s.H,r,b⟩])=0:=by
  rw[eY j (by omega)] at d;rw[eY j (by simp;omega)];refine lO.2 λf a=>?_;rcases aGe.1 a with a|a
  ·exact lO.1 d f a
  rw[aHf.1 a];exact⟨n,e⟩
 refine Ct w ⟨A,B,by show 0<=s.H+1;omega,by show s.H+1<=1048576;omega⟩ (Sj (last:=-1) (m:=s.H) rfl (by omega) p) ?_ (λt z f a y=>?_)
 ·show (s.F++[(⟨s.H,r,b⟩:aH)]).any (fD s.G)=false;rw[List.any_append,q];show (fD s.G ⟨s.H,r,b⟩ || false)=false;rw[Uv c,Bool.or_false];refine decide_eq_false ?_;have l:1<=b.length:=c.many.1;have v:=aD2 e k 0 l;obtain⟨_,R,_,S⟩:=v;have g:gU r b 0:=(c.bites 0 l).1;obtain⟨⟨Q,_⟩,_⟩:=(cJ o).2 (bP b 0).toNat (by have:=g.low;have:=g.is;omega);have K:gP r b 0<=gV (gP r b) (b.length-1):=Bb _ _;have h:gP r b 0=bA b 0+pL r (bP b 0).toNat:=rfl;have E:=o.range.1.1;show ¬ gV (gP r b) (b.length-1)<=s.G;omega
 show 0<=bE s.K (s.F++[⟨s.H,r,b⟩]) a t;have v:0<=bE s.K s.F a t:=u t z f a y;have h:bE s.K (s.F++[⟨s.H,r,b⟩]) a t=bE s.K s.F a t-(if under s.K r.B a=true then dX ⟨s.H,r,b⟩ t else 0):=by
  unfold bE;rw[sY];simp only[aU];omega
 rw[h];by_cases g:under s.K r.B a=true
 ·rw[c7 g,Qr c t];have E:=Mc (b:=s.F) (t:=t) g;have l:=Nq f b _ k;rw[gF f] at l;show 0<=bE s.K s.F a t-Ab r b t;omega
 rw[d8 g];omega
theorem Cl {s X:aG} {r:aF} {n:Int} (a:aW s r=(X,n,0)):nO s r=0/\s.F.length<12/\s.H<1048576/\cA (kJ s r) r≠[]/\X=Mq s r (cA (kJ s r) r)/\n=s.H:=by
 by_cases c:nO s r=0
 ·by_cases d:s.F.length=12\/s.H=1048576
  ·rw[vD c d] at a;exact absurd (show (2:Int)=0 from congrArg (λb=>b.2.2) a) (by decide)
  by_cases e:cA (kJ s r) r=[]
  ·rw[qK c d e] at a;exact absurd (show (8:Int)=0 from congrArg (λb=>b.2.2) a) (by decide)
  rw[rD c d e] at a;obtain⟨f,_⟩:=Gi c;obtain⟨h,_⟩:=bS f;obtain⟨g,⟨_,_,_,l⟩,_,_⟩:=cD h;have k:=(dV g).2.2.1;have i:¬ s.F.length=12:=λa=>d (.inl a);have j:¬ s.H=1048576:=λa=>d (.inr a);exact⟨c,by omega,by omega,e,(congrArg (λb=>b.1) a).symm,(congrArg (λb=>b.2.1) a).symm⟩
 rw[pJ c] at a;exact absurd (show nO s r=0 from congrArg (λb=>b.2.2) a) c
theorem vC {s X:aG} {r:aF} {n:Int} (h:aW s r=(X,n,0)):aI X=0/\aI s=0/\dI r (cA (kJ s r) r)=true:=by
 obtain⟨b,i,j,c,k,m⟩:=Cl h;obtain⟨a,f,g⟩:=Gi b;obtain⟨o,e,p,q,l,t⟩:=aAF b;have d:=sM e c;refine⟨?_,a,d⟩;rw[k];exact aAq a f d (Nw l e c) g i j
theorem Nv {α:Type} [Inhabited α] (l:List α) (q k:Nat) (x:α):(l.set q x).getD k default=if q=k/\q<l.length then x else l.getD k default:=by
 simp only[aGW,List.getElem?_set];by_cases a:q=k
 ·subst a;by_cases b:q<l.length
  ·rw[c7 rfl,c7 b,c7 ⟨rfl,b⟩];rfl
  rw[c7 rfl,d8 b,d8 (λa=>b a.2),aHN (by omega)]
 rw[d8 a,d8 (λb=>a b.1)]
def eF (l:List Queue) (q:Nat) (f:List Run):List Queue:=l.set q ⟨nm l q,par l q,f⟩
theorem lH (l:List Queue) (q:Nat) (f:List Run):(eF l q f).length=l.length:=by simp[eF]
theorem aAz (l:List Queue) (q:Nat) (f:List Run) (k:Nat):nm (eF l q f) k=nm l k:=by
 show ((l.set q _).getD k default).Q=_;rw[Nv];split
 ·rename_i a;rw[<- a.1]
 rfl
theorem aF1 (l:List Queue) (q:Nat) (f:List Run) (k:Nat):par (eF l q f) k=par l k:=by
 show ((l.set q _).getD k default).R=_;rw[Nv];split
 ·rename_i a;rw[<- a.1]
 rfl
theorem aFQ (l:List Queue) (q:Nat) (f:List Run) (k:Nat):cp (eF l q f) k=if q=k/\q<l.length then f else cp l k:=by
 show ((l.set q _).getD k default).Cap=_;rw[Nv];split
 ·rfl
 rfl
theorem rV {l:List Queue} {q:Nat} {f:List Run} {x:aH}:bU (eF l q f) x↔bU l x:=
 ⟨λa=>⟨a.q0,by have:=a.q1;rwa [lH] at this,a.meets⟩,λa=>⟨a.q0,by rw[lH];exact a.q1,a.meets⟩⟩
theorem Zn (l:List Queue) (q:Nat) (f:List Run) (s:ByteArray):∀ a,wO (eF l q f) a s=wO l a s
 | 0=>rfl
 | a+1=>by
  have b:wO (eF l q f) a=wO l a:=funext λs=>Zn l q f s a;simp only[wO,aAz,b]
theorem Bu {l:List Queue} {q:Nat} {f:List Run} (a:aT l=0) (m:eB f):aT (eF l q f)=0:=by
 have n:=gG a;unfold aT at a ⊢;have d:p2 (eF l q f)=p2 l:=funext λb=>by unfold p2;rw[aAz]
 have e:p3 (eF l q f)=p3 l:=funext λb=>by unfold p3;rw[aAz,Zn]
 have g:p4 (eF l q f)=p4 l:=funext λb=>by unfold p4;rw[aF1]
 have h:(List.range l.length).any (p5 (eF l q f))=false:=by
  rw[aGU];intro b c;have c:=aGN.1 c;unfold p5;rw[aFQ];split
  ·simpa using m
  simpa using n.caps b c
 rw[lH,d,e,g,h];split at a
 ·cases a
 rename_i c
 rw[d8 c];split at a
 ·cases a
 rename_i i
 rw[d8 i];split at a
 ·cases a
 rename_i j
 rw[d8 j];split at a
 ·cases a
 rename_i k
 rw[d8 k];rfl
theorem Li {l:List Queue} {q:Nat} {f:List Run} (a:aT l=0) (b:eB f):cQ (eF l q f):=gG (Bu a b)
def oN (p:Nat->Bool):Nat->Nat
 | 0=>0
 | k+1=>if p k=true then k else oN p k
theorem Yt (p:Nat->Bool):∀ n,0<n->oN p n<n
 | k+1,_=>by
  simp only[oN];split
  ·omega
  rcases aIc k with rfl|a
  ·exact Nat.zero_lt_one
  have:=Yt p k a;omega
theorem Yu {p:Nat->Bool}:∀ {n k:Nat},k<n->p k=true->p (oN p n)=true
 | n+1,k,hk,h=>by
  simp only[oN];split
  ·assumption
  rename_i b
  have:k≠n:=λa=>b (a▸h);exact Yu (n:=n) (k:=k) (by omega) h
theorem uB {p:Nat->Bool}:∀ {n m:Nat},m<=n->(∀ a,m<=a->a<n->p a=false)->oN p n=oN p m
 | 0,m,c,_=>by
           have:m=0:=by omega
           rw[this]
 | n+1,m,c,hp=>by
  rcases aGD n m with b|b
  ·have:m=n+1:=by omega
   rw[this]
  simp only[oN];rw[d8 (by rw[hp n b (Nat.lt_succ_self n)];exact Bool.false_ne_true)];exact uB b λa d e=>hp a d (by omega)
noncomputable def Yy (l:List Queue) (t q:Nat) (x:aH):Bool:=under l x.P.B (q:Int) && decide (0<dX x t)
noncomputable def No (l:List Queue) (b:List aH) (t q k:Nat):Bool:=Yy l t q (b.getD k default)
noncomputable def qB (l:List Queue) (b:List aH) (t q:Nat):Nat:=oN (No l b t q) b.length
theorem zM {l:List Queue} {b:List aH} {t q k:Nat} {x:aH} (a:b[k]?=M x):No l b t q k=Yy l t q x:=by
 unfold No;rw[aGW,a];rfl
theorem Qt {l:List Queue} {q t:Nat}:∀ {b:List aH},(∀ x∈b,bU l x)->0<aU l b q t->∃ (k:Nat) (x:aH),b[k]?=M x/\Yy l t q x=true
 | [],_,h=>by simp[aU] at h
 | x::b,hb,h=>by
  by_cases a:Yy l t q x=true
  ·exact⟨0,x,rfl,a⟩
  have f:(if under l x.P.B q=true then dX x t else 0)<=0:=by
   split
   ·rename_i c
    unfold Yy at a;rw[c,Bool.true_and,decide_eq_true_iff] at a;omega
   exact aGh _
  simp only[aU] at h;obtain⟨k,d,e,c⟩:=Qt (λd c=>hb d (aGc _ c)) (by omega:0<aU l b q t);exact⟨k+1,d,by simpa using e,c⟩
theorem Mm {l:List Queue} {b:List aH} {f t q:Nat} (n:cQ l) (hb:∀ a∈b,bU l a) (e:pC l b f t q):∃ a,b[qB l b t q]?=M a/\Yy l t q a=true:=by
 obtain⟨_,_,j,i,_,_⟩:=e;have p:=zQ n j t;unfold bE at i;obtain⟨k,a,c,m⟩:=Qt hb (by omega:0<aU l b q t);have h:=(aGw.1 c).1;have g:No l b t q (qB l b t q)=true:=Yu h (by rw[zM c];exact m);obtain⟨o,d⟩:=aV (f:=b) (k:=qB l b t q) (Yt _ _ (by omega));exact⟨o,d,by rw[<- zM d];exact g⟩
noncomputable def Cy (l:List Queue) (c:Nat):Nat->List aH->List aH->List aH × List aH
 | 0,b,a=>(b,a)
 | n+1,b,a=>if(lZ l b c).2.2=true then Cy l c n (b.eraseIdx (qB l b (lZ l b c).1.toNat (lZ l b c).2.1.toNat)) (a++[b.getD (qB l b (lZ l b c).1.toNat (lZ l b c).2.1.toNat) default]) else(b,a)
noncomputable def Xp (l:List Queue) (c:Nat) (b:List aH):List aH × List aH:=Cy l c b.length b []
theorem Cx {l:List Queue} {c:Nat} {b a:List aH} (d:(lZ l b c).2.2=false):∀ n,Cy l c n b a=(b,a)
 | 0=>rfl
 | n+1=>by rw[Cy,d8 (by rw[d];exact Bool.false_ne_true)]
theorem Md {l:List Queue} {c t q:Nat} {b a:List aH} {x:aH} (e:pC l b c t q) (d:b[qB l b t q]?=M x):Cy l c b.length b a=Cy l c (b.eraseIdx (qB l b t q)).length (b.eraseIdx (qB l b t q)) (a++[x]):=by
 have f:=(aGw.1 d).1;obtain⟨n,h⟩:∃ n,b.length=n+1:=⟨b.length-1,by omega⟩;have g:(b.eraseIdx (qB l b t q)).length=n:=by rw[aId f];omega
 rw[g,h,Cy,yP e,c7 rfl];simp only[Int.toNat_natCast];rw[aGW,d];rfl
def aFC (l:List Queue) (b:List aH) (c:Nat) (x:aH):Prop:=∃ a d,c<=a/\a<48/\d<l.length/\bE l b d a<0/\Yy l a d x=true
theorem Mj {α:Type}:∀ {b:List α} {k:Nat} {x:α},b[k]?=M x->(x::b.eraseIdx k).Perm b
 | y::b,0,x,h=>by
  have:y=x:=by simpa using h
  rw[this];exact aIe.refl _
 | y::b,k+1,x,h=>by
  rw[List.eraseIdx_cons_succ];exact(aIe.swap ..).trans (aIe.cons _ (Mj (by simpa using h)))
theorem Rn {α:Type} {b a:List α} {k:Nat} {x:α} (c:b[k]?=M x):(b.eraseIdx k++(a++[x])).Perm (b++a):=by
 have d:(b.eraseIdx k++(a++[x])).Perm (x::(b.eraseIdx k++a)):=by
  rw[<- aIf];exact List.perm_append_comm
 exact d.trans (by
  have:=aIe.append_right a (Mj c);simpa using this)
theorem aE7 {l:List Queue} {b c:List aH} (q t:Nat) (a:c.Sublist b) (hb:∀ d∈b,bU l d):bE l b q t<=bE l c q t:=by
 have:=Ll (l:=l) q t a hb;unfold bE;omega
theorem aEZ {l:List Queue} {c:Nat} (v:cQ l):∀ (n:Nat) (b a:List aH),b.length=n->(∀ d∈b,bU l d)->
  oH l (Cy l c n b a).1 c/\(Cy l c n b a).1.Sublist b/\((Cy l c n b a).1++(Cy l c n b a).2).Perm (b++a)/\∀ d∈(Cy l c n b a).2,d∈a\/aFC l b c d:=by
 intro n
 induction n with
 | zero=>
  intro b a k h;have g:b=[]:=aGv k;subst g;refine⟨λf r s j i=>?_,aIg.refl _,aIe.refl _,λd e=>.inl e⟩;have:=zQ v i f;show 0<=bE l [] j f;unfold bE;simp only[aU];omega
 | succ n G=>
  intro b a k h;by_cases j:oH l b c
  ·rw[Cx (Ao j)];exact⟨j,aIg.refl _,aIe.refl _,λd e=>.inl e⟩
  obtain⟨f,i,m⟩:=zG j;obtain⟨d,e,E⟩:=Mm v h m;have F:=(aGw.1 e).1;have t:(b.eraseIdx (qB l b f i)).length=n:=by rw[aId F];omega
  have u:=Md (a:=a) m e;rw[k,t] at u;rw[u];have o:(b.eraseIdx (qB l b f i)).Sublist b:=aIh ..;obtain⟨y,z,A,B⟩:=G (b.eraseIdx (qB l b f i)) (a++[d]) t (λq p=>h q (o.subset p));refine⟨y,z.trans o,A.trans (Rn e),λq p=>?_⟩;obtain⟨H,K,L,N,_⟩:=m;rcases B q p with g|⟨x,w,r,s,C,P,D⟩
  ·rcases aGe.1 g with g|g
   ·exact .inl g
   rw[aHf.1 g];exact .inr ⟨f,i,H,K,L,N,E⟩
  exact .inr ⟨x,w,r,s,C,by have:=aE7 w x o h;omega,D⟩
def uE (x:aH):List aH->List aH
 | []=>[x]
 | y::b=>if y.Id<x.Id then y::uE x b else x::y::b
def iY (a:List aH):List aH:=a.foldl (λs b=>uE b s) []
theorem Ls (a:List aH) (x:aH):iY (a++[x])=uE x (iY a):=by unfold iY;rw[List.foldl_append];rfl
theorem nJ (x:aH):∀ b,(uE x b).Perm (x::b)
 | []=>aIe.refl _
 | y::b=>by
  simp only[uE];split
  ·exact(aIe.cons _ (nJ x b)).trans (aIe.swap ..)
  exact aIe.refl _
theorem Sq:∀ (a s:List aH),(a.foldl (λs x=>uE x s) s).Perm (s++a)
 | [],s=>by rw[aG9];exact aIe.refl _
 | x::a,s=>by
  refine(Sq a (uE x s)).trans ?_;refine(aIe.append_right a (nJ x s)).trans ?_;show ((x::s)++a).Perm _;exact aIi.symm
theorem jS (a:List aH):(iY a).Perm a:=by
 have:=Sq a [];rwa [aH9] at this
abbrev qG (b:List aH):Prop:=b.Pairwise (λa c=>a.Id<c.Id)
theorem xP {x:aH}:∀ {b:List aH},qG b->(∀ d∈b,d.Id≠x.Id)->qG (uE x b)
 | [],_,_=>List.pairwise_singleton _ _
 | d::b,h,hn=>by
  simp only[uE];obtain⟨e,g⟩:=aIj.1 h;split
  ·rename_i f
   refine aIj.2 ⟨λc a=>?_,xP g λc a=>hn c (aGc _ a)⟩;rcases aH1.1 ((nJ x b).subset a) with rfl|a
   ·exact f
   exact e c a
  rename_i f
  have i:=hn d (aHv ..);refine aIj.2 ⟨λc a=>?_,h⟩;rcases aH1.1 a with rfl|a
  ·omega
  have:=e c a;omega
theorem Qy:∀ {a b:List aH},qG a->qG b->a.Perm b->a=b
 | [],b,_,_,h=>(aIe.nil_eq h)
 | x::a,[],_,_,h=>by have:=h.length_eq;simp at this
 | x::a,y::b,h1,h2,h=>by
  obtain⟨d,e⟩:=aIj.1 h1;obtain⟨i,j⟩:=aIj.1 h2;have c:x=y:=by
   rcases aH1.1 (h.subset (aHv ..)) with c|f
   ·exact c
   rcases aH1.1 (h.symm.subset (aHv ..)) with c|g
   ·exact c.symm
   have:=i x f;have:=d y g;omega
  subst c;rw[Qy e j ((List.perm_cons _).1 h)]
theorem Jf:∀ (a s:List aH),qG s->(s++a).Pairwise (λx b=>x.Id≠b.Id)->qG (a.foldl (λs x=>uE x s) s)
 | [],s,c,_=>c
 | x::a,s,c,hd=>by
  have e:((x::s)++a).Pairwise (λx b:aH=>x.Id≠b.Id):=(aIe.pairwise_iff (λc d=>c d.symm) aIi).1 hd;have f:(uE x s++a).Pairwise (λx b:aH=>x.Id≠b.Id):=(aIe.pairwise_iff (λc d=>c d.symm) (aIe.append_right a (nJ x s))).2 e;refine Jf a _ (xP c λb h=>?_) f;have g:=(aIj.1 (show (x::(s++a)).Pairwise (λx b:aH=>x.Id≠b.Id) from e)).1 b (aHV _ h);exact λd=>g d.symm
theorem Tv {a:List aH} (b:a.Pairwise (λc d=>c.Id≠d.Id)):qG (iY a):=Jf a [] aIk.nil (by simpa using b)
theorem uH {next:Int}:∀ {b:List aH} {last:Int},iV last next b=true↔(∀ x∈b,last<x.Id/\x.Id<next)/\qG b
 | [],last=>⟨λ_=>⟨λx d=>(by cases d),aIk.nil⟩,λ_=>rfl⟩
 | x::b,last=>by
  rw[mD,uH,show qG (x::b)↔(∀ c∈b,x.Id<c.Id)/\qG b from aIj];constructor
  ·rintro⟨h1,h2,h3,h4⟩;refine⟨λc a=>?_,λc a=>(h3 c a).1,h4⟩;rcases aH1.1 a with rfl|a
   ·exact⟨h1,h2⟩
   have:=h3 c a;omega
  rintro⟨h1,h2,h3⟩;exact⟨(h1 x (aHv ..)).1,(h1 x (aHv ..)).2,λc a=>⟨h2 c a,(h1 c (aGc _ a)).2⟩,h3⟩
theorem aBM {x:aH}:∀ {b:List aH} {i:Nat},InB b x.Id i->uE x b=b.take i++x::b.drop i
 | [],i,h=>by simp[uE]
 | y::b,i,⟨h0,h1,h2⟩=>by
  simp only[uE];cases i with
  | zero=>
   have:=h2 0 (aGi _) (by simp);rw[kP (x:=y) (by simp)] at this;rw[d8 (by omega)];rfl
  | succ i=>
   have:=h1 0 (by omega);rw[kP (x:=y) (by simp)] at this;rw[c7 this,aBM (i:=i) ⟨by simpa using h0,λa c=>?_,λa c d=>?_⟩]
   ·rfl
   ·have:=h1 (a+1) (by omega);simpa[qO] using this
   have:=h2 (a+1) (by omega) (by simpa using d);simpa[qO] using this
def rL (x:aF) (c:Int):aF:=⟨x.B,max x.D c,x.C,x.E,x.A⟩
noncomputable def bZ (l:List Queue) (c:Int) (b:List aH) (x:aH):List bK:=cA (sp (aY (eQ l b x.P.B))) (rL x.P c)
def vZ (c:Int) (x:aH):Bool:=x.L.any λa=>decide (a.At<c)
noncomputable def iZ (l:List Queue) (c:Int) (b:List aH) (x:aH):Bool:=vZ c x || decide (x.P.C<=max x.P.D c) || decide (bZ l c b x=[])
noncomputable def iJ (l:List Queue) (c:Int) (b:List aH) (x:aH):List aH:=uE ⟨x.Id,x.P,bZ l c b x⟩ b
noncomputable def iW (l:List Queue) (c:Int):List aH->List aH->List Int->List Int->List aH × List Int × List Int
 | [],b,m,d=>(b,m,d)
 | x::a,b,m,d=>if iZ l c b x=true then iW l c a b m (d++[x.Id]) else iW l c a (iJ l c b x) (m++[x.Id]) d
theorem Ol {l:List Queue} {c:Int} {x:aH} {a b:List aH} {m d:List Int} (e:iZ l c b x=true):iW l c (x::a) b m d=iW l c a b m (d++[x.Id]):=by rw[iW,c7 e]
theorem Bv {l:List Queue} {c:Int} {x:aH} {a b:List aH} {m d:List Int} (e:iZ l c b x=false):iW l c (x::a) b m d=iW l c a (iJ l c b x) (m++[x.Id]) d:=by rw[iW,d8 (by rw[e];exact Bool.false_ne_true)]
theorem aBP {l:List Queue} {c:Int} {b:List aH} {x:aH}:iZ l c b x=false↔vZ c x=false/\max x.P.D c<x.P.C/\bZ l c b x≠[]:=by
 unfold iZ;rw[Bool.or_eq_false_iff,Bool.or_eq_false_iff,decide_eq_false_iff_not,decide_eq_false_iff_not,Int.not_le,and_assoc]
theorem Gn {x:aF} {c:Int} (a:bO x) (b:max x.D c<x.C):bO (rL x c):=by
 obtain⟨d,m,⟨⟨g,h,f⟩,e⟩⟩:=a;exact⟨d,m,⟨⟨by show 0<=max x.D c;omega,b,f⟩,e⟩⟩
theorem Uu {x:aF} {c:Int} {b:List bK} (i:bO x) (d:dI (rL x c) b=true):dI x b=true:=by
 rw[gL] at d ⊢;obtain⟨_,f,g⟩:=d;refine⟨i,λj h=>?_,g⟩;have a:=f j h;exact⟨a.up,a.is,by have:=a.from_;have e:(rL x c).D=max x.D c:=rfl;rw[e] at this;omega,a.until_,a.fits,a.order,a.tight⟩
theorem Sd {x:aF} {c:Int} {b:List bK} (f:dI (rL x c) b=true):∀ a∈b,c<=a.At:=λa g=>by
 obtain⟨h,a⟩:=aHK.1 g;have e:=(((gL.1 f).2.1) h (aGw.1 a).1).from_;have d:(rL x c).D=max x.D c:=rfl;rw[d,(iS a).2] at e;omega
theorem Wy {l:List Queue} (q t:Nat) {b c:List aH} (a:b.Perm c):aU l b q t=aU l c q t:=by
 induction a with
 | nil=>rfl
 | cons g _ f=>simp only[aU,f]
 | swap g h b=>simp only[aU];omega
 | trans _ _ d e=>exact d.trans e
theorem Ah {x:aF} {c:Int}:∀ {b:List bK} {f:List Run},nA (rL x c) f b=true->nA x f b=true
 | [],_,_=>rfl
 | y::b,f,h=>by
  rw[nA] at h ⊢;split at h
  ·rename_i a
   exact(c7 (c:=_) (t:=nA x _ b) (e:=false) a).trans (Ah h)
  cases h
theorem wA {c next:Int} {l:List Queue} {b:List aH} {x:aH} (s:aI ⟨c,next,l,b⟩=0) (e:bU l x) (N:0<=x.Id/\x.Id<next) (F:∀ a∈b,a.Id≠x.Id) (a0:b.length<12) (K:iZ l c b x=false) :
  aI ⟨c,next,l,iJ l c b x⟩=0/\bU l ⟨x.Id,x.P,bZ l c b x⟩/\∀ a∈bZ l c b x,c<=a.At:=by
 obtain⟨_,h,y⟩:=aBP.1 K;obtain⟨G,_⟩:=bS s;obtain⟨u,⟨U,V,W,X⟩,A,B⟩:=cD G;obtain⟨ok,i,_,E⟩:=dV u;have C:=As s;have z:=Gn e.req h;obtain⟨o,S⟩:∃ o:Nat,x.P.B=o:=⟨x.P.B.toNat,by have:=e.q0;omega⟩;have R:o<l.length:=by have:=e.q1;omega
 have H:kL (aY (eQ l b x.P.B)):=by
  rw[S];exact zO λt _=>Mb ok E (by show b.length<=12;omega) R t
 have j:dI (rL x.P c) (bZ l c b x)=true:=sM z y;have L:nA x.P (aY (eQ l b x.P.B)) (bZ l c b x)=true:=Ah (Nw H z y);have g:bU l ⟨x.Id,x.P,bZ l c b x⟩:=⟨e.q0,e.q1,Uu e.req j⟩;refine⟨?_,g,Sd j⟩;have m:(iJ l c b x).Perm (⟨x.Id,x.P,bZ l c b x⟩::b):=nJ _ _;have hlen:(iJ l c b x).length=b.length+1:=m.length_eq;have k:∀ a∈iJ l c b x,a=⟨x.Id,x.P,bZ l c b x⟩\/a∈b:=λa d=>aH1.1 (m.subset d);have D:eX l (iJ l c b x)=0:=by
  rw[eY i (by omega)];have f:eX l b=0:=u;rw[eY i (by omega)] at f;refine lO.2 λa d=>?_;rcases k a d with rfl|d
  ·exact⟨Cv i e.req ⟨e.q0,e.q1⟩,g.meets⟩
  exact lO.1 f a d
 have P:iV (-1) next (iJ l c b x)=true:=by
  obtain⟨q,r⟩:=uH.1 (show iV (-1) next b=true from A);refine uH.2 ⟨λa d=>?_,xP r F⟩;rcases k a d with rfl|d
  ·exact⟨by show -1<x.Id;omega,N.2⟩
  exact q a d
 refine Ct D ⟨U,V,W,X⟩ P ?_ (λt T n f Q=>?_)
 ·show (iJ l c b x).any (fD c)=false;rw[aGU];intro a d;rcases k a d with rfl|d
  ·rw[Uv g];have w:1<=(bZ l c b x).length:=g.many.1;have v:gU x.P (bZ l c b x) 0:=(g.bites 0 w).1;obtain⟨⟨p1,_⟩,_⟩:=(cJ e.req).2 (bP (bZ l c b x) 0).toNat (by have:=v.low;have:=v.is;omega);have a2:gP x.P (bZ l c b x) 0<=gV (gP x.P (bZ l c b x)) ((bZ l c b x).length-1):=Bb _ _;have p:gP x.P (bZ l c b x) 0=bA (bZ l c b x) 0+pL x.P (bP (bZ l c b x) 0).toNat:=rfl;have a1:c<=bA (bZ l c b x) 0:=by
    obtain⟨a,d⟩:=aV w;rw[(iS d).2];exact Sd j a (aGC d)
   show ¬ (decide (gV (gP x.P (bZ l c b x)) ((bZ l c b x).length-1)<=c)=true);rw[decide_eq_true_iff];omega
  have:=aGU.1 (show b.any (fD c)=false from B) a d;exact this
 show 0<=bE l (iJ l c b x) f t;have q:0<=bE l b f t:=C t T n f Q;have p:bE l (iJ l c b x) f t=bE l b f t-(if under l x.P.B f=true then dX ⟨x.Id,x.P,bZ l c b x⟩ t else 0):=by
  unfold bE;rw[Wy f t m];simp only[aU];omega
 rw[p];by_cases h:under l x.P.B f=true
 ·rw[c7 h,Qr g t];have r:=Mc (b:=b) (t:=t) h;have v:=Nq n (bZ l c b x) _ L;rw[gF n] at v;show 0<=bE l b f t-Ab x.P (bZ l c b x) t;omega
 rw[d8 h];omega
theorem aDi {c next:Int} {l:List Queue}:∀ (a b:List aH) (m d:List Int),aI ⟨c,next,l,b⟩=0->(∀ e∈a,bU l e/\0<=e.Id/\e.Id<next)->(b++a).Pairwise (λe f=>e.Id≠f.Id)->b.length+a.length<=12->
  aI ⟨c,next,l,(iW l c a b m d).1⟩=0/\(∀ f∈b,f∈(iW l c a b m d).1)/\∃ i k:List Int,(iW l c a b m d).2.1=m++i/\(iW l c a b m d).2.2=d++k/\(i++k).Perm (a.map aH.Id)/\
   (iW l c a b m d).1.length=b.length+i.length/\(∀ e∈a,e.Id∈i->∃ f∈(iW l c a b m d).1,f.Id=e.Id/\f.P=e.P/\∀ o∈f.L,c<=o.At)/\∀ f∈(iW l c a b m d).1,f∈b\/f.Id∈i:=by
 intro a
 induction a with
 | nil=>
  intro b m d j _ _ _;exact⟨j,λf g=>g,[],[],by simp[iW],by simp[iW],by simp,by simp[iW],λe A=>(by cases A),λf g=>.inl g⟩
 | cons e a F=>
  intro b m d j B H G;have R:b.length+(a.length+1)<=12:=by simpa using G
  obtain⟨A,N⟩:=B e (aHv ..);have C:=λf g=>B f (aGc e g);have K:(e::(b++a)).Pairwise (λe f:aH=>e.Id≠f.Id):=(aIe.pairwise_iff (λj h=>j h.symm) aIi).1 H;obtain⟨s,D⟩:=aIj.1 K;cases z:iZ l c b e with
  | true=>
   rw[Ol z];obtain⟨t,q,i,k,u,v,r,w,x,y⟩:=F b m (d++[e.Id]) j C D (by omega);refine⟨t,q,i,e.Id::k,u,by rw[v];simp,?_,w,λf g n=>?_,y⟩
   ·rw[aHs];exact aIi.trans (aIe.cons _ r)
   rcases aH1.1 g with rfl|g
   ·obtain⟨o,p,h⟩:=aHd.1 (r.subset (aHV _ n));exact absurd h.symm (s o (aHW _ p))
   exact x f g n
  | false=>
   rw[Bv z];obtain⟨P,S,Q⟩:=wA j A N (λf g h=>s f (aHV _ g) h.symm) (by omega) z;have p:(iJ l c b e).Perm (⟨e.Id,e.P,bZ l c b e⟩::b):=nJ _ _;have L:(iJ l c b e++a).Pairwise (λe f:aH=>e.Id≠f.Id):=(aIe.pairwise_iff (λj h=>j h.symm) (aIe.append_right a p)).2 (aIj.2 ⟨s,D⟩);have E:=p.length_eq;rw[aGt] at E;obtain⟨t,q,i,k,u,v,r,w,x,y⟩:=F (iJ l c b e) (m++[e.Id]) d P C L (by omega);refine⟨t,λf g=>q f (p.symm.subset (aGc _ g)),e.Id::i,k,by rw[u];simp,v,?_,by rw[w,E,aGt];omega,λf g n=>?_,λf g=>?_⟩
   ·rw[aHs,aGd];exact aIe.cons _ r
   ·rcases aH1.1 g with rfl|g
    ·exact⟨_,q _ (p.symm.subset (aHv ..)),rfl,rfl,Q⟩
    rcases aH1.1 n with h|n
    ·exact absurd h.symm (s f (aHW _ g))
    exact x f g n
   rcases y f g with o|o
   ·rcases aH1.1 (p.subset o) with rfl|o
    ·exact .inr (aHv ..)
    exact .inl o
   exact .inr (aGc _ o)
noncomputable def kI (s:aG) (q:Nat) (f:List Run):List aH × List aH:=Xp (eF s.K q f) s.G.toNat s.F
noncomputable def lD (s:aG) (q:Nat) (f:List Run):List aH × List Int × List Int:=iW (eF s.K q f) s.G (iY (kI s q f).2) (kI s q f).1 [] []
noncomputable def qP (s:aG) (q:Nat) (f:List Run):aG:=⟨s.G,s.H,eF s.K q f,(lD s q f).1⟩
@[irreducible] noncomputable def bD (s:aG) (q:Int) (f:List Run):aG × List Int × List Int × Int:=
 if aI s≠0 then(gQ,[],[],aI s) else if¬ (0<=q/\q<s.K.length) then(gQ,[],[],6) else if¬ eB f then(gQ,[],[],1) else(qP s q.toNat f,(lD s q.toNat f).2.1,(lD s q.toNat f).2.2,0)
theorem sQ {s:aG} {q:Int} {f:List Run} (a:aI s≠0):bD s q f=(gQ,[],[],aI s):=by unfold bD;rw[c7 a]
theorem qQ {s:aG} {q:Int} {f:List Run} (a:aI s=0) (b:¬ (0<=q/\q<s.K.length)):bD s q f=(gQ,[],[],6):=by unfold bD;rw[d8 (by simp[a]),c7 b]
theorem qS {s:aG} {q:Int} {f:List Run} (a:aI s=0) (b:0<=q/\q<s.K.length) (c:¬ eB f):bD s q f=(gQ,[],[],1):=by unfold bD;rw[d8 (by simp[a]),d8 (λa=>a b),c7 c]
theorem rU {s:aG} {q:Nat} {f:List Run} (a:aI s=0) (c:q<s.K.length) (b:eB f):bD s (q:Int) f=(qP s q f,(lD s q f).2.1,(lD s q f).2.2,0):=by
 unfold bD;rw[d8 (by simp[a]),d8 (λa=>a ⟨by omega,by omega⟩),d8 (λa=>a b)];rfl
theorem Nn {b:List aH} (a:qG b):b.Pairwise (λc d=>c.Id≠d.Id):=a.imp (λa e=>by omega)
structure RelIs (s:aG) (q:Nat) (f:List Run):Prop where
 tree:aT (eF s.K q f)=0
 fits:oH (eF s.K q f) (kI s q f).1 s.G.toNat
 sub:(kI s q f).1.Sublist s.F
 perm:((kI s q f).1++(kI s q f).2).Perm s.F
 fair:∀ x∈(kI s q f).2,aFC (eF s.K q f) s.F s.G.toNat x
theorem Ug {s:aG} {q:Nat} {f:List Run} (a:aI s=0) (n:eB f):RelIs s q f:=by
 obtain⟨o,_⟩:=bS a;obtain⟨l,_,_,_⟩:=cD o;obtain⟨_,k,_,m⟩:=dV l;have g:=Bu (q:=q) k n;obtain⟨h,i,e,j⟩:=aEZ (c:=s.G.toNat) (gG g) s.F.length s.F [] rfl (λd b=>rV.2 (m d b));refine⟨g,h,i,by rw[aG9] at e;exact e,λd b=>?_⟩;rcases j d b with a|a
 ·cases a
 exact a
theorem Gb {s:aG} {q:Nat} {f:List Run} (e:aI s=0) (l:eB f):aI ⟨s.G,s.H,eF s.K q f,(kI s q f).1⟩=0:=by
 have a:=Ug (q:=q) e l;obtain⟨m,_⟩:=bS e;obtain⟨g,h,i,j⟩:=cD m;obtain⟨_,n,o,k⟩:=dV g;have hlen:=a.sub.length_le;refine Ct ?_ h (Yx a.sub i) ?_ a.fits
 ·show eX (eF s.K q f) (kI s q f).1=0;rw[eY a.tree (by omega)];refine lO.2 λd c=>?_;have b:=rV (q:=q) (f:=f).2 (k d (a.sub.subset c));exact⟨Cv a.tree b.req ⟨b.q0,b.q1⟩,b.meets⟩
 show (kI s q f).1.any (fD s.G)=false;rw[aGU];exact λd c=>aGU.1 j d (a.sub.subset c)
structure EndIs (s:aG) (q:Nat) (f:List Run):Prop where
 right:aI (qP s q f)=0
 stay:∀ y∈(kI s q f).1,y∈(lD s q f).1
 perm:((lD s q f).2.1++(lD s q f).2.2).Perm ((kI s q f).2.map aH.Id)
 len:(lD s q f).1.length=(kI s q f).1.length+(lD s q f).2.1.length
 back:∀ x∈(kI s q f).2,x.Id∈(lD s q f).2.1->∃ y∈(lD s q f).1,y.Id=x.Id/\y.P=x.P/\∀ z∈y.L,s.G<=z.At
 only:∀ y∈(lD s q f).1,y∈(kI s q f).1\/y.Id∈(lD s q f).2.1
theorem Vj {s:aG} {q:Nat} {f:List Run} (b:aI s=0) (k:eB f):(∀ a∈iY (kI s q f).2,bU (eF s.K q f) a/\0<=a.Id/\a.Id<s.H)/\((kI s q f).1++iY (kI s q f).2).Pairwise (λa p=>a.Id≠p.Id)/\(kI s q f).1.length+(iY (kI s q f).2).length=s.F.length:=by
 have e:=Ug (q:=q) b k;obtain⟨l,_⟩:=bS b;obtain⟨h,u,i,v⟩:=cD l;obtain⟨_,r,t,j⟩:=dV h;obtain⟨n,o⟩:=uH.1 i;have c:((kI s q f).1++iY (kI s q f).2).Perm s.F:=(aIe.append_left _ (jS _)).trans e.perm;refine⟨λa m=>?_,(aIe.pairwise_iff (λb g=>b g.symm) c).2 (Nn o),by have:=c.length_eq;rwa [aGb] at this⟩;have d:=c.subset (aHW _ m);have:=n a d;exact⟨rV.2 (j a d),by omega,this.2⟩
theorem Vb {s:aG} {q:Nat} {f:List Run} (b:aI s=0) (d:eB f):EndIs s q f:=by
 have B:=Ug (q:=q) b d;obtain⟨w,_⟩:=bS b;obtain⟨v,_,_,_⟩:=cD w;obtain⟨_,D,E,F⟩:=dV v;obtain⟨i,j,C⟩:=Vj (q:=q) b d;obtain⟨l,m,h,e,n,o,p,r,t,u⟩:=aDi (c:=s.G) (next:=s.H) (iY (kI s q f).2) (kI s q f).1 [] [] (Gb b d) i j (by omega);have a:(lD s q f).2.1=h:=by rw[<- aH9 h];exact n
 have k:(lD s q f).2.2=e:=by rw[<- aH9 e];exact o
 refine⟨l,m,?_,?_,λz x g=>?_,λA y=>?_⟩
 ·rw[a,k];exact p.trans ((jS _).map _)
 ·rw[a];exact r
 ·rw[a] at g;exact t z ((jS _).symm.subset x) g
 rw[a];exact u A y
theorem vU {s X:aG} {q:Int} {f:List Run} {m d:List Int} (c:bD s q f=(X,m,d,0)):aI X=0/\aI s=0/\eB f/\∃ a:Nat,q=a/\a<s.K.length/\X=qP s a f/\m=(lD s a f).2.1/\d=(lD s a f).2.2:=by
 by_cases e:aI s=0
 ·by_cases h:0<=q/\q<s.K.length
  ·obtain⟨a,rfl⟩:∃ a:Nat,q=a:=⟨q.toNat,by omega⟩;by_cases g:eB f
   ·rw[rU e (by omega) g] at c;have i:qP s a f=X:=congrArg (λb=>b.1) c;have j:(lD s a f).2.1=m:=congrArg (λb=>b.2.1) c;have k:(lD s a f).2.2=d:=congrArg (λb=>b.2.2.1) c;rw[<- i,<- j,<- k];exact⟨(Vb e g).right,e,g,a,rfl,by omega,rfl,rfl,rfl⟩
   rw[qS e h g] at c;exact absurd (show (1:Int)=0 from congrArg (λb=>b.2.2.2) c) (by decide)
  rw[qQ e h] at c;exact absurd (show (6:Int)=0 from congrArg (λb=>b.2.2.2) c) (by decide)
 rw[sQ e] at c;exact absurd (show aI s=0 from congrArg (λb=>b.2.2.2) c) e
attribute [local go_sem] Oper.semAt_some
abbrev Eo (x:aH) (b a:y5):y5:=.agg #[x.Id,x.P.B,x.P.D,x.P.C,x.P.E,b,a]
def nE (W:y4) (g o:Nat) (x:aH) (b a:y5):Prop:=
 W ⟨g,o,J⟩=M (Y Z x.Id)/\W ⟨g,o+1,J⟩=M (Y Z x.P.B)/\W ⟨g,o+2,J⟩=M (Y Z x.P.D)/\W ⟨g,o+3,J⟩=M (Y Z x.P.C)/\
  W ⟨g,o+4,J⟩=M (Y Z x.P.E)/\W ⟨g,o+5,J⟩=M b/\W ⟨g,o+6,J⟩=M a
theorem nE.keep {W W':y4} {g o:Nat} {x:aH} {e c:y5} (d:nE W g o x e c) (f:W'.heap[g]?=W.heap[g]?):nE W' g o x e c:=by
 have b:∀ o,W' ⟨g,o,J⟩=W ⟨g,o,J⟩:=λo=>aHm (a:=⟨g,o,J⟩) f;unfold nE at d ⊢;rw[b,b,b,b,b,b,b];exact d
def sU {n:Nat} (c:List (Fin n)):Prop:=∀ (a:Nat) (b:Fin n),c[a]?=M b->b.1+a+1=n
theorem sU.snoc {n:Nat} {b:List (Fin n)} {x:Fin n} (e:sU b) (g:x.1+b.length+1=n):sU (b++[x]):=by
 intro c h a;rcases aGD c b.length with d|d
 ·rw[aHI d] at a;exact e c h a
 have f:=(aGw.1 a).1;rw[aGb,List.length_singleton] at f;have:c=b.length:=by omega
 subst this;rw[aHJ (aGi _),Nat.sub_self] at a;cases a;exact g
theorem sU.mem {n:Nat} {b:List (Fin n)} {x:Fin n} (c:sU (b++[x])) {j:Nat} (e:x.1<j) (f:j<n):∃ a∈b,a.1=j:=by
 have g:=c b.length x (by simp);obtain⟨a,d⟩:∃ a,b[n-1-j]?=M a:=⟨_,aGm (by omega)⟩;have:=c (n-1-j) a (by rw[aHI (by omega)];exact d);exact⟨a,aGC d,by omega⟩
theorem sU.all {n:Nat} {xs:List (Fin n)} (c:sU xs) (e:xs.length=n) {j:Nat} (d:j<n):∃ a∈xs,a.1=j:=by
 obtain⟨a,b⟩:∃ a,xs[n-1-j]?=M a:=⟨_,aGm (by omega)⟩;have:=c (n-1-j) a b;exact⟨a,aGC b,by omega⟩
theorem aEt (n:Nat) (hn:1<=n) (y c g q cap z:Nat) (b:List aH) (C t:Nat->y5) (B:b.length=z) (a0:z<=12) (a1:z<=cap)
  (e s:List (Fin z)->y4->Prop)
  (R:∀ a x W,e a W->a.length<z->YieldAt Fence.wide (n-1) prog y #[Y Z (x.1:Int),Eo (b.getD x.1 default) (C x.1) (t x.1)] W λh d=>
   (h=zv (zx true)/\e (a++[x]) d/\bJ [c,g] W d)\/(h=zv (zx false)/\s (a++[x]) d))
  (W:y4) (l:s9 W c 32 (O (M ⟨g,q,J⟩) z cap)) (T:g<W.heap.size) (u:∀ k x,b[k]?=M x->nE W g (q+k*7) x (C k) (t k)) (H:e [] W) :
  CallsIn Fence.wide n prog 264 #[zy (.yield y) #[] #[],zz (M ⟨c,0,J⟩)] W λh d=>(∃ i,h=zv i)/\
   ((∃ i,(i.length=z/\sU i)/\e i d)\/(∃ a,sU a/\s a d)):=by
 refine callsIn_of_wp func264 rfl trivial ?_ rfl;simp only[ntmps264,aH2,aGt,aGu,aH3,aH4,aH5,aH6,aH7,aH8,aH9,aGd];obtain⟨D,F⟩:=zr u B;have S:=l.cell;clear u B;gi_wp2;gi_loopw [3] (λd wr=>∃ (a:List (Fin z)) (k:Nat),d=Y Z ((k:Int)-1)/\k+a.length=z/\Hid (sU a)/\e a wr/\bJ [c,g] W wr) (λd wr=>(intOf d+1).toNat);exact⟨[],z,by go_num,by simp,I (λd x G=>(by simp at G)),H,bJ.rf _ _⟩;obtain⟨a,k,rfl,hk,d,v,o⟩:=hrel;have L:s9 wr c 32 (O (M ⟨g,q,J⟩) z cap):=(o.same c (by simp) l.lt).trans l;have w:=L.cell;clear S;cases k with
 | succ m=>
  rw[show (((m+1:Nat):Int)-1)=(m:Int) by omega];have i:m<z:=by omega
  obtain⟨x,p⟩:=aV (f:=b) (k:=m) (by rw[F.o];exact i);have K:=(D m x p).keep (o.same g (by simp) T);obtain⟨X,c1,c2,c3,c4,c5,c6⟩:=K;have hlen:a.length<z:=by omega
  have A:b.getD m default=x:=by rw[aGW,p];rfl
  have r:=I (d.snoc (x:=⟨m,i⟩) (by show m+a.length+1=z;omega));obtain⟨fn,a2,assign,body,j,Q⟩:=R a ⟨m,i⟩ wr v hlen;dsimp only at j;rw[A] at j;clear p A d;gi_wp2;refine Q.mono ?_;rintro h V (⟨rfl,N,U⟩|⟨rfl,P⟩)
  ·have E:=I (o.r U);clear j w;gi_wp2;go_roundw;exact⟨a++[⟨m,i⟩],m,by go_num,by simp;omega,r,N,E.o⟩;simp[intOf]
  clear j w;gi_wp2;refine v6 (results_none rfl _ _ _) rfl ?_;exact⟨⟨_,rfl⟩,.inr ⟨_,r,P⟩⟩
 | zero=>
  have i:=d;have h:a.length=z:=by omega
  have j:((0:Nat):Int)-1<0:=by omega
  gi_wp2;go_end0;exact⟨⟨_,rfl⟩,.inl ⟨_,⟨h,d⟩,v⟩⟩
theorem aEr (n:Nat) (s:1<=n) (d g h cap z:Nat) (b:List aH) (i e:Nat->y5) (t:b.length=z) (p:z<=12) (u:z<=cap) (w:y4) (j:s9 w d 32 (O (M ⟨g,h,J⟩) z cap)) (k:g<w.heap.size) (q:∀ c a,b[c]?=M a->nE w g (h+c*7) a (i c) (e c)) :
  SeqStopsK Fence.wide n prog 264 #[zz (M ⟨d,0,J⟩)] (λa:Fin z=>#[Y .i64 (a.1:Int),Eo (b.getD a.1 default) (i a.1) (e a.1)]) (bJ [d,g]) (λf=>f.length=z/\sU f) sU z w:=
 λv l m W f _ _ r o=>aEt n s v d g h cap z b i e t p u l m r W ((f.block d j.lt).trans j) (aGs k f.size) (λc a l=>(q c a l).keep (f.block g k)) o
theorem Wh (w:y4) (a:Option Addr) (b cap:Nat) :
  y8 prog 240 #[O a b cap] w λc d=>c=zv (zy (.func 264) #[] #[zz (M ⟨w,0,J⟩)])/\d=w.alloc (zt #[O a b cap] 32):=by
 go_enter func240,ntmps240;go_wp2;go_ret;exact⟨rfl,rfl⟩
attribute [local go_sem] Oper.semAt_some
theorem Zq {w:y4} {g f cap z:Nat} {b:List aH} (hb:aS w (O (M ⟨g,f,J⟩) z cap) b) (A:b.length=z) (D:0<z) :
  z<=cap/\g<w.heap.size/\∃ e d:Nat->y5,∀ a c,b[a]?=M c->nE w g (f+a*7) c (e a) (d a)/\aM w (e a) c.P.A/\bF w (d a) c.L:=by
 rcases hb with ⟨rfl,_⟩|⟨B,G,C,p,q,E,F,r,s⟩
 ·simp at A;omega
 cases p;refine⟨q,r,?_⟩;have h:∀ a,∃ d:y5 × y5,∀ c,b[a]?=M c->nE w g (f+a*7) c d.1 d.2/\aM w d.1 c.P.A/\bF w d.2 c.L:=λa=>by
  cases u:b[a]? with
  | none=>exact⟨(u5,u5),λc x=>by cases x⟩
  | some c=>
   obtain⟨e,d,i,j,k,l,m,n,o,v,t⟩:=dN (s a c u);exact⟨(e,d),λy y=>by cases y;exact⟨⟨i,j,k,l,m,n,o⟩,v,t⟩⟩
 obtain⟨d,e⟩:=Classical.axiomOfChoice h;exact⟨λa=>(d a).1,λa=>(d a).2,e⟩
theorem aCw (B a:Nat) (o:Obj) (f:o.isCells=true):OwnFrom B (λ(_:Unit) W=>W.heap[a]?=M o):=λ_ X b b b c g=>
 (c.block a (aGq.1 b).1 (λe=>by obtain⟨_,h,d,c⟩:=g a e.symm;rw[show X.heap[a]?=_ from b] at d;cases d;rw[f] at c;cases c)).trans b
theorem aZ {W W':y4} {B:Nat} {o:Obj} (a:W.heap[B]?=M o) (b:d7 W W'):W'.heap[B]?=M o:=(b.block B (aGq.1 a).1).trans a
def Nc {n:Nat} (a:List (Fin n)):Int:=match a.getLast? with|some x=>(x.1:Int)|none=>0
theorem Nb {n:Nat} (a:List (Fin n)) (x:Fin n):Nc (a++[x])=(x.1:Int):=by simp[Nc]
def aA5 {n:Nat} (p:Nat->Bool) (c:List (Fin n)):Prop:=∃ b a,c=b++[a]/\(∀ d∈b,p d.1=false)/\p a.1=true
theorem Ze {n:Nat} {p:Nat->Bool} {a:List (Fin n)} (d:aA5 p a) (g:sU a):Nc a=(oN p n:Int):=by
 obtain⟨q,b,rfl,e,f⟩:=d;rw[Nb];have o:=b.2;have c:=uB (p:=p) (n:=n) (m:=b.1+1) (by omega) (λj l h=>by
  obtain⟨k,i,rfl⟩:=g.mem (j:=j) (by omega) h;exact e k i)
 rw[c];simp only[oN];rw[c7 f]
theorem aDV {n:Nat} {p:Nat->Bool} {xs:List (Fin n)} (c:∀ a∈xs,p a.1=false) (d:sU xs) (e:xs.length=n):oN p n=0:=by
 have b:=uB (p:=p) (n:=n) (m:=0) (aGI _) (λf _ f=>by
  obtain⟨a,g,rfl⟩:=d.all e f;exact c a g)
 rw[b];rfl
def aBZ (b h X g i cap z t q:Nat) (a:aH) (e d:y5) (k:Nat) (f:Act) (W:y4):Prop:=
 ∃ c,W.heap[c]?=M (zt #[a.Id,a.P.B,a.P.D,a.P.C,a.P.E,e,d] 80 (0,0))/\
  f={ tmps:=#[zz (M ⟨X,0,J⟩),Y Z (t:Int),Y Z (q:Int),zz (M ⟨b,0,J⟩),zz (M ⟨b+1,0,J⟩),zz (M ⟨b+1+1,0,J⟩),zz (M ⟨b+1+1+1,0,J⟩),Y Z (k:Int),zz (M ⟨c,0,J⟩),zz (M ⟨X,0,J⟩),zz (M ⟨X,0,J⟩),zz (M ⟨X,3,J⟩),O (M ⟨g,i,J⟩) z cap,zy (.func 264) #[] #[zz (M ⟨h,0,J⟩)],Y Z (k:Int),Eo a e d,u5,u5,u5,u5,u5,u5,u5,u5,u5,u5,u5,u5,u5,u5,u5,u5,u5],defers:=[]}
theorem aBZ.own {j l X g m cap z t q:Nat} {p:aH} {n d:y5} {k:Nat} {c:Act} {B:Nat}:OwnFrom B (λ(_:Unit) W=>aBZ j l X g m cap z t q p n d k c W):=by
 rintro s A b o ⟨a,e,f⟩ h i;exact⟨a,aCw B a _ rfl s A b o e h i,f⟩
theorem aAg (w:y4) (X g N cap z:Nat) (u:y5) (l:List Queue) (b:List aH) (c nx:Int) (t q:Nat) (hX:w.heap[X]?=M (zt #[c,nx,u,O (M ⟨g,N,J⟩) z cap] 34 (0,0)))
  (hl:aK w u l) (hb:aS w (O (M ⟨g,N,J⟩) z cap) b) (hz:b.length=z) (h0:0<z) (ok:cQ l) (ay:∀ j∈b,bU l j) (bi:z<=12) (ht:t<48) :
  y8 prog 200 #[zz (M ⟨X,0,J⟩),Y Z (t:Int),Y Z (q:Int)] w λa0 w'=>a0=zv (Y Z (qB l b t q:Int))/\d7 w w':=by
 obtain⟨bl,ae,pv,bv,hP⟩:=Zq hb hz h0;obtain⟨ua,uc,rfl,_⟩:=hl.i;refine(callsIn_wide (n:=3)).1 ?_;refine callsIn_of_wp_marks func200 rfl trivial ?_ rfl;simp only[ntmps200,aH2,aGt,aGu,aH3,aH4,aH5,aH6,aH7,aH8,aH9,aGd];obtain⟨y,a1⟩:∃ y,(((w.alloc (zt #[zz (M ⟨X,0,J⟩)] 175)).alloc (zt #[Y Z (t:Int)] 3)).alloc (zt #[Y Z (q:Int)] 3)).alloc (zt #[Y Z 0] 3)=y:=⟨_,rfl⟩;have aq:d7 w y:=by rw[<- a1];exact((((b8 w).a _).a _).a _).a _
 have b4:y.heap.size=w.heap.size+1+1+1+1:=by rw[<- a1];simp
 have b0:s9 y w 175 (zz (M ⟨X,0,J⟩)):=by rw[<- a1];exact(((Boxed.new w _ _).alloc _).alloc _).alloc _
 have b1:s9 y (w+1) 3 (Y Z (t:Int)):=by
  rw[<- a1];have:=((Boxed.new (w.alloc (zt #[zz (M ⟨X,0,J⟩)] 175)) 3 (Y Z (t:Int))).alloc (zt #[Y Z (q:Int)] 3)).alloc (zt #[Y Z 0] 3);rwa [aHb] at this
 have b2:s9 y (w+1+1) 3 (Y Z (q:Int)):=by
  rw[<- a1];have:=(Boxed.new ((w.alloc (zt #[zz (M ⟨X,0,J⟩)] 175)).alloc (zt #[Y Z (t:Int)] 3)) 3 (Y Z (q:Int))).alloc (zt #[Y Z 0] 3);rwa [aHb,aHb] at this
 have b3:s9 y (w+1+1+1) 3 (Y Z 0):=by
  rw[<- a1];have:=Boxed.new (((w.alloc (zt #[zz (M ⟨X,0,J⟩)] 175)).alloc (zt #[Y Z (t:Int)] 3)).alloc (zt #[Y Z (q:Int)] 3)) 3 (Y Z 0);rwa [aHb,aHb,aHb] at this
 have bj:=(aGq.1 hX).1;have be:=I hX;have bf:y ⟨X,3,J⟩=M (O (M ⟨g,N,J⟩) z cap):=aq.c (y6 w X 3 _ _ _ hX);have au:s9 (y.alloc (zt #[O (M ⟨g,N,J⟩) z cap] 32)) y 32 (O (M ⟨g,N,J⟩) z cap):=Boxed.new y _ _;have ah:=aq.a (zt #[O (M ⟨g,N,J⟩) z cap] 32);obtain⟨B0,B1,B2,B3,ba,bc⟩:=zl (b0.alloc (zt #[O (M ⟨g,N,J⟩) z cap] 32)) (b1.alloc (zt #[O (M ⟨g,N,J⟩) z cap] 32)) (b2.alloc (zt #[O (M ⟨g,N,J⟩) z cap] 32)) (b3.alloc (zt #[O (M ⟨g,N,J⟩) z cap] 32)) (λ(W:y4)=>Wh W (M ⟨g,N,J⟩) z cap) (aEr 2 (by omega) y g N cap z b pv bv hz bi bl (y.alloc (zt #[O (M ⟨g,N,J⟩) z cap] 32)) au (aGs ae ah.size) (λk j hk=>((hP k j hk).1).keep (ah.block g ae)));rw[<- a1] at bf;obtain⟨bd,ac,ar,HL,HP,HZ,bb,HG⟩:=zi a1 b4 ah hl hP hz ay ae;clear b1 b2 b3 a1 b4 ah aq au hX hl hb hP hz ay ae b0;gi_wp2;refine⟨trivial,(callsIn_wide.2 (ba _)).mono ?_⟩;rintro a0 w' ⟨rfl,rfl⟩;rw[bd.o];gi_wp2;refine wpIn_rangeFunc_ownH rfl (by omega) (gf:=264) (lb:=#[zz (M ⟨y,0,J⟩)]) rfl trivial (enters_of func264 (by kernel_rfl) rfl)
  bc.o (λd k=>d.r k) (bJ.put (by have:=ar.size;have:=HG.o;intro e a;simp only[aH1,aHa,or_false] at a;simp only[aHb];have:=ac.o;omega)) (Below.refl _ _) (λ_=>rfl)
  (λU W=>(∀ a5∈U,No l b t q a5.1=false)/\(s9 W w 175 (zz (M ⟨X,0,J⟩))/\s9 W (w+1) 3 (Y Z (t:Int))/\s9 W (w+1+1) 3 (Y Z (q:Int))/\s9 W (w+1+1+1) 3 (Y Z 0))/\Below w w W)
  (λc U W=>(c=.ret/\aA5 (No l b t q) U)/\s9 W (w+1+1+1) 3 (Y Z (Nc U))/\Below w w W)
  (OwnFrom.and (ownFrom_pure _ _) (OwnFrom.and (OwnFrom.and (Own.from (boxed_own _ _ _) _) (OwnFrom.and (Own.from (boxed_own _ _ _) _) (OwnFrom.and (Own.from (boxed_own _ _ _) _) (Own.from (boxed_own _ _ _) _)))) (ownFrom_below (aGi _) (by have:=ac.o;simp only[aHb];omega))))
  (λc=>OwnFrom.and (ownFrom_pure _ _) (OwnFrom.and (Own.from (boxed_own _ _ (λU=>Y Z (Nc U))) _) (ownFrom_below (aGi _) (by have:=ac.o;simp only[aHb];omega))))
  ⟨(λa5 hy=>by cases hy),⟨B0.o,B1,B2,B3⟩,ar⟩
  (λ(j:Fin z) a' W=>aBZ w y X g N cap z t q (b.getD j.1 default) (pv j.1) (bv j.1) j.1 a' W) (λj a'=>aBZ.own)
  ?assign ?body ?done ?stop
 case assign=>
  rintro a5 U j W a9 ⟨af,⟨h0,h1,h2,h3⟩,V⟩ x;have a:=I x;clear x;obtain⟨r,a4⟩:=aV (f:=b) (k:=j.1) (by rw[HZ.o];exact j.2);obtain⟨_,ab,aa⟩:=HP j.1 r a4;obtain⟨pa,pc,ag,_⟩:=ab.i;obtain⟨bg,bh,ad,_⟩:=aa.i;clear a4 ab aa;generalize b.getD j.1 default=m at *;generalize pv j.1=h at *;generalize bv j.1=e at *;subst ag ad;generalize r.P.A.length=pn at *;generalize r.L.length=bn at *;gi_wp2;exact a _ _ (KeepsFrom.ext ((b8 W).a _)) (bJ.e ((b8 W).a _)) ⟨af,⟨h0.alloc _,h1.alloc _,h2.alloc _,h3.alloc _⟩,V.alloc V.size _⟩ ⟨W,aGY W _,rfl⟩
 case body=>
  rintro a5 U j a' P bo ⟨rr,bk⟩ ⟨af,⟨h0,h1,h2,h3⟩,V⟩ ⟨Bx,aa,rfl⟩ hlen;obtain⟨r,a4⟩:=aV (f:=b) (k:=j.1) (by rw[HZ.o];exact j.2);have b5:b.getD j.1 default=r:=by rw[aGW,a4];rfl
  rw[b5] at aa ⊢;obtain⟨_,ab,am⟩:=HP j.1 r a4;have aw:=(V.block X bj).trans be;have a3:=bb r (aGC a4);have ax:No l b t q j.1=(under l r.P.B (q:Int) && decide (0<dX r t)):=zM a4;have a6:=I ax;refine wpIn_block ?_;refine wpIn_seq_k (λK0 av=>?_);refine tO (S:=λh=>d7 P.drew h) K0 (by kernel_rfl) (by kernel_rfl) (λa' w' d=>d) ?_;have a8:=I av;clear av;have L:=I (d7.dr (b8 P));have m:=L.c h0.cell;have Q:=L.c h1.cell;have R:=L.c h2.cell;have T:P.drew ⟨X,2,J⟩=M (O ua l.length uc):=L.c (y6 P X 2 _ _ _ aw);obtain⟨C,D,E,F,G,H,K,_⟩:=eH aa;replace C:=L.c C;replace D:=L.c D;replace E:=L.c E;replace F:=L.c F;replace G:=L.c G;replace H:=L.c H;replace K:=L.c K;have ai:d7 w P.drew:=(show d7 w P from V).r L;obtain⟨BN,ON,AT⟩:=zq (λ(h:y4) (d:d7 P.drew h)=>aAb h (O ua l.length uc) l r.P.B (q:Int) (HL.m (ai.r d)) ok.pars ok.n5 a3.q0 a3.q1) (λ(h:y4) (d:d7 P.drew h)=>aC4 h (pv j.1) (bv j.1) r (ab.m (ai.r d)) (am.m (ai.r d)) a3.req (λk hk=>(a3.bites k hk).1) a3.many.2 (λk hk=>(a3.bites k hk).2)) (λ(h:y4) (v:y5) (hv:aR h v (aY (dX r)))=>Vk h v (dX r) t ht hv);obtain⟨pa,pc,ag,_⟩:=ab.i;obtain⟨bg,bh,ad,_⟩:=am.i;obtain⟨aj,H3,a7,ak,e⟩:=zm V h3 (And.intro h0 (And.intro h1 h2)) af (b8 P.drew);have bm:=(uQ a3 t).1;rw[ag,ad] at *;clear b5 a4 ab am aw a3 ax bk aa V h0 h1 h2 h3 af hlen ag ad ai;generalize r.P.A.length=pn at *;generalize r.L.length=bn at *;generalize P.drew=W at *;refine tkU 0 (v:=?_) (hQ:=λ_ _ _ d=>by cases d.1) e ?_ ?_;rotate_left
  ·intro h a;have A:=a.c m;have l1:=a.c Q;have l2:=a.c R;have l3:=a.c T;have l4:=a.c C;have l5:=a.c D;have l6:=a.c E;have l7:=a.c F;have l8:=a.c G;have l9:=a.c H;have a2:=a.c K;go_simp;with_reducible rfl
  try simp only[Act.put,zD,zE,zF,zA,zC,zB]
  refine tkU 1 (v:=?_) (hQ:=λ_ _ _ d=>by cases d.1) e ?_ ?_;rotate_left
  ·intro h a;have A:=a.c m;have l1:=a.c Q;have l2:=a.c R;have l3:=a.c T;have l4:=a.c C;have l5:=a.c D;have l6:=a.c E;have l7:=a.c F;have l8:=a.c G;have l9:=a.c H;have a2:=a.c K;go_simp;with_reducible rfl
  try simp only[Act.put,zD,zE,zF,zA,zC,zB]
  refine tkU 2 (v:=?_) (hQ:=λ_ _ _ d=>by cases d.1) e ?_ ?_;rotate_left
  ·intro h a;have A:=a.c m;have l1:=a.c Q;have l2:=a.c R;have l3:=a.c T;have l4:=a.c C;have l5:=a.c D;have l6:=a.c E;have l7:=a.c F;have l8:=a.c G;have l9:=a.c H;have a2:=a.c K;go_simp;with_reducible rfl
  try simp only[Act.put,zD,zE,zF,zA,zC,zB]
  refine tkU 3 (v:=?_) (hQ:=λ_ _ _ d=>by cases d.1) e ?_ ?_;rotate_left
  ·intro h a;have A:=a.c m;have l1:=a.c Q;have l2:=a.c R;have l3:=a.c T;have l4:=a.c C;have l5:=a.c D;have l6:=a.c E;have l7:=a.c F;have l8:=a.c G;have l9:=a.c H;have a2:=a.c K;go_simp;with_reducible rfl
  try simp only[Act.put,zD,zE,zF,zA,zC,zB]
  refine tkU 4 (v:=?_) (hQ:=λ_ _ _ d=>by cases d.1) e ?_ ?_;rotate_left
  ·intro h a;have A:=a.c m;have l1:=a.c Q;have l2:=a.c R;have l3:=a.c T;have l4:=a.c C;have l5:=a.c D;have l6:=a.c E;have l7:=a.c F;have l8:=a.c G;have l9:=a.c H;have a2:=a.c K;go_simp;with_reducible rfl
  try simp only[Act.put,zD,zE,zF,zA,zC,zB]
  refine tkU 5 (v:=?_) (hQ:=λ_ _ _ d=>by cases d.1) e ?_ ?_;rotate_left
  ·intro h a;have A:=a.c m;have l1:=a.c Q;have l2:=a.c R;have l3:=a.c T;have l4:=a.c C;have l5:=a.c D;have l6:=a.c E;have l7:=a.c F;have l8:=a.c G;have l9:=a.c H;have a2:=a.c K;go_simp;with_reducible rfl
  try simp only[Act.put,zD,zE,zF,zA,zC,zB]
  refine tkU 6 (v:=?_) (hQ:=λ_ _ _ d=>by cases d.1) e ?_ ?_;rotate_left
  ·intro h a;have A:=a.c m;have l1:=a.c Q;have l2:=a.c R;have l3:=a.c T;have l4:=a.c C;have l5:=a.c D;have l6:=a.c E;have l7:=a.c F;have l8:=a.c G;have l9:=a.c H;have a2:=a.c K;go_simp;with_reducible rfl
  try simp only[Act.put,zD,zE,zF,zA,zC,zB]
  refine tkU 7 (v:=?_) (hQ:=λ_ _ _ d=>by cases d.1) e ?_ ?_;rotate_left
  ·intro h a;have A:=a.c m;have l1:=a.c Q;have l2:=a.c R;have l3:=a.c T;have l4:=a.c C;have l5:=a.c D;have l6:=a.c E;have l7:=a.c F;have l8:=a.c G;have l9:=a.c H;have a2:=a.c K;go_simp;with_reducible rfl
  try simp only[Act.put,zD,zE,zF,zA,zC,zB]
  refine goH 8 λa9 x=>?_;go_simp;refine(BN _ e).m ?_;rintro a0 h ⟨rfl,hv⟩;refine x.out _ _ hv (λ_=>?_);clear x a9
  try simp only[Act.put,zD,zE,zF,zA,zC,zB]
  clear e;have e:=I hv;cases hu:under l r.P.B (q:Int) with
  | false=>
   rw[hu] at a6;refine tkU 9 (v:=?_) (hQ:=λ_ _ _ d=>by cases d.1) e ?_ ?_;rotate_left
   ·intro h a;have A:=a.c m;go_simp;with_reducible rfl
   try simp only[Act.put,zD,zE,zF,zA,zC,zB]
   refine wpAnyH_take (i:=10) (oi:=_) (v:=u5) rfl (by kernel_rfl) (by kernel_rfl) (by kernel_rfl) (λ_ _ _ d=>(by cases d.1)) (Or.inr ⟨by kernel_rfl,rfl⟩) e ?_
   try simp only[Act.put,zD,zE,zF,zA,zC,zB]
   refine wpAnyH_take (i:=11) (oi:=_) (v:=u5) rfl (by kernel_rfl) (by kernel_rfl) (by kernel_rfl) (λ_ _ _ d=>(by cases d.1)) (Or.inr ⟨by kernel_rfl,rfl⟩) e ?_
   try simp only[Act.put,zD,zE,zF,zA,zC,zB]
   refine wpAnyH_take (i:=12) (oi:=_) (v:=u5) rfl (by kernel_rfl) (by kernel_rfl) (by kernel_rfl) (λ_ _ _ d=>(by cases d.1)) (Or.inr ⟨by kernel_rfl,rfl⟩) e ?_
   try simp only[Act.put,zD,zE,zF,zA,zC,zB]
   refine wpAnyH_take (i:=13) (oi:=_) (v:=u5) rfl (by kernel_rfl) (by kernel_rfl) (by kernel_rfl) (λ_ _ _ d=>(by cases d.1)) (Or.inr ⟨by kernel_rfl,rfl⟩) e ?_
   try simp only[Act.put,zD,zE,zF,zA,zC,zB]
   refine wpAnyH_take (i:=14) (oi:=_) (v:=u5) rfl (by kernel_rfl) (by kernel_rfl) (by kernel_rfl) (λ_ _ _ d=>(by cases d.1)) (Or.inr ⟨by kernel_rfl,rfl⟩) e ?_
   try simp only[Act.put,zD,zE,zF,zA,zC,zB]
   refine tkU 15 (v:=?_) (hQ:=λ_ _ _ d=>by cases d.1) e ?_ ?_;rotate_left
   ·intro h a;have A:=a.c m;go_simp;with_reducible rfl
   try simp only[Act.put,zD,zE,zF,zA,zC,zB]
   refine r7 (by kernel_rfl) ⟨rfl,a8 _ _ ?_⟩ _;clear a8 K0;have s:=I (L.r hv);clear m Q R T C D E F G H K hv;gi_wp2;refine⟨KeepsFrom.ext s,bJ.e s,λa5 hy=>?_,⟨aZ a7.1 s,aZ a7.2.1 s,aZ a7.2.2 s,aZ H3 s⟩,(show d7 w P from aj.o).r s⟩;rcases aGe.1 hy with d|d
   ·exact ak a5 d
   rw[aHf.1 d,a6.o];rfl
  | true=>
   rw[hu,Bool.true_and] at a6;refine tkU 9 (v:=?_) (hQ:=λ_ _ _ d=>by cases d.1) e ?_ ?_;rotate_left
   ·intro h a;have A:=a.c m;go_simp;with_reducible rfl
   try simp only[Act.put,zD,zE,zF,zA,zC,zB]
   refine tkU 10 (v:=?_) (hQ:=λ_ _ _ d=>by cases d.1) e ?_ ?_;rotate_left
   ·intro h a;have A:=a.c m;have l1:=a.c Q;have l2:=a.c R;have l3:=a.c T;have l4:=a.c C;have l5:=a.c D;have l6:=a.c E;have l7:=a.c F;have l8:=a.c G;have l9:=a.c H;have a2:=a.c K;go_simp;with_reducible rfl
   try simp only[Act.put,zD,zE,zF,zA,zC,zB]
   refine tkU 12 (v:=?_) (hQ:=λ_ _ _ d=>by cases d.1) e ?_ ?_;rotate_left
   ·intro h a;have A:=a.c m;have l1:=a.c Q;have l2:=a.c R;have l3:=a.c T;have l4:=a.c C;have l5:=a.c D;have l6:=a.c E;have l7:=a.c F;have l8:=a.c G;have l9:=a.c H;have a2:=a.c K;go_simp;with_reducible rfl
   try simp only[Act.put,zD,zE,zF,zA,zC,zB]
   refine goH 11 λa9 x=>?_;go_simp;refine(ON _ e).m ?_;rintro a0 V2 ⟨vf,rfl,ap,an⟩;refine x.out _ _ (hv.r an) (λ_=>?_);clear x a9
   try simp only[Act.put,zD,zE,zF,zA,zC,zB]
   clear e;have e:=I (hv.r an);obtain⟨fa,fc,rfl,_⟩:=ap.i;have b6:=I (AT _ _ ap);clear hv an ap;generalize (aY (dX r)).length=fn at *;refine goH 13 λa9 x=>?_;go_simp;refine b6.m ?_;rintro a0 V3 ⟨rfl,ao⟩;refine x.out _ _ (e.r ao) (λ_=>?_);clear x a9
   try simp only[Act.put,zD,zE,zF,zA,zC,zB]
   have al:=I (e.r ao);clear e ao;have e:=al;have s:=I (L.r al);clear al;by_cases az:0<dX r t
   ·rw[deT az] at a6;refine tkU 14 (v:=?_) (hQ:=λ_ _ _ d=>by cases d.1) e ?_ ?_;rotate_left
    ·intro h a;have A:=a.c m;go_simp;with_reducible rfl
    try simp only[Act.put,zD,zE,zF,zA,zC,zB]
    refine tkU 15 (v:=?_) (hQ:=λ_ _ _ d=>by cases d.1) e ?_ ?_;rotate_left
    ·intro h a;have A:=a.c m;go_simp;with_reducible rfl
    try simp only[Act.put,zD,zE,zF,zA,zC,zB]
    refine r7 (by kernel_rfl) ⟨rfl,a8 _ _ ?_⟩ _;clear a8 K0;have a2:s9 _ (w+1+1+1) 3 (Y Z 0):=aZ H3 s;have k6:=a2.cell;have f6:=a2.frozen;have HE:=I (And.intro ((KeepsFrom.ext (B:=y.heap.size+1) s).trans (KeepsFrom.se _ (w+1+1+1) (Y Z (j.1:Int)))) (And.intro (a2.set (Y Z (j.1:Int))) (((show d7 w P from aj.o).r s).se (b:=w+1+1+1) (o:=0) (by omega) (Y Z (j.1:Int)))));clear m Q R T C D E F G H K a2;gi_wp2;refine⟨by(try simp only[aHb]);exact HE.1,⟨rfl,U,j,rfl,ak,a6⟩,?_,HE.2.2⟩;rw[Nb];exact HE.2.1
   have a2:dX r t=0:=by omega
   rw[deF az] at a6;refine tkU 14 (v:=?_) (hQ:=λ_ _ _ d=>by cases d.1) e ?_ ?_;rotate_left
   ·intro h a;have A:=a.c m;go_simp;with_reducible rfl
   try simp only[Act.put,zD,zE,zF,zA,zC,zB]
   refine tkU 15 (v:=?_) (hQ:=λ_ _ _ d=>by cases d.1) e ?_ ?_;rotate_left
   ·intro h a;have A:=a.c m;go_simp;with_reducible rfl
   try simp only[Act.put,zD,zE,zF,zA,zC,zB]
   refine r7 (by kernel_rfl) ⟨rfl,a8 _ _ ?_⟩ _;clear a8 K0;clear m Q R T C D E F G H K;gi_wp2;refine⟨KeepsFrom.ext s,bJ.e s,λa5 hy=>?_,⟨aZ a7.1 s,aZ a7.2.1 s,aZ a7.2.2 s,aZ H3 s⟩,(show d7 w P from aj.o).r s⟩;rcases aGe.1 hy with d|d
   ·exact ak a5 d
   rw[aHf.1 d];exact a6
 case done=>
  rintro a F W e ⟨hlen,r⟩ ⟨s,⟨_,_,_,h3⟩,V⟩ x;have D:=h3.cell;have E:=h3.frozen;have A:=I (by unfold qB;rw[HZ.o];exact aDV s r hlen:qB l b t q=0);have h:=(KeepsOthers.setCell W ⟨w+1+1+1,0,J⟩ (Y Z 0)).same a _ x rfl;have m:=cell_kept ((h3.set (Y Z 0)).cell) (grownBy_putObj' _ a (.deferred J)) (λC a0=>by cases a0;exact⟨_,h,rfl⟩);have d:=I ((V.setCell (p:=⟨w+1+1+1,0,J⟩) (by show w.heap.size<=w.heap.size+1+1+1;omega) (Y Z 0)).trans (belowK_b (w:=w) (aGi _) _ a _ (.deferred J) (by simp at e;have:=ac.o;omega) h rfl rfl));clear s r;gi_wp2;refine⟨by simp,.inl ⟨_,_,rfl,m7 h,?_⟩⟩;refine⟨Y Z 0,?_,by rw[A.o];rfl,d⟩;simp[results,f200,go_sem,m]
 case stop=>
  rintro a c U W e hpre ⟨⟨rfl,h⟩,h3,V⟩ x;have r:=I (by unfold qB;rw[HZ.o];exact Ze h hpre:Nc U=(qB l b t q:Int));have m:=cell_kept h3.cell (grownBy_putObj' _ a (.deferred J)) (λC a0=>by cases a0;exact⟨_,x,rfl⟩);have d:=I (V.trans (belowK_b (w:=w) (aGi _) _ a _ (.deferred J) (by simp at e;have:=ac.o;omega) x rfl rfl));clear hpre h;gi_wp2;refine⟨by simp,.inl ⟨_,_,rfl,m7 x,?_⟩⟩;refine⟨Y Z (Nc U),?_,by rw[r.o],d⟩;simp[results,f200,go_sem,m]
open Go.RowKit Go.Shelf Go.Lib
def Tryz.sortBooks_ren:Go.Shelf.Ren:=⟨λ| 6=>197|15=>238|14=>237|28=>263|29=>222|20=>255|21=>256|22=>257|23=>258|24=>259|25=>260|26=>261|27=>262|46=>267|47=>268|48=>269|49=>270|50=>271|57=>273|n=>n,λ| 22=>32|24=>80|25=>230|3=>3|39=>161|0=>0|53=>202|55=>210|4=>4|46=>293|45=>292|50=>178|5=>5|9=>9|66=>302|70=>306|76=>309|77=>310|n=>n,λ| n=>n⟩
theorem Tryz.sortBooks:Go.Proofs.SlLaysF0.n6 prog Tryz.sortBooks_ren:={
 mixed:=by kernel_rfl
 f6:=⟨Tryz.f197.name,by decide,func197.k⟩
 f14:=⟨f237.name,by decide,func237.k⟩
 f15:=func238.k
 f20:=⟨f255.name,by decide,func255.k⟩
 f21:=⟨f256.name,by decide,func256.k⟩
 f22:=⟨f257.name,by decide,func257.k⟩
 f23:=⟨f258.name,by decide,func258.k⟩
 f24:=⟨f259.name,by decide,func259.k⟩
 f25:=⟨Tryz.f260.name,by decide,func260.k⟩
 f26:=⟨Tryz.f261.name,by decide,func261.k⟩
 f27:=⟨f262.name,by decide,func262.k⟩
 f28:=func263.k
 f29:=func222.k
 f46:=⟨Tryz.f267.name,by decide,func267.k⟩
 f47:=func268.k
 f48:=func269.k
 f49:=⟨f270.name,by decide,func270.k⟩
 f50:=⟨f271.name,by decide,func271.k⟩
 f57:=⟨f273.name,by decide,func273.k⟩
 t0:=underlying0
 a0:=Tryz.isAgg0
 z0:=Tryz.sizeOf0
 v0:=Tryz.zeroValue0
 t3:=underlying3
 a3:=Tryz.isAgg3
 z3:=Tryz.sizeOf3
 v3:=Tryz.zeroValue3
 t4:=underlying4
 a4:=Tryz.isAgg4
 z4:=Tryz.sizeOf4
 v4:=Tryz.zeroValue4
 t5:=underlying5
 a5:=Tryz.isAgg5
 z5:=Tryz.sizeOf5
 v5:=Tryz.zeroValue5
 t9:=underlying9
 a9:=Tryz.isAgg9
 z9:=Tryz.sizeOf9
 v9:=Tryz.zeroValue9
 t22:=underlying32
 a22:=Tryz.isAgg32
 z22:=Tryz.sizeOf32
 v22:=Tryz.zeroValue32
 t25:=underlying230
 a25:=Tryz.isAgg230
 z25:=Tryz.sizeOf230
 v25:=Tryz.zeroValue230
 t39:=underlying161
 a39:=Tryz.isAgg161
 z39:=Tryz.sizeOf161
 v39:=Tryz.zeroValue161
 t45:=underlying292
 a45:=Tryz.isAgg292
 z45:=Tryz.sizeOf292
 v45:=Tryz.zeroValue292
 t46:=underlying293
 a46:=Tryz.isAgg293
 z46:=Tryz.sizeOf293
 v46:=Tryz.zeroValue293
 t50:=underlying178
 a50:=Tryz.isAgg178
 z50:=Tryz.sizeOf178
 v50:=Tryz.zeroValue178
 t53:=underlying202
 a53:=Tryz.isAgg202
 z53:=Tryz.sizeOf202
 v53:=Tryz.zeroValue202
 t55:=underlying210
 a55:=Tryz.isAgg210
 z55:=Tryz.sizeOf210
 v55:=Tryz.zeroValue210
 t66:=underlying302
 a66:=Tryz.isAgg302
 z66:=Tryz.sizeOf302
 v66:=Tryz.zeroValue302
 t70:=underlying306
 a70:=Tryz.isAgg306
 z70:=Tryz.sizeOf306
 v70:=Tryz.zeroValue306
 t76:=underlying309
 a76:=Tryz.isAgg309
 z76:=Tryz.sizeOf309
 v76:=Tryz.zeroValue309
 t77:=underlying310
 a77:=Tryz.isAgg310
 z77:=Tryz.sizeOf310
 v77:=Tryz.zeroValue310 }
def Tryz.cmpInts_ren:Go.Shelf.Ren:=⟨λ| 5=>199|7=>239|n=>n,λ| 22=>3|3=>3|4=>4|n=>n,λ| n=>n⟩
theorem Tryz.cmpInts:Go.Proofs.SlLaysC2.n5 prog Tryz.cmpInts_ren:={
 mixed:=by kernel_rfl
 f5:=⟨Tryz.f199.name,by decide,func199.k⟩
 f7:=⟨f239.name,by decide,func239.k⟩
 t3:=underlying3
 a3:=Tryz.isAgg3
 z3:=Tryz.sizeOf3
 v3:=Tryz.zeroValue3
 t4:=underlying4
 a4:=Tryz.isAgg4
 z4:=Tryz.sizeOf4
 v4:=Tryz.zeroValue4
 t22:=underlying3
 a22:=Tryz.isAgg3
 z22:=Tryz.sizeOf3
 v22:=Tryz.zeroValue3 }
def Tryz.bitsLens_ren:Go.Shelf.Ren:=⟨λ| 125=>238|128=>263|129=>222|n=>n,λ| 46=>161|3=>3|51=>202|53=>210|4=>4|5=>5|9=>9|n=>n,λ| n=>n⟩
theorem Tryz.bitsLens:Go.Proofs.Lays.n125 prog Tryz.bitsLens_ren:={
 mixed:=by kernel_rfl
 f125:=func238.k
 f128:=func263.k
 f129:=func222.k
 t3:=underlying3
 a3:=Tryz.isAgg3
 z3:=Tryz.sizeOf3
 v3:=Tryz.zeroValue3
 t4:=underlying4
 a4:=Tryz.isAgg4
 z4:=Tryz.sizeOf4
 v4:=Tryz.zeroValue4
 t5:=underlying5
 a5:=Tryz.isAgg5
 z5:=Tryz.sizeOf5
 v5:=Tryz.zeroValue5
 t9:=underlying9
 a9:=Tryz.isAgg9
 z9:=Tryz.sizeOf9
 v9:=Tryz.zeroValue9
 t46:=underlying161
 a46:=Tryz.isAgg161
 z46:=Tryz.sizeOf161
 v46:=Tryz.zeroValue161
 t51:=underlying202
 a51:=Tryz.isAgg202
 z51:=Tryz.sizeOf202
 v51:=Tryz.zeroValue202
 t53:=underlying210
 a53:=Tryz.isAgg210
 z53:=Tryz.sizeOf210
 v53:=Tryz.zeroValue210 }
theorem Tryz.isAggBook:∀ a,(isAgg 80).run prog a=.ok true a:=λa=>by kernel_rfl
theorem Tryz.sizeOfBook:∀ a,(Go.sizeOf 80).run prog a=.ok 7 a:=λa=>by kernel_rfl
abbrev SlT:=Option Addr × Nat × Nat
abbrev BkT:=aH × SlT × SlT
instance:Inhabited BkT:=⟨⟨default,(J,0,0),(J,0,0)⟩⟩
def oK (p:BkT):List y5:=[Y Z p.1.Id,Y Z p.1.P.B,Y Z p.1.P.D,Y Z p.1.P.C,Y Z p.1.P.E,O p.2.1.1 p.2.1.2.1 p.2.1.2.2,O p.2.2.1 p.2.2.2.1 p.2.2.2.2]
theorem Zf (p:BkT):(oK p).length=7:=rfl
theorem aEm (p:BkT):∀ a∈oK p,a.oneCell'=true:=λa a=>by
 simp only[oK,aH1,aHa,or_false] at a;rcases a with rfl|rfl|rfl|rfl|rfl|rfl|rfl <;> rfl
def aB0 (p q:BkT):Int:=Lib.compareInt p.1.Id q.1.Id
theorem ltB (p q:BkT):ltOf aB0 p q=decide (p.1.Id<q.1.Id):=by
 unfold ltOf aB0 Lib.compareInt;by_cases a:p.1.Id<q.1.Id
 ·simp[a]
 by_cases b:q.1.Id<p.1.Id <;> simp[a,b]
theorem swoB:Sort.SWO (ltOf aB0) where
 irrefl x:=by rw[ltB];simp
 trans x y z h1 h2:=by rw[ltB] at *;simp at *;omega
 ntrans x y z h1 h2:=by rw[ltB] at *;simp at *;omega
theorem aE5 (p q:BkT) (W:y4):y8 prog 198 #[.agg (oK p).toArray,.agg (oK q).toArray] W λc d=>c=zv (Y Z (aB0 p q))/\∃ m e,d=Sort.grow (W.drewN m) e:=by
 have a:=λb=>AnyG.cmp_Compare_int Tryz.cmpInts p.1.Id q.1.Id b;change ∀ b,y8 prog 199 _ _ _ at a;unfold aB0;generalize Lib.compareInt p.1.Id q.1.Id=t at a ⊢;obtain⟨u,⟨b,f,g⟩,⟨h,i,j⟩⟩:=p;obtain⟨v,⟨k,l,n⟩,⟨o,r,s⟩⟩:=q;simp only[oK];go_enter func198,ntmps198
 go_wp2_with (go_at_call 199;refine(a _).m ?_;rintro c d ⟨rfl,rfl⟩);go_ret;exact⟨rfl,0,_,by rw[Sort.alloc_eq_grow,Sort.alloc_eq_grow,Sort.grow_grow];rfl⟩
theorem aE6 (a b size:Nat) (w:y4):CmpLays prog 198 #[] oK 7 aB0 a b size w:=λ_ _ _ _ c d=>aE5 c d _
theorem Jr (n:Nat) (W:y4) (c:n<=12):y8 prog 238 #[.int .u64 n] W λa b=>(∃ l:Int,a=zv (Y Z l))/\b=W:=
 (Any.bits_Len Tryz.bitsLens n W (by omega) (by omega)).m λ_ _ ⟨a,b⟩=>⟨⟨_,a⟩,b⟩
theorem aDe {w:y4} {cs:List y5} {x:aH} (c:fW w cs x):∃ a:BkT,a.1=x/\oK a=cs:=by
 obtain⟨j,h,rfl,⟨i,rfl,e,_⟩,d,_⟩:=c;obtain⟨f,g,rfl,_⟩:=e.i;obtain⟨a,b,rfl,_⟩:=d.i;exact⟨(x,(f,_,g),(a,_,b)),rfl,rfl⟩
theorem Jq {w:y4}:∀ {css:List (List y5)} {b:List aH},fP w css b->∃ a:List BkT,a.map Prod.fst=b/\a.map oK=css
 | [],b,h=>by
  have:=h.len;simp only[aGu] at this;exact⟨[],by rw[aGv this.symm];rfl,rfl⟩
 | cs::css,[],h=>by have:=h.len;simp at this
 | cs::css,x::b,h=>by
  obtain⟨l,d,e⟩:=aDe (h.each 0 cs x rfl rfl);obtain⟨a,f,g⟩:=Jq (css:=css) (b:=b) ⟨by have:=h.len;simpa using this,λk c m i j=>h.each (k+1) c m (by simpa using i) (by simpa using j)⟩;exact⟨l::a,by rw[aHs,d,f],by rw[aHs,e,g]⟩
theorem aD8 (b:List BkT) {k j:Nat} (g:k<b.length) (c:j<7):(b.map oK).flatten[k*7+j]?=M (oK (b.toArray[k]!))[j]!:=by
 rw[Jg (by omega) _ (λa f=>by obtain⟨a,_,rfl⟩:=aHd.1 f;rfl) k j c];obtain⟨a,d⟩:=aV g;have e:b.toArray[k]! = a:=by
  rw[Array.getElem!_eq_getD,Array.getD_eq_getD_getElem?,List.getElem?_toArray,d];rfl
 rw[e,aHt,d];show (oK a)[j]?=M (oK a)[j]!;rw[List.getElem!_eq_getElem?_getD,aGm (by rw[Zf];exact c)];rfl
theorem Sr (c:List BkT):(Sort.flatK oK 7 c.toArray).toList=(c.map oK).flatten:=by
 refine aIl λa=>?_;rcases aGD a (c.length*7) with b|b
 ·have e:a=a / 7*7+a % 7:=by omega
  have f:=Sort.get_flatK oK 7 c.toArray a (by simpa using b);have d:=aD8 c (k:=a / 7) (j:=a % 7) (by omega) (Nat.mod_lt _ (by omega));rw[<- e] at d;rw[d,<- f,aIm,getElem?_pos _ a (by rw[Sort.size_flatK];simpa using b),getElem!_pos _ a (by rw[Sort.size_flatK];simpa using b)]
 rw[aHN,aHN]
 ·rw[Gu (m:=7) _ (λd d=>by obtain⟨e,_,rfl⟩:=aHd.1 d;rfl),aHC];exact b
 rw[aI2,Sort.size_flatK];simpa using b
theorem aCn {enc:BkT->List y5} {W:y4} {g m:Nat} {d:Array BkT} {os:Array Obj} {cur:Array y5} {T:o8} (a:W.heap[g]?=M (zt cur T (0,0))) :
  (sortWorldK enc 7 W g 0 m d os).heap[g]?=M (zt (Sort.putCells id 0 (Sort.flatK enc 7 d) cur) T (0,0))/\W.grownBy (sortWorldK enc 7 W g 0 m d os) (M g):=by
 have e:=(aGq.1 a).1;have b:(sortWorldK enc 7 W g 0 m d os).heap=W.heap.modify g (Sort.onCells (Sort.putCells id 0 (Sort.flatK enc 7 d)))++os:=rfl;constructor
 ·rw[b,aIn (by rw[aIo];exact e),aIp,c7 rfl,a];rfl
 refine⟨rfl,rfl,rfl,by rw[b,Array.size_append,aIo];omega,λc c f=>?_⟩;rw[b,aIn (by rw[aIo];exact c),aIp,d8 (λa=>f (by rw[a]))]
theorem Ps {F cur:Array y5} (d:F.size<=cur.size):(Sort.putCells id 0 F cur).size=cur.size/\(Sort.putCells id 0 F cur).toList.take F.size=F.toList:=by
 have c:(Sort.putCells id 0 F cur).size=cur.size:=by unfold Sort.putCells;simp
 refine⟨c,aIl λb=>?_⟩;rcases aGD b F.size with a|a
 ·rw[aHQ a,aIm,aIm];unfold Sort.putCells;rw[Array.getElem?_mapIdx,getElem?_pos cur b (by omega),getElem?_pos F b a];simp only[Option.map_some,aGI,aGx,true_and,Nat.sub_zero,id];rw[c7 a,getElem!_pos F b a]
 rw[aHN (by rw[aHB];omega),aHN (by rw[aI2];exact a)]
theorem aDK (bs:List Nat) (base g n cap:Nat) (W:y4) (a:List aH) (w:fH bs base W (O (M ⟨g,0,J⟩) n cap) a) (A:a.length=n) (a5:n<=12) (N:a.Pairwise (λt G=>t.Id≠G.Id)) :
  y8 prog 197 #[O (M ⟨g,0,J⟩) n cap,zy (.func 198) #[] #[]] W λp E=>
   p=zv (zw #[])/\fH bs base E (O (M ⟨g,0,J⟩) n cap) (iY a)/\W.grownBy E (M g):=by
 obtain⟨a0,V,X,o3,o4⟩:=w;rw[A] at V;rcases V.2 with ⟨C,_⟩|⟨H,a4,cur,C,hb,q,S,a1,L,T⟩
 ·cases C
 cases C;obtain⟨h,u,v⟩:=Jq X;have s:h.length=n:=by rw[<- A,<- u,aHC]
 rw[<- v,<- Sr] at T;have hH:Sort.HoldsK oK 7 W g 0 h.toArray:=by
  intro c e;have b:c<n*7:=by rw[Sort.size_flatK] at e;simpa[s] using e
  refine⟨?_,x4 W g (0+c) _ _ q⟩;rw[y6 W g (0+c) _ _ _ q,aGx];have f:cur.toList[c]?=M (Sort.flatK oK 7 h.toArray)[c]!:=by
   rw[<- aHQ (l:=cur.toList) b,T,aIm,getElem?_pos _ c e,getElem!_pos _ c e]
  simpa using f
 have K:=AnyQ.slices_SortFunc_small_sorted Tryz.sortBooks 7 Tryz.isAggBook Tryz.sizeOfBook oK Zf aEm aB0 198 #[] swoB g 0 cap h.toArray W (enters_of func198 (by kernel_rfl) rfl) (aE6 _ _ _ _) hH (aGq.1 q).1 (by simp;omega) Jr;rw[aH2,s] at K;refine Calls.mono K ?_;rintro p E ⟨rfl,b,m,os,⟨p1,p2,p3⟩,hs,rfl⟩;obtain⟨r1,r2⟩:=aCn (enc:=oK) (m:=m) (d:=b) (os:=os) q;refine⟨rfl,?_,r2⟩;have y:b.size=n:=by rw[p1,aH2,s]
 have B:b.toList.Perm h:=by
  have i:b.extract 0 n=b:=by rw[<- y];exact aIq
  have j:h.toArray.extract 0 n=h.toArray:=by rw[<- s,<- aH2];exact aIq
  rw[i,j] at p3;exact p3
 have R:(b.toList.map Prod.fst).Perm a:=by have:=B.map Prod.fst;rwa [u] at this
 have P:(b.toList.map Prod.fst).Pairwise (λt G:aH=>t.Id≠G.Id):=(aIe.pairwise_iff (λw p=>w p.symm) R).2 N;have a3:qG (b.toList.map Prod.fst):=by
  rw[aIr] at P;refine aIr.2 ?_;intro o c i e j;have f:=P o c i e j;rw[aHC,aI2,y] at i e;have k:=hs o c (aGI _) j e;rw[ltB,decide_eq_false_iff_not,getElem!_pos b o (by omega),getElem!_pos b c (by omega)] at k;simp only[List.getElem_map,Array.getElem_toList] at f ⊢;omega
 have k:b.toList.map Prod.fst=iY a:=Qy a3 (Tv N) (R.trans (jS a).symm);have x:∀ f∈b.toList.map oK,f∈a0:=λf c=>by
  obtain⟨e,j,rfl⟩:=aHd.1 c;rw[<- v];exact aHd.2 ⟨e,B.subset j,rfl⟩
 have z:(Sort.flatK oK 7 b).size=n*7:=by rw[Sort.size_flatK,y]
 obtain⟨q1,q2⟩:=Ps (F:=Sort.flatK oK 7 b) (cur:=cur) (by rw[z,L];exact Nat.mul_le_mul_right 7 S);have Q:(Sort.flatK oK 7 b).toList=(b.toList.map oK).flatten:=by have:=Sr b.toList;simpa using this
 have r:(iY a).length=n:=by rw[(jS a).length_eq,A]
 rw[<- k];refine⟨b.toList.map oK,⟨?_,.inr ⟨g,cap,_,by rw[k,r],hb,r1,by rw[k,r];exact S,a1,by rw[q1];exact L,?_⟩⟩,⟨by simp,λU f t c D=>?_⟩,λf c=>o3 f (x f c),λH a2 f c=>o4 H a2 f (x f c)⟩
 ·rw[<- Q,aI2,z,k,r]
 ·rw[k,r,<- z,q2,Q]
 rw[aHt] at c D;obtain⟨e,j⟩:∃ e,b.toList[U]?=M e:=by
  cases hk:b.toList[U]? with
  | none=>rw[hk] at c;cases c
  | some e=>exact⟨e,rfl⟩
 rw[j] at c D;cases c;cases D;obtain⟨o,i⟩:=aHK.1 (B.subset (aGC j));have U:=X.each o (oK e) e.1 (by rw[<- v,aHt,i];rfl) (by rw[<- u,aHt,i];rfl);exact gY U r2 (o4 g rfl (oK e) (x _ (aHd.2 ⟨e,aGC j,rfl⟩)))
theorem Ni (W:y4) (c:y5):y8 prog 255 #[O J 0 0,Y Z 0,Y Z 0,c] W λa b=>a=zv (zw #[])/\b=W:=by
 go_enter func255,ntmps255;go_wp2;refine wp_loop_rounds 1 ?_;rw[rounds_succ];go_wp2;go_end0;exact⟨rfl,rfl⟩
theorem aDP (W:y4) (l:Int) (g:Nat) (lb:Array y5):y8 prog 237 #[O J 0 0,Y Z 0,Y Z 0,l,zy (.func g) #[] lb] W λa b=>a=zv (zw #[])/\b=W:=by
 have c:=I (Ni W (zy (.func g) #[] lb));go_enter func237,ntmps237;go_wp2;refine wp_loop_rounds 1 ?_;rw[rounds_succ];go_wp2_with (go_at_call 255;refine c.m ?_;rintro a b ⟨rfl,rfl⟩)
 (try simp only[Exit.inBlock,Exit.then]);refine v6 (results_none rfl _ _ _) rfl ?_
 exact⟨rfl,rfl⟩
theorem Qz (W:y4):y8 prog 197 #[O J 0 0,zy (.func 198) #[] #[]] W λa b=>a=zv (zw #[])/\b=W:=by
 obtain⟨c,d⟩:=zr (Jr 0 W (by omega)) (λl=>aDP W l 198 #[]);go_enter func197,ntmps197;go_wp2_with fail;refine c.m ?_;rintro a b ⟨⟨l,rfl⟩,e⟩;obtain rfl:=e.symm;go_wp2_with (go_at_call 237;refine(d l).m ?_;rintro a b ⟨rfl,rfl⟩);go_end0;exact⟨rfl,rfl⟩
theorem cH.keptR {ex:List Nat} {B:Nat} {W W':y4} {u v:y5} {l:List Queue} {b:List aH} {row:Option Nat} (c:cH ex B W u v l b) (d:W.grownBy W' row) (f:∀ a,row=M a->a∈ex):cH ex B W' u v l b:=by
 cases row with
 | none=>exact c.e ((b8 W).gr (v:=.bool true) d (λe e=>by cases e))
 | some a=>exact c.kept d (f a rfl)
theorem cH.take1 {ex:List Nat} {B gb z cap k:Nat} {W:y4} {u:y5} {l:List Queue} {b:List aH} {x:aH} (d:cH ex B W u (O (M ⟨gb,0,J⟩) z cap) l b) (hz:b.length=z) (C:b[k]?=M x) :
  ∃ p i:y5,nE W gb (k*7) x p i/\aM W p x.P.A/\bF W i x.L/\fW W [Y Z x.Id,Y Z x.P.B,Y Z x.P.D,Y Z x.P.C,Y Z x.P.E,p,i] x/\wL x/\
   ∀ s∈([Y Z x.Id,Y Z x.P.B,Y Z x.P.D,Y Z x.P.C,Y Z x.P.E,p,i]:List y5),∀ a n c,s=O (M a) n c->a.block<W.heap.size/\a.block≠gb/\B<=a.block/\a.block∉ex/\∀ v,u.ownBlock=M v->a.block≠v:=by
 obtain⟨N,qc,rfl,h1,h2,h5,a4,a7,hs,he,G,hc,⟨r,o1,t,o3,o4⟩,a9,hq⟩:=d;rcases o1.2 with ⟨q,_⟩|⟨y,H,a3,q,hb,U,a8,a5,a6,a2⟩
 ·cases q
 have a0:=(aGw.1 C).1;obtain⟨g,A⟩:=aV (f:=r) (k:=k) (by rw[t.len];exact a0);have F:=t.each k g x A C;have D:=aGC A;have P:∀ g∈r,g.length=7:=t.seven;have V:y=gb/\H=cap:=by cases q;exact⟨rfl,rfl⟩
 obtain⟨rfl,rfl⟩:=V;have h:∀ (o:Nat) w,o<7->g[o]?=M w->W ⟨y,k*7+o,J⟩=M w:=λo w X q=>by
  refine mI U ?_;have j:=Jg (m:=7) (by omega) r P k o X;rw[A] at j;have e:r.flatten[k*7+o]?=M w:=by rw[j];exact q
  rw[<- a2,aGA] at e;split at e
  ·exact e
  cases e
 have a1:=lR t (λx hx=>(G x hx).1) g D;have Q:=o3 g D;have R:=o4 y rfl g D;have S:=F;obtain⟨qs,i,rfl,⟨p,rfl,hp,i1,i2,i3,i4⟩,T,i5⟩:=F;refine⟨p,i,⟨h 0 _ (by omega) rfl,h 1 _ (by omega) rfl,h 2 _ (by omega) rfl,h 3 _ (by omega) rfl,h 4 _ (by omega) rfl,h 5 _ (by omega) rfl,h 6 _ (by omega) rfl⟩,hp,T,S,G x (aGC C),λs E a n c j=>?_⟩;have K:=a1 s E a n c j;have e:=Q s E a n c j;have L:=R s E a n c j;refine⟨K,λd=>L (aHf.2 d),?_,λd=>e (aGc _ (aHV _ d)),λv hr d=>e ?_⟩
 ·rcases aGD a.block B with d|d
  ·exact absurd (aGc _ (aHW _ (aGN.2 d))) e
  exact d
 have:N=v:=by simpa[aHR] using hr
 rw[d,<- this];exact aHv ..
structure dZ (w0:y4) (X gq qc gb cap:Nat) (c nx:Int) (l:List Queue) (b a:List aH) (va:y5) (W:y4):Prop where
 box:W.heap[X]?=M (zt #[c,nx,O (M ⟨gq,0,J⟩) l.length qc,O (M ⟨gb,0,J⟩) b.length cap] 34 (0,0))
 own:cH (va.ownBlock.toList++[X]) w0 W (O (M ⟨gq,0,J⟩) l.length qc) (O (M ⟨gb,0,J⟩) b.length cap) l b
 away:fH (gb::gq::X::List.range w0) w0 W va a
 apart:va.ownBlock≠M X
 live:Am a
 e:d7 w0 W
 low:w0<=X
variable {w0 W:y4} {X gq qc gb cap:Nat} {c nx:Int} {l:List Queue} {b a:List aH} {va:y5}
theorem dZ.ne (e:dZ w0 X gq qc gb cap c nx l b a va W) {r:Nat} (f:va.ownBlock=M r):r≠gb/\r≠gq/\r≠X/\w0<=r/\r<W.heap.size:=by
 obtain⟨m,u,d,n,p,q,o,s,t,h,_,_,_,i,_⟩:=e.own;cases d;obtain⟨k,j,_⟩:=e.away;have:=j.lt r f;have g:r∈va.ownBlock.toList++[X]:=aHV _ (by rw[f];exact aHf.2 rfl);exact⟨λd=>(i gb rfl).2 (d▸g),λd=>h (d▸g),λd=>e.apart (d▸f),this.1,this.2⟩
theorem dZ.gbX (f:dZ w0 X gq qc gb cap c nx l b a va W):gb≠X/\w0<=gb/\gb<W.heap.size/\gq≠X/\gq≠gb:=by
 obtain⟨j,r,d,k,n,o,m,p,q,g,_,_,⟨i,h,_⟩,e,_⟩:=f.own;cases d;have:=h.lt gb rfl;exact⟨λd=>(e gb rfl).2 (d▸aHW _ (aHf.2 rfl)),this.1,this.2,λd=>g (d▸aHW _ (aHf.2 rfl)),(e gb rfl).1⟩
theorem dZ.later {W':y4} (d:dZ w0 X gq qc gb cap c nx l b a va W) (e:d7 W W'):dZ w0 X gq qc gb cap c nx l b a va W':=
 ⟨aZ d.box e,d.own.e e,d.away.e e,d.apart,d.live,d.e.r e,d.low⟩
theorem dZ.push {W':y4} {k g2 cap2:Nat} {x:aH} {p m:y5} {r:List (List y5)} (d:dZ w0 X gq qc gb cap c nx l b a va W)
  (L:W.ownsRow w0 80 7 va a.length r.flatten) (w:fP W r a) (N:oJ (gb::gq::X::List.range w0) r) (P:∀ e,va.ownBlock=M e->oJ [e] r)
  (C:fW W [Y Z x.Id,Y Z x.P.B,Y Z x.P.D,Y Z x.P.C,Y Z x.P.E,p,m] x) (F:wL x)
  (B:∀ s∈([Y Z x.Id,Y Z x.P.B,Y Z x.P.D,Y Z x.P.C,Y Z x.P.E,p,m]:List y5),∀ f n q,s=O (M f) n q->f.block<W.heap.size/\f.block≠gb/\w0.heap.size<=f.block/\f.block∉va.ownBlock.toList++[X]/\∀ j,(O (M ⟨gq,0,J⟩) l.length qc).ownBlock=M j->f.block≠j)
  (G:W'.ownsRow w0 80 7 (O (M ⟨g2,0,J⟩) (a.length+1) cap2) (a.length+1) (r.flatten++[Y Z x.Id,Y Z x.P.B,Y Z x.P.D,Y Z x.P.C,Y Z x.P.E,p,m]))
  (t:(W.alloc (zt #[x.Id,x.P.B,x.P.D,x.P.C,x.P.E,p,m] 80)).grownBy W' va.ownBlock)
  (v:va.ownBlock=M g2\/g2=W.heap.size+1) :
  dZ w0 X gq qc gb cap c nx l b (a++[x]) (O (M ⟨g2,0,J⟩) (a++[x]).length cap2) W':=by
 have hlen:(a++[x]).length=a.length+1:=by simp
 have i:d7 W (W.alloc (zt #[x.Id,x.P.B,x.P.D,x.P.C,x.P.E,p,m] 80)):=(b8 W).a _;have H:(W.alloc (zt #[x.Id,x.P.B,x.P.D,x.P.C,x.P.E,p,m] 80)).heap.size=W.heap.size+1:=aHb ..;have A:=(aGq.1 d.box).1;obtain⟨S,T,U,V,n5⟩:=d.gbX;have E:g2≠X/\g2≠gb/\g2≠gq:=by
  rcases v with e|e
  ·have:=d.ne e;exact⟨this.2.2.1,this.1,this.2.1⟩
  obtain⟨h,o,g,_,u⟩:=d.own.uform;cases g;exact⟨by omega,by omega,by omega⟩
 refine⟨?_,?_,?_,?_,Yk d.live F,?_,d.low⟩
 ·exact(t.block X (aGs A i.size) (λg=>(d.ne g.symm).2.2.1 rfl)).trans (aZ d.box i)
 ·have o:=d.own.e i;have y:cH (g2::(va.ownBlock.toList++[X])) w0 (W.alloc (zt #[x.Id,x.P.B,x.P.D,x.P.C,x.P.E,p,m] 80)) (O (M ⟨gq,0,J⟩) l.length qc) (O (M ⟨gb,0,J⟩) b.length cap) l b:=by
   rcases v with e|e
   ·exact o.low (aGi _) (λj h=>by
     rcases aH1.1 h with rfl|h
     ·exact aHV _ (by rw[e];exact aHf.2 rfl)
     exact h)
   exact o.box (by omega)
  refine(y.keptR t (λj h=>aGc _ (aHV _ (by rw[h];exact aHf.2 rfl)))).low (aGi _) (λj h=>?_);have z:j=g2\/j=X:=by simpa[aHR] using h
  rcases z with rfl|rfl
  ·exact aHv ..
  exact aGc _ (aHW _ (aHf.2 rfl))
 ·rw[hlen];refine fH.snoc (aJ L i) (w.m i) N P (λy D s u f n q g=>aGs (lR w (λR K=>(d.live R K).1) y D s u f n q g) i.size) (C.m i) (λs u f n q g=>?_) G rfl t (by rw[H];exact v);obtain⟨Q,p2,p3,p4,p5⟩:=B s u f n q g;refine⟨aGs Q i.size,λo=>?_,λj h z=>p4 (aHV _ (by rw[h,z];exact aHf.2 rfl))⟩;rcases aH1.1 o with e|o
  ·exact p2 e
  rcases aH1.1 o with e|o
  ·exact p5 gq rfl e
  rcases aH1.1 o with e|o
  ·exact p4 (aHW _ (aHf.2 e))
  have:=aGN.1 o;omega
 ·intro g;have:g2=X:=by simpa[aHR] using g
  exact E.1 this
 exact(d.e.r i).gr t (λk e=>(d.ne e).2.2.2.1)
theorem dZ.drop {W':y4} {k:Nat} (d:dZ w0 X gq qc gb cap c nx l b a va W) (g:k<b.length) (j:cH (va.ownBlock.toList++[X]) w0 W' (O (M ⟨gq,0,J⟩) l.length qc) (O (M ⟨gb,0,J⟩) (b.length-1) cap) l (b.eraseIdx k)) (f:W.grownBy W' (M gb)) :
  dZ w0 X gq qc gb cap c nx l (b.eraseIdx k) a va (W'.setCell ⟨X,3,J⟩ (O (M ⟨gb,0,J⟩) (b.length-1) cap)):=by
 obtain⟨o,q,r,s,t⟩:=d.gbX;have m:=(aGq.1 d.box).1;have hlen:(b.eraseIdx k).length=b.length-1:=aId g;have n:=(f.block X m (λe=>o (b7 e).symm)).trans d.box;have i:=aN W' X 3 (O (M ⟨gb,0,J⟩) (b.length-1) cap);rw[<- hlen] at j i ⊢;refine⟨x6 W' X 3 _ _ _ n,j.kept i (aHW _ (aHf.2 rfl)),?_,d.apart,d.live,?_,d.low⟩
 ·exact(d.away.keptR f (aHv ..) (λp h=>(d.ne h).1)).keptR i (aGc _ (aGc _ (aHv ..))) (λp h=>(d.ne h).2.2.1)
 exact(d.e.gr (v:=O (M ⟨gb,0,J⟩) 0 0) f (λk g=>by have e:=b7 g;have h:gb=k:=e;omega)).se d.low _
def Vh (X:Nat) (W:y4):Nat:=match W ⟨X,3,J⟩ with|some (O _ n _)=>n|_=>0
theorem uP (d:dZ w0 X gq qc gb cap c nx l b a va W):Vh X W=b.length:=by
 unfold Vh;rw[y6 W X 3 _ _ _ d.box];rfl
structure aA0 (l:List Queue) (c:Nat) (b0 b a:List aH):Prop where
 go:Cy l c b.length b a=Xp l c b0
 sub:b.Sublist b0
 perm:(b++a).Perm b0
theorem aA0.step {c t q:Nat} {e:List aH} {x:aH} (d:aA0 l c e b a) (g:pC l b c t q) (f:b[qB l b t q]?=M x):aA0 l c e (b.eraseIdx (qB l b t q)) (a++[x]):=
 ⟨(Md g f).symm.trans d.go,(aIh ..).trans d.sub,(Rn f).trans d.perm⟩
theorem dZ.sorted {g n cp:Nat} {W':y4} (d:dZ w0 X gq qc gb cap c nx l b a (O (M ⟨g,0,J⟩) n cp) W) (j:fH (gb::gq::X::List.range w0) w0 W' (O (M ⟨g,0,J⟩) n cp) (iY a)) (f:W.grownBy W' (M g)) :
  dZ w0 X gq qc gb cap c nx l b (iY a) (O (M ⟨g,0,J⟩) n cp) W':=by
 have i:=d.ne (r:=g) rfl;exact⟨(f.block X (aGq.1 d.box).1 (λe=>i.2.2.1 (b7 e).symm)).trans d.box,d.own.kept f (aHV _ (aHf.2 rfl)),j,d.apart,
  λo k=>d.live o ((jS a).subset k),d.e.gr (v:=O (M ⟨g,0,J⟩) n cp) f (λm h=>by have e:=b7 h;have p:g=m:=e;omega),d.low⟩
def aFi (w0:y4) (X gq qc:Nat) (c nx:Int) (l:List Queue) (a:List aH) (e:r8) (w':y4):Prop:=
 ∃ va gb cap,e=zv va/\dZ w0 X gq qc gb cap c nx l (Xp l c.toNat a).1 (iY (Xp l c.toNat a).2) va w'/\a.length<=cap
theorem Ue (w0 w:y4) (X gq qc gb cap:Nat) (c nx:Int) (l:List Queue) (h:List aH) (C:dZ w0 X gq qc gb cap c nx l h [] (O J 0 0) w) (a9:h.length<=cap) (T:cQ l) (ad:∀ d∈h,bU l d) (aq:h.length<=12) (hc:0<=c/\c<=48) (hd:h.Pairwise (λd a0=>d.Id≠a0.Id)) :
  y8 prog 144 #[zz (M ⟨X,0,J⟩)] w (aFi w0 X gq qc c nx l h):=by
 obtain⟨ib,ax,ay,az,b0⟩:=s8 info80;obtain⟨H0,an,HD,a1,HC⟩:=zm C ad hd a9 hc;clear C ad hd a9 hc;go_enter func144,ntmps144;go_wp2;go_loopw [3] (λva wr=>∃ b a,Hid (dZ w0 X gq qc gb cap c nx l b a va wr)/\Hid (aA0 l c.toNat h b a)) (λva wr=>Vh X wr);exact⟨h,[],H0,I ⟨rfl,aIg.refl _,by rw[aG9]⟩⟩;obtain⟨b,a,g,m⟩:=hrel;have D:∀ d∈b,bU l d:=λd r=>an d (m.sub.subset r);have N:b.length<=12:=aGR m.sub.length_le aq;have n:=I (λe:bB wr=>fV e (v:=zw #[Y Z (lZ l b c.toNat).1,Y Z (lZ l b c.toNat).2.1,zx (lZ l b c.toNat).2.2]) (show y8 prog 156 #[O (M ⟨gq,0,J⟩) l.length qc,O (M ⟨gb,0,J⟩) b.length cap,c] e.v (wC e.v (lZ l b c.toNat)) from by
  have:=xH e.v _ _ l b c.toNat (by have:=HC.o;omega) (g.own.tree.m e.h) (g.own.books.m e.h) T D N;rwa [aHo HC.1] at this))
 have R:=λe:bB wr=>e.cell (y6 wr X 0 _ _ _ g.box);have S:=λe:bB wr=>e.cell (y6 wr X 2 _ _ _ g.box);have E:=λe:bB wr=>e.cell (y6 wr X 3 _ _ _ g.box);by_cases s:oH l b c.toNat
 ·rw[uY s] at n;have p:=I (show Xp l c.toNat h=(b,a) from m.go.symm.trans (Cx (Ao s) _));go_wp2_with fail;refine bY (by kernel_rfl) (by kernel_rfl) ?_
  repeat (go_big_quiet_step (first|with_reducible exact n.o _))
  refine i8 ?_;rintro U ⟨e,rfl⟩;have f:=I (g.later e.h);have A:a.Pairwise (λd a0=>d.Id≠a0.Id):=(List.pairwise_append.1 ((aIe.pairwise_iff (λC i=>C i.symm) m.perm).2 HD)).2.1;have a5:a.length<=12:=by have:=m.perm.length_eq;rw[aGb] at this;omega
  obtain⟨a3,o,u,x,y⟩:=f.away;rcases o.2 with ⟨rfl,z⟩|⟨t,cp,F,rfl,_⟩
  ·have q:a=[]:=aGv z;have j:=I (λW=>Qz W);clear n R S E o u x y;generalize e.v=V at *;go_wp2_with (go_at_call 197;refine(j _).m ?_;rintro i U ⟨rfl,rfl⟩);go_ret;refine⟨_,gb,cap,rfl,?_,a1⟩;rw[p.o,q];rw[q] at f;exact f
  have j:=I (aDK _ _ t a.length cp e.v a f.away rfl a5 A);clear n R S E o u x y;generalize e.v=V at *;go_wp2_with (go_at_call 197;refine j.m ?_;rintro i U ⟨rfl,B,q⟩);go_ret;refine⟨_,gb,cap,rfl,?_,a1⟩;rw[p.o];exact f.sorted B q
 obtain⟨ai,ah,t⟩:=zG s;obtain⟨d,r,_⟩:=Mm T D t;have au:=(aGw.1 r).1;have ao:=I (m.step t r);rw[yP t] at n;have aw:=t.2.1;have b1:¬ (oH l b c.toNat):=s;clear s;go_wp2_with fail;refine bY (by kernel_rfl) (by kernel_rfl) ?_
 repeat (go_big_quiet_step (first|with_reducible exact n.o _))
 refine i8 ?_;rintro U ⟨e,rfl⟩;obtain⟨f,aj⟩:=zr (g.later e.h) (uP g);clear n R S E g;generalize e.v=V at *;have VI:=I (aAg V X gb 0 cap b.length (O (M ⟨gq,0,J⟩) l.length qc) l b c nx ai ah f.box f.own.tree f.own.books rfl (by omega) T D N aw);generalize qB l b ai ah=k at *;go_wp2_with fail;refine VI.m ?_;rintro i p ⟨rfl,ag⟩;have q:=I (f.later ag);clear f VI ag;obtain⟨pv,bv,⟨c0,c1,c2,c3,c4,c5,c6⟩,af,a8,a7,ac,a6⟩:=q.own.take1 rfl r;obtain⟨a3,o,u,x,y⟩:=q.away;obtain⟨F,G,rfl,_⟩:=af.i;obtain⟨A,B,rfl,_⟩:=a8.i;have E:p ⟨X,3,J⟩=M (O (M ⟨gb,0,J⟩) b.length cap):=y6 p X 3 _ _ _ q.box;have a5:a.length<=12:=by have:=m.perm.length_eq;rw[aGb] at this;omega
 obtain⟨al,a2,am,ap,ak,K⟩:=zl (Dg p [Y Z d.Id,Y Z d.P.B,Y Z d.P.D,Y Z d.P.C,Y Z d.P.E,O F d.P.A.length G,O A d.L.length B] 80 rfl) (λW' g2 cap2=>q.push (W':=W') (g2:=g2) (cap2:=cap2) (k:=k) o u x y a7 ac a6) (aJ o ((b8 p).a (zt #[d.Id,d.P.B,d.P.D,d.P.C,d.P.E,O F d.P.A.length G,O A d.L.length B] 80))) (show w0.heap.size<=(p.alloc (zt #[d.Id,d.P.B,d.P.D,d.P.C,d.P.E,O F d.P.A.length G,O A d.L.length B] 80)).heap.size from (q.e.a _).size) N au;clear af a8 a7 ac a6 o u x y r t D;generalize av:d.P.A.length=pn at *;generalize ar:d.L.length=bn at *;clear av ar;go_wp2_with (at_builtin;refine n8 _ rfl _ _ 32 rfl w0 80 ib _ 7 88 underlying32 ax ay az b0 rfl (by decide) u3 a.length a3.flatten rfl am ⟨p,0,J⟩ 1 1 [Y Z d.Id,Y Z d.P.B,Y Z d.P.D,Y Z d.P.C,Y Z d.P.E,O F pn G,O A bn B] rfl rfl al (by simp[aGr]) (by omega) (by unfold o0;omega) (by omega) ap (p+1) (by simp) ?_;intro g2 cap2 z ae aa ab b2;have j:=I (a2 z g2 cap2 ae aa ab);have k4:z ⟨X,3,J⟩=M (O (M ⟨gb,0,J⟩) b.length cap):=y6 z X 3 _ _ _ j.box;clear ae aa ab);have DL:=I (Pi _ _ z _ gb b.length cap k l b j.own rfl K ak);refine DL.m ?_;rintro i L ⟨rfl,a4,Q⟩;have P:=(Q.block X (aGq.1 j.box).1 (λi=>j.gbX.1 (b7 i).symm)).trans j.box;have k5:L ⟨X,3,J⟩=M (O (M ⟨gb,0,J⟩) b.length cap):=y6 L X 3 _ _ _ P;have f5:=x4 L X 3 _ _ P;have H:=I (j.drop K a4 Q);clear P a4 Q k4 DL a2 q j;go_wp2;go_roundw
 case rel=>
  have i:(a++[d]).length=a.length+1:=by simp
  rw[i] at H;exact⟨_,_,H,ao⟩
 case measure=>rw[uP H.o,aj.o,aId K.o];omega
theorem Uf (w0 w:y4) (X:Nat) (u v:y5) (c nx:Int) (l:List Queue) (j:w.heap[X]?=M (zt #[c,nx,u,v] 34 (0,0))) (b:cH [X] w0 w u v l []) (m:cQ l) (q:0<=c/\c<=48) :
  y8 prog 144 #[zz (M ⟨X,0,J⟩)] w λi g=>i=zv (O J 0 0)/\d7 w g:=by
 obtain⟨gq,qc,rfl,_,_⟩:=b.uform;obtain⟨va,n,f,_⟩:=b.vform;have f:v=O va 0 n:=f;subst f;have k:oH l [] c.toNat:=λd y z a r=>by
  have:=zQ m r d;unfold bE;simp only[aU];omega
 obtain⟨h,d⟩:=zr b j;clear j b;go_enter func144,ntmps144;go_wp2_with fail;refine wp_loop_rounds 1 ?_;rw[rounds_succ];have e:=I (λa:bB w=>fV a (v:=zw #[Y Z (lZ l [] c.toNat).1,Y Z (lZ l [] c.toNat).2.1,zx (lZ l [] c.toNat).2.2]) (show y8 prog 156 #[O (M ⟨gq,0,J⟩) l.length qc,O va 0 n,c] a.v (wC a.v (lZ l [] c.toNat)) from by
  have:=xH a.v _ _ l [] c.toNat (by omega) (h.tree.m a.h) (h.books.m a.h) m (λo o=>by cases o) (by simp);rwa [aHo q.1] at this))
 have s:=λa:bB w=>a.cell (y6 w X 0 _ _ _ d);have t:=λa:bB w=>a.cell (y6 w X 2 _ _ _ d);have x:=λa:bB w=>a.cell (y6 w X 3 _ _ _ d);rw[uY k] at e;clear k
 go_wp2_with fail;refine bY (by kernel_rfl) (by kernel_rfl) ?_
 repeat (go_big_quiet_step (first|with_reducible exact e.o _))
 refine i8 ?_;rintro g ⟨a,rfl⟩;obtain⟨o,p⟩:=zr (λW=>Qz W) a.h;clear e s t x;generalize a.v=A at *;go_wp2_with (go_at_call 197;refine(o _).m ?_;rintro i g ⟨rfl,rfl⟩);go_ret;exact⟨rfl,p⟩
theorem Pd (w:y4) (b B cap:Nat) (f:List bK) (h:Nat) (lb:Array y5) (p:bK->Bool) (P:f.length<=17592186044416) (hb:b<w.heap.size) (v:∀ k x,f[k]?=M x->aA7 w b (B+k*2) x)
  (L:∀ (args:Array y5) (w:y4),(i6 h args).run prog w=.ok (.enter h args) w)
  (A:∀ (k:Nat) (x:bK),f[k]?=M x->∀ W,d7 w W->y8 prog h (#[.agg #[x.Piece,x.At]]++lb) W λd a=>d=zv (zx (p x))/\d7 W a) :
  y8 prog 242 #[O (M ⟨b,B,J⟩) f.length cap,zy (.func h) #[] lb] w λd a=>d=zv (Y Z (fX p f))/\d7 w a:=by
 obtain⟨C,D⟩:=zr v A;clear v A;generalize z:f.length=n at *;have r:=I z;clear z;go_enter func242,ntmps242;go_wp2;go_loopw [8] (λa wr=>∃ k:Nat,k<=n/\a=Y Z k/\Hid (∀ e g,e<k->f[e]?=M g->p g=false)/\d7 w wr) (λa _=>n-(intOf a).toNat);exact⟨0,aGI _,rfl,λe g j=>absurd j (aGf _),b8 _⟩;obtain⟨k,N,rfl,m,a⟩:=hrel;have K:b<wr.heap.size:=aGs hb a.size;by_cases E:k<n
 ·obtain⟨x,l⟩:=aV (f:=f) (k:=k) (by rw[r.o];exact E);obtain⟨t,u,G,H⟩:=C k x l;replace t:=a.c t;replace u:=a.c u;have y:=D k x l wr a;obtain⟨i,s⟩:=zr y l;clear y l;cases c:p x with
  | true=>
   rw[c] at i;have o:=I c;clear c;go_wp2_with fail;refine i.m ?_;rintro d F ⟨rfl,q⟩;go_wp2;go_ret;exact⟨aL (uF s o m).symm,a.r q⟩
  | false=>
   rw[c] at i;have o:=I c;clear c;go_wp2_with fail;refine i.m ?_;rintro d F ⟨rfl,q⟩;go_wp2;go_roundw;exact⟨k+1,by omega,by go_num,oZ s o m,a.r q⟩;simp[intOf];omega
 obtain rfl:k=n:=by omega
 go_wp2;go_ret;exact⟨aL (lL (λe g j c=>m e g (by rw[r.o] at j;exact j) c)).symm,a⟩
theorem Fg (w:y4) (v:y5) (f:List bK) (a:Nat) (lb:Array y5) (p:bK->Bool) (q:bF w v f)
  (m:∀ (args:Array y5) (w:y4),(i6 a args).run prog w=.ok (.enter a args) w)
  (g:∀ (k:Nat) (x:bK),f[k]?=M x->∀ W,d7 w W->y8 prog a (#[.agg #[x.Piece,x.At]]++lb) W λc d=>c=zv (zx (p x))/\d7 W d) :
  y8 prog 201 #[v,zy (.func a) #[] lb] w λc d=>c=zv (zx (f.any p))/\d7 w d:=by
 rcases q with ⟨rfl,t,u,rfl,A⟩|⟨b,s,cap,rfl,y,z,i,j,d⟩
 ·go_enter func201,ntmps201;go_wp2;go_loopw [8] (λe wr=>e=Y Z 0/\wr=w) (λe _=>0);exact⟨rfl,rfl⟩;obtain⟨rfl,rfl⟩:=hrel;go_wp2;go_ret;exact⟨rfl,b8 _⟩
 have e:=Pd w b s cap f a lb p i j d m g;obtain⟨h,l⟩:=zr e (uG p f);clear e g d;generalize fX p f=B at *;generalize o:f.length=n at *;clear o;generalize f.any p=C at *;go_enter func201,ntmps201;go_wp2_with fail;refine h.m ?_;rintro c D ⟨rfl,r⟩;go_wp2;go_ret;exact⟨fT l,r⟩
theorem aDb (W:y4) (x:bK) (N X:Nat) (c:Int) (b:W ⟨N,0,J⟩=M (zz (M ⟨X,0,J⟩))) (d:W ⟨X,0,J⟩=M (Y Z c)) :
  y8 prog 202 #[.agg #[x.Piece,x.At],zz (M ⟨N,0,J⟩)] W λa e=>a=zv (zx (decide (x.At<c)))/\d7 W e:=by
 have a:=(b8 W).a (zt #[x.Piece,x.At] 113);have f:=a.c b;have g:=a.c d;have e:=I a;clear a b d;go_enter func202,ntmps202;go_wp2;go_quiet (fail);go_wp2;go_ret;exact⟨rfl,e.dn _⟩
theorem aFZ {α:Type} {p:α->Bool} {f:List α} {k:Nat} {x:α} (a:f[k]?=M x) (b:p x=true):f.any p=true:=List.any_eq_true.2 ⟨x,aGC a,b⟩
theorem aFY {α:Type} {p:α->Bool} {f:List α} (d:∀ a b,a<f.length->f[a]?=M b->p b=false):f.any p=false:=by
 rw[aGU];intro b e;obtain⟨a,c⟩:=aHK.1 e;rw[d a b (aGw.1 c).1 c];exact Bool.false_ne_true
theorem aDg (w:y4) (B u:y5) (x:aH) (c:Int) (A:aM w B x.P.A) (hb:bF w u x.L) :
  y8 prog 120 #[Eo x B u,c] w λn a=>n=zv (zx (vZ c x))/\d7 w a:=by
 obtain⟨o,q,rfl,_⟩:=A.i;have C:=I hb;obtain⟨h,i,rfl,W,X,V⟩:=hb.i;obtain⟨m,D⟩:=zr ((b8 w).a (zt #[x.Id,x.P.B,x.P.D,x.P.C,x.P.E,O o x.P.A.length q,O h x.L.length i] 80)) (y7 w (zt #[x.Id,x.P.B,x.P.D,x.P.C,x.P.E,O o x.P.A.length q,O h x.L.length i] 80));clear A hb;generalize x.P.A.length=H at *;generalize y:x.L.length=e at *;have t:=I y;clear y;go_enter func120,ntmps120;go_wp2_with fail;generalize w.alloc (zt #[x.Id,x.P.B,x.P.D,x.P.C,x.P.E,O o H q,O h e i] 80)=K at *;go_loopw [5] (λd wr=>∃ k:Nat,k<=e/\d=Y Z k/\Hid (∀ g a,g<k->x.L[g]?=M a->decide (a.At<c)=false)/\wr=K) (λd _=>e-(intOf d).toNat);exact⟨0,aGI _,rfl,I (λg a j=>absurd j (aGf _)),rfl⟩;obtain⟨k,hk,rfl,s,rfl⟩:=hrel;have k6:wr ⟨w,6,J⟩=M (O h e i):=(eH D).2.2.2.2.2.2.1;by_cases G:k<e
 ·obtain⟨a,d⟩:=aV (f:=x.L) (k:=k) (by rw[t.o];exact G);obtain⟨b,a0,cap,n,R,S,T,U,v⟩:=(C.m m).resolve_left (λF=>by have:=F.1;rw[this] at d;cases d);cases n;obtain⟨L,N,P,Q⟩:=v k a d;have r:=I d;clear v d;by_cases z:a.At<c
  ·have l:=I (show vZ c x=true from aFZ r (decide_eq_true z));go_wp2;go_ret;exact⟨fT l.symm,m⟩
  have E:=I (oZ (p:=λa:bK=>decide (a.At<c)) r (decide_eq_false z) s);go_wp2;go_roundw;exact⟨k+1,by omega,by go_num,E,trivial⟩;simp[intOf];omega
 obtain rfl:k=e:=by omega
 have l:=I (show vZ c x=false from aFY (λg a j d=>s g a (by rw[t.o] at j;exact j) d));go_wp2;go_ret;exact⟨fT l.symm,m⟩
theorem cH.rowI {ex:List Nat} {B g z cap i:Nat} {W:y4} {u:y5} {l:List Queue} {b:List aH} {x:aH} {cs:List y5} (d:cH ex B W u (O (M ⟨g,0,J⟩) z cap) l b) (F:b.length=z) (hi:i<=z) (ae:z<12) (ac:z<cap)
  (K:fW W cs x) (a6:wL x) (A:∀ s∈cs,∀ a n c,s=O (M a) n c->a.block<W.heap.size/\a.block≠g/\B<=a.block/\a.block∉ex/\∀ w,u.ownBlock=M w->a.block≠w) :
  ∃ (css:List (List y5)) (cur:Array y5),W.heap[g]?=M (zt cur 80 (0,0))/\cur.size=cap*7/\cur.toList.take (z*7)=css.flatten/\css.length=z/\(∀ cs∈css,cs.length=7)/\(∀ u∈css.flatten,u.oneCell'=true)/\cap<=o0/\B<=g/\
   ∀ (W':y4) (q:Array y5),W.grownBy W' (M g)->W'.heap[g]?=M (zt q 80 (0,0))->q.size=cap*7->q.toList.take ((z+1)*7)=(css.take i++cs::css.drop i).flatten->
    cH ex B W' u (O (M ⟨g,0,J⟩) (z+1) cap) l (b.take i++x::b.drop i):=by
 obtain⟨gq,qc,rfl,Q,S,T,R,a4,o,he,hl,V,⟨css,P,p,o3,o4⟩,N,hq⟩:=d;rw[F] at P R;rcases P.2 with ⟨E,_⟩|⟨G,ab,cur,E,H,a1,ad,L,a0,aa⟩
 ·cases E
 cases E;refine⟨css,cur,a1,a0,aa,by rw[p.len,F],p.seven,p.one,L,H,λW' q t a2 a8 a9=>?_⟩;have a5:=zT K;have hlen:css.length=z:=by rw[p.len,F]
 have X:(css.take i++cs::css.drop i).length=z+1:=by simp only[aGb,aHB,aGt,aI4];omega
 have C:(b.take i++x::b.drop i).length=z+1:=by simp only[aGb,aHB,aGt,aI4];omega
 have D:∀ e∈css.take i++cs::css.drop i,e∈css\/e=cs:=λe k=>by
  rcases aGe.1 k with d|d
  ·exact .inl (aHA d)
  rcases aH1.1 d with d|d
  ·exact .inr d
  exact .inl (aI3 d)
 have a7:∀ m∈b.take i++x::b.drop i,m∈b\/m=x:=λe k=>by
  rcases aGe.1 k with d|d
  ·exact .inl (aHA d)
  rcases aH1.1 d with d|d
  ·exact .inr d
  exact .inl (aI3 d)
 have U:∀ e∈css.take i++cs::css.drop i,e.length=7:=λe k=>by
  rcases D e k with d|rfl
  ·exact p.seven e d
  exact a5
 have y:=o4 g rfl;refine⟨gq,qc,rfl,Q,S,T,by omega,a4,aGs o t.size,he,λm j=>?_,V,⟨css.take i++cs::css.drop i,⟨?_,.inr ⟨g,cap,q,by rw[C],H,a2,by omega,L,a8,by rw[C];exact a9⟩⟩,⟨by omega,λf e m h j=>?_⟩,λe k=>?_,λG a3 e k=>?_⟩,λw hr=>N w hr,?_⟩
 ·rcases a7 m j with d|rfl
  ·exact hl m d
  exact a6
 ·rw[iP _ U,X,C]
 ·rcases Nat.lt_trichotomy f i with d|d|d
  ·rw[aHI (by simp only[aHB];omega),aHQ d] at h j;exact gY (p.each f e m h j) t (y e (aGC h))
  ·subst d;rw[aHJ (by simp only[aHB];omega)] at h j;rw[show f-(css.take f).length=0 by simp only[aHB];omega] at h;rw[show f-(b.take f).length=0 by simp only[aHB];omega] at j;cases h;cases j;exact gY K t (λs o a n c r v=>(A s o a n c r).2.1 (aHf.1 v))
  rw[aHJ (by simp only[aHB];omega)] at h j;rw[show f-(css.take i).length=(f-1-i)+1 by simp only[aHB];omega,aIs,aGG] at h;rw[show f-(b.take i).length=(f-1-i)+1 by simp only[aHB];omega,aIs,aGG] at j;rw[show i+(f-1-i)=f-1 by omega] at h j;exact gY (p.each (f-1) e m h j) t (y e (aGC h))
 ·rcases D e k with d|rfl
  ·exact o3 e d
  intro s o a n c r v;obtain⟨q1,q2,q3,f,q5⟩:=A s o a n c r;rcases aH1.1 v with d|d
  ·exact q5 gq rfl d
  rcases aGe.1 d with d|d
  ·exact f d
  have:=mJ d;omega
 ·obtain rfl:g=G:=by simpa[aHR] using a3
  rcases D e k with d|rfl
  ·exact y e d
  exact λs o a n c r v=>(A s o a n c r).2.1 (aHf.1 v)
 exact hq.kept t (aHV _ (aHf.2 rfl)) (N g rfl).1
theorem wH {P:o9} (w:y4) (h v x elem:o8) (g b o e j:Nat) (a:Addr) (f u:Nat) (cs:List y5)
  (s:P.underlying h=M (.slice elem)) (i:(P.info? elem).map (·.size)=M g) (p:cs.length=aIt f e*g)
  (q:∀ c d,cs[c]?=M d->w (a.add c)=M d) (l:∀ c,c<cs.length->(w ⟨b,o+c,J⟩).isSome=true) (m:∀ c,c<cs.length->w.frozen? ⟨b,o+c,J⟩=false) (k:∀ d∈cs,d.oneCell'=true) :
  (Builtin.copy_ #[h,v] x #[O (M ⟨b,o,J⟩) e j,O (M a) f u]).run P w=.ok (goInt (aIt f e)) (w.setCells b o cs):=by
 have d:=run_loadCells_list (P:=P) w a cs q;have r:=run_storeCells_cells (P:=P) b o cs 0 w (by simpa using l) (by simpa using m) k;cases c:P.info? elem with
 | none=>simp[c] at i
 | some t=>
  have n:t.size=g:=by simpa[c] using i
  rw[p] at d;simp[Builtin.copy_,run_underlying s,Builtin.lenOf,Builtin.firstCells,sizeOf,typeInfo,c,n,d,r]
theorem Cf {P:o9} {h:Array Oper} {rest:List Oper} {o:Oper} {a:Act} {w:y4} {Q:Exit->Act->y4->Prop} (p:o.guard=J) (s x:Operand) (t:o8)
  (v:o.op=.call { callee:=.builtin .append,args:=#[s,x],argTypes:=#[t,t]}) (e:o8) (i:TypeInfo) (A:P.underlying t=M (.slice e)) (q:P.info? e=M i)
  (g n cap:Nat) (cur:Array y5) (l:w.heap[g]?=M (zt cur e (0,0))) (z:a.eval s=O (M ⟨g,0,J⟩) n cap) (d:Addr) (m c:Nat) (news:List y5) (B:a.eval x=O (M d) m c)
  (r:news.length=m*i.size) (u:∀ f b,news[f]?=M b->w (d.add f)=M b) (f:∀ b∈news,b.oneCell'=true) (y:n+m<=cap) (k:n*i.size+news.length<=cur.size)
  (b:wpList P h Q rest (a.put o.dst (O (M ⟨g,0,J⟩) (n+m) cap)) (w.setRow g (cur.toList.take (n*i.size)++news++cur.toList.drop (n*i.size+news.length)).toArray)):wpList P h Q (o::rest) a w:=
 wpList_plain p λ_ j=>sV s x t v e i A q g n cap cur l z d m c news B r u f y k (j _ _ b)
theorem Ra {W:y4} {b:Nat} {cur:Array y5} {T:o8} {fr:Nat × Nat} (a:W.heap[b]?=M (zt cur T fr)):W.shape? b=M (T,cur.size):=by simp[World.shape?,a]
theorem Tx {g i z cap:Nat} {W:y4} {cur:Array y5} {css:List (List y5)} {cs:List y5} {T:o8} (x:W.heap[g]?=M (zt cur T (0,0))) (a:cur.size=cap*7) (B:cur.toList.take (z*7)=css.flatten) (A:css.length=z) (n:∀ cs∈css,cs.length=7) (b:cs.length=7) (D:i<=z) (E:z<cap) :
  ∃ d,((W.setCells g ((i+1)*7) (css.drop i).flatten).setCells g (i*7) cs).heap[g]?=M (zt d T (0,0))/\d.size=cap*7/\d.toList.take ((z+1)*7)=(css.take i++cs::css.drop i).flatten/\W.grownBy ((W.setCells g ((i+1)*7) (css.drop i).flatten).setCells g (i*7) cs) (M g):=by
 have j:(css.drop i).flatten.length=(z-i)*7:=by rw[iP _ (λc y=>n c (aI3 y)),aI4,A]
 obtain⟨f,p,k,l,C⟩:=mA (css.drop i).flatten ((i+1)*7) W cur x (by rw[j,a];omega);obtain⟨t,q,r,m,s⟩:=mA cs (i*7) (W.setCells g ((i+1)*7) (css.drop i).flatten) f p (by rw[b,k,a];omega);refine⟨t,q,by rw[r,k,a],?_,bT (iC W g _ _) (iC _ g _ _)⟩;have u:(css.take i).flatten=cur.toList.take (i*7):=by
  rw[<- pA css n i,<- B,aI0,show min (i*7) (z*7)=i*7 by omega]
 have v:f.toList.take (i*7)=cur.toList.take (i*7):=by
  have:=congrArg (List.take (i*7)) l;rw[aI0,List.take_append_of_le_length (by rw[aHB,aI2,a];omega),aI0,show min (i*7) ((i+1)*7+(css.drop i).flatten.length)=i*7 by omega,show min (i*7) ((i+1)*7)=i*7 by omega] at this;exact this
 rw[aHS,aHH,u];refine aIl λe=>?_;have h:(cur.toList.take (i*7)).length=i*7:=by rw[aHB,aI2,a];omega
 rcases aGD e (i*7+7) with d|d
 ·rw[<- aIf,aHI (by rw[aGb,h,b];exact d),aHQ (by omega)];rw[v,b] at m;rw[<- m,aHQ d]
 rw[<- aIf,aHJ (by rw[aGb,h,b];exact d),aGb,h,b];rcases aGD e ((z+1)*7) with o|o
 ·rw[aHQ o,s e (by rw[b];exact d)];have w:f.toList[e]?=(f.toList.take ((i+1)*7+(css.drop i).flatten.length))[e]?:=by rw[aHQ (by rw[j];omega)]
  rw[w,l,aHJ (by rw[aHB,aI2,a];omega),aHB,aI2,a];congr 1;omega
 rw[aHN (by rw[aHB];omega),aHN (by rw[j];omega)]
theorem aBo (ex:List Nat) (B:Nat) (w:y4) (u:y5) (g z cap i f:Nat) (l:List Queue) (b:List aH) (x:aH) (cs:List y5) (V:cH ex B w u (O (M ⟨g,0,J⟩) z cap) l b) (hz:b.length=z) (hi:i<=z) (ah:z<12) (a3:z<cap)
  (L:fW w cs x) (af:wL x) (X:∀ s∈cs,∀ a n c,s=O (M a) n c->a.block<w.heap.size/\a.block≠g/\B<=a.block/\a.block∉ex/\∀ d,u.ownBlock=M d->a.block≠d) (N:∀ j∈cs,j.oneCell'=true)
  (t:w.heap[f]?=M (zt cs.toArray 80 (0,0))) (a7:f≠g) :
  y8 prog 203 #[O (M ⟨g,0,J⟩) z cap,Y Z (i:Int),O (M ⟨f,0,J⟩) 1 1] w λe d=>
   e=zv (O (M ⟨g,0,J⟩) (z+1) cap)/\cH ex B d u (O (M ⟨g,0,J⟩) (z+1) cap) l (b.take i++x::b.drop i)/\w.grownBy d (M g):=by
 obtain⟨m,o,p,q,G,hlen,E,D,ab,ar,Q⟩:=V.rowI hz hi ah a3 L af X;obtain⟨y,aa,ai,F,aj⟩:=s8 info80;have r:=zT L;have aq:cap<=9223372036854775807:=by unfold o0 at ab;omega
 have a1:∀ (d:Nat) j,cs[d]?=M j->w ((⟨f,0,J⟩:Addr).add d)=M j:=λd j h=>by
  rw[Jw,aGx,y6 w f d _ _ _ t];simpa using h
 have al:¬ (cap=i):=by omega
 rcases aGD i z with ae|ae
 ·have au:¬ ((i:Int)=(z:Int)):=by omega
  have P:(m.drop i).flatten.length=(z-i)*7:=by rw[iP _ (λc hc=>E c (aI3 hc)),aI4,hlen]
  have a8:(prog.info? 80).map (·.size)=M 7:=by rw[aa];simp[F]
  have ag:∀ k U,(i6 243 #[O (M ⟨f,0,J⟩) 1 1,O (M ⟨g,(i+1)*7,J⟩) k U]).run prog w=.ok (.value (zx false)) w:=λk U=>by
   rw[run_callFunc_extern func243 (by kernel_rfl) (by kernel_rfl) (by kernel_rfl) (e:=Extern.SlicesOverlaps.overlaps #[32,32] #[4]) (by kernel_rfl),
    Lib.run_overlaps_apart w 32 4 80 underlying32 7 Tryz.sizeOfBook ⟨f,0,J⟩ ⟨g,(i+1)*7,J⟩ 1 1 k U a7 _ _ _ _ (Ra t) (Ra p) (by rw[q];omega) (x4 w f 0 _ _ t) (x4 w f _ _ _ t)]
   rfl
  have a4:∀ (d:Nat) j,d<z*7->m.flatten[d]?=M j->w ⟨g,d,J⟩=M j:=λd j h H=>mI p (by rw[<- G,aHQ h] at H;exact H);have a5:∀ A v sc,(Builtin.copy_ #[32,32] A #[O (M ⟨g,(i+1)*7,J⟩) (z-i) v,O (M ⟨g,i*7,J⟩) (z+1-i) sc]).run prog w.drew=.ok (goInt (aIt (z+1-i) (z-i))) (w.drew.setCells g ((i+1)*7) (m.drop i).flatten):=λA v sc=>
   wH w.drew _ _ A 80 7 g ((i+1)*7) (z-i) v ⟨g,i*7,J⟩ (z+1-i) sc (m.drop i).flatten underlying32 a8 (by rw[P];congr 1;simp only[aIu];split <;> omega)
    (λd j h=>by
     have k:=(aGw.1 h).1;rw[P] at k;rw[Jw];refine a4 _ j (by omega) ?_;rw[<- fJ m E,aGG] at h;exact h)
    (λd h=>by
     rw[P] at h;show (w ⟨g,(i+1)*7+d,J⟩).isSome=true;rw[y6 w g _ _ _ _ p,getElem?_pos o _ (by rw[q];omega)];rfl)
    (λd h=>x4 w g _ _ _ p) (λj H=>by rw[<- fJ m E] at H;exact D j (aI3 H))
  obtain⟨c1,r1,r2,r3,R⟩:=Tx (W:=w.drew) (i:=i) (z:=z) p q G hlen E r hi a3;obtain⟨k,K⟩:∃ k,w.drew.setCells g ((i+1)*7) (m.drop i).flatten=k:=⟨_,rfl⟩;have a6:w.drew.grownBy k (M g):=K▸iC w.drew g _ _;have a2:∃ C,k.heap[g]?=M (zt C 80 (0,0))/\C.size=cap*7:=by
   obtain⟨C,S,T,_⟩:=mA (m.drop i).flatten ((i+1)*7) w.drew o p (by rw[P,q];omega);rw[K] at S;exact⟨C,S,T.trans q⟩
  obtain⟨C,a0,ad⟩:=a2;have a9:k.heap[f]?=M (zt cs.toArray 80 (0,0)):=(a6.block f (aGq.1 t).1 (λe=>a7 (b7 e))).trans t;have ac:∀ A v,(Builtin.copy_ #[32,32] A #[O (M ⟨g,i*7,J⟩) (z+1-i) v,O (M ⟨f,0,J⟩) 1 1]).run prog k=.ok (goInt (aIt 1 (z+1-i))) (k.setCells g (i*7) cs):=λA v=>
   wH k _ _ A 80 7 g (i*7) (z+1-i) v ⟨f,0,J⟩ 1 1 cs underlying32 a8 (by rw[r];simp only[aIu];split <;> omega)
    (λd j h=>by rw[Jw,aGx,y6 k f d _ _ _ a9];simpa using h)
    (λd h=>by rw[y6 k g _ _ _ _ a0,getElem?_pos C _ (by rw[ad];omega)];rfl) (λd h=>x4 k g _ _ _ a0) N
  rw[K] at a5 r1 R;obtain⟨T,S⟩:=zr (Q _ c1 (bT (cC (d7.dr (b8 w))) R) r1 r2 r3) (bT (cC (d7.dr (b8 w))) R);have av:IntKind.i64.wrap ((i:Int)+1)=(i:Int)+1:=by rw[IntKind.wrap_i64];omega
  have aw:IntKind.i64.wrap ((z:Int)+1)=(z:Int)+1:=by rw[IntKind.wrap_i64];omega
  have a2:(0:Int)<=(i:Int)+1:=by omega
  have ak:¬ (cap=i+1):=by omega
  have am:(i:Int)+1<=(z:Int)+1:=by omega
  have an:(i:Int)<=(z:Int)+1:=by omega
  have ao:(z:Int)+1<=(cap:Int):=by omega
  have ap:¬ ((z:Int)+1>(cap:Int)):=by omega
  have mixed:prog.follows .mixedOrders=true:=by kernel_rfl
  clear V Q p G D E t a1 L X N K a6 a0 a9 r1 r3 R a4;go_enter func203,ntmps203;go_wp2_with (simp only[ag])
  go_region_law_o (refine step_copy_runI rfl _ _ 32 32 rfl _ _ (by simp[Act.eval,Act.put]) (by simp[Act.eval,Act.put]) (a5 _ _ _) ?_)
  go_wp2_with (at_builtin;refine wpList_copy_runI _ rfl _ _ 32 32 rfl _ _ rfl rfl (ac _ _) ?_);go_ret;exact⟨rfl,T,S⟩
 obtain rfl:i=z:=by omega
 have T:=I (Q (w.setRow g (o.toList.take (i*y.size)++cs++o.toList.drop (i*y.size+cs.length)).toArray) _ (aQ w g _) (x5 w g o _ _ _ p) (by simp only[aH2,aGb,aHB,aI4,aI2,r,F,q];omega) (by
  rw[F,aHF (l:=m) (by omega),show m.drop i=[] from List.drop_eq_nil_of_le (by omega),aHS,aHH,List.flatten_nil,aG9,<- G,r];have e:(o.toList.take (i*7)++cs).length=(i+1)*7:=by rw[aGb,aHB,aI2,q,r];omega
  rw[<- e];exact List.take_left))
 obtain⟨S,C,K,v,A,H⟩:=zl (aQ w g (o.toList.take (i*y.size)++cs++o.toList.drop (i*y.size+cs.length)).toArray) p a1 N (show cs.length=1*y.size by rw[r,F]) (show i*y.size+cs.length<=o.size by rw[F,r,q];omega);clear V Q p G D E t a1 L X N ai F aj r q;go_enter func203,ntmps203;go_wp2_with (at_builtin;refine Cf rfl _ _ 32 rfl 80 y underlying32 aa g i cap o C rfl ⟨f,0,J⟩ 1 1 cs rfl A K v (by omega) H ?_);go_ret;have D:=T.o;have k:=S.o;rw[aIf] at D k;exact⟨rfl,D,k⟩
structure aG7 (w0:y4) (X gq qc gb cap z:Nat) (c nx:Int) (l:List Queue) (b:List aH) (ex:List Nat) (x:aH) (pv bv:y5) (W:y4):Prop where
 box:W.heap[X]?=M (zt #[c,nx,O (M ⟨gq,0,J⟩) l.length qc,O (M ⟨gb,0,J⟩) z cap] 34 (0,0))
 own:cH ex w0 W (O (M ⟨gq,0,J⟩) l.length qc) (O (M ⟨gb,0,J⟩) z cap) l b
 len:b.length=z
 xin:X∈ex
 exlt:∀ r∈ex,r<W.heap.size
 right:aI ⟨c,nx,l,b⟩=0
 book:bU l x
 id:0<=x.Id/\x.Id<nx
 diff:∀ y∈b,y.Id≠x.Id
 room:z<12/\z<cap
 cells:fW W [Y Z x.Id,Y Z x.P.B,Y Z x.P.D,Y Z x.P.C,Y Z x.P.E,pv,bv] x
 apart:∀ s∈([Y Z x.Id,Y Z x.P.B,Y Z x.P.D,Y Z x.P.C,Y Z x.P.E,pv,bv]:List y5),∀ a n c,s=O (M a) n c->a.block<W.heap.size/\a.block≠gb/\w0.heap.size<=a.block/\a.block∉ex/\∀ r,(O (M ⟨gq,0,J⟩) l.length qc).ownBlock=M r->a.block≠r
 low:w0.heap.size<=W.heap.size
theorem eI {W:y4} {x:aH} {b a:y5} (f:fW W [Y Z x.Id,Y Z x.P.B,Y Z x.P.D,Y Z x.P.C,Y Z x.P.E,b,a] x):aM W b x.P.A/\bF W a x.L/\(I64 x.P.B/\I64 x.P.D/\I64 x.P.C/\I64 x.P.E)/\I64 x.Id:=by
 obtain⟨l,d,e,⟨k,rfl,i,h⟩,g,j⟩:=f;have c:b=k/\a=d:=by simpa using e
 rw[c.1,c.2];exact⟨i,g,h,j⟩
theorem aB9 (w:y4) (X:Nat) (x:aH) (c b:y5):∃ a:y4,(w.alloc (zt #[zz (M ⟨X,0,J⟩)] 175)).alloc (zt #[x.Id,x.P.B,x.P.D,x.P.C,x.P.E,c,b] 80)=a/\d7 w a/\
  a.heap[w.heap.size]?=M (zt #[zz (M ⟨X,0,J⟩)] 175 (0,0))/\a.heap[w.heap.size+1]?=M (zt #[x.Id,x.P.B,x.P.D,x.P.C,x.P.E,c,b] 80 (0,0))/\a.heap.size=w.heap.size+1+1:=by
 refine⟨_,rfl,((b8 w).a _).a _,?_,?_,by simp⟩
 ·exact(Below.heap_alloc _ _ _ (by simp)).trans (aGY w _)
 have:=aGY (w.alloc (zt #[zz (M ⟨X,0,J⟩)] 175)) (zt #[x.Id,x.P.B,x.P.D,x.P.C,x.P.E,c,b] 80);rwa [aHb] at this
def aAc (w0 w:y4) (X gq qc gb cap z:Nat) (c nx:Int) (l:List Queue) (b:List aH) (ex:List Nat) (x:aH) (e:r8) (w':y4):Prop:=
 (iZ l c b x=true/\e=zv (zx false)/\d7 w w')\/
 (iZ l c b x=false/\e=zv (zx true)/\w'.heap[X]?=M (zt #[c,nx,O (M ⟨gq,0,J⟩) l.length qc,O (M ⟨gb,0,J⟩) (z+1) cap] 34 (0,0))/\
  cH ex w0 w' (O (M ⟨gq,0,J⟩) l.length qc) (O (M ⟨gb,0,J⟩) (z+1) cap) l (iJ l c b x)/\∃ a d,d7 w a/\a.grownBy d (M gb)/\w'=d.setCell ⟨X,3,J⟩ (O (M ⟨gb,0,J⟩) (z+1) cap))
theorem aEs (w0 w:y4) (X gq qc gb cap z:Nat) (c nx:Int) (l:List Queue) (b:List aH) (ex:List Nat) (x:aH) (pv bv:y5) (G:aG7 w0 X gq qc gb cap z c nx l b ex x pv bv w) :
  y8 prog 145 #[zz (M ⟨X,0,J⟩),Eo x pv bv] w (aAc w0 w X gq qc gb cap z c nx l b ex x):=by
 obtain⟨au,ap,hI,ce⟩:=eI G.cells;obtain⟨wb,bQ,HX,al,am,co⟩:=aB9 w X x pv bv;have CF:=I (λ(W:y4) (hx:d7 wb W)=>Fg W bv x.L 202 #[zz (M ⟨w,0,J⟩)] (λaj:bK=>decide (aj.At<c)) (ap.m (HX.r hx)) (enters_of func202 (by kernel_rfl) rfl)
  (λd aj hy d e=>aDb d aj w X c (y6 d _ 0 _ _ _ (aZ al (hx.r e))) (y6 d X 0 _ _ _ (aZ G.box (HX.r (hx.r e))))))
 obtain⟨C,D,rfl,_⟩:=au.i;obtain⟨ca,cb,rfl,_⟩:=ap.i;obtain⟨d,a3,ak,b0,c9,b5,HI⟩:=zj G HX al am bQ au hI;obtain⟨q0,q1,q2,q3,q4,q5,q6,_⟩:=eH am;clear G HX al am bQ co au ap hI ce;generalize cm:x.P.A.length=E at *;generalize cg:x.L.length=cc at *;clear cm cg;go_enter func145,ntmps145;go_wp2_with fail;rw[c9.o];go_wp2_with fail;refine(CF _ (b8 _)).m ?_;rintro e i ⟨rfl,aw⟩;have a7:=I aw;clear q0 q1 q2 q3 q4 q5 q6 CF;obtain⟨q0,q1,q2,q3,q4,q5,q6,_⟩:=eH (aZ b0 aw);clear aw;cases T:vZ c x with
 | true=>
  have P:=I (by unfold iZ;rw[T];rfl:iZ l c b x=true);unfold vZ at T;rw[T];clear T;go_wp2;go_ret;exact .inl ⟨P.o,rfl,a3.r a7⟩
 | false=>
  have c1:=I T;unfold vZ at T;rw[T];clear T;go_wp2_with fail;obtain⟨k,ad⟩:∃ k,i.alloc (zt #[x.P.B,x.P.D,x.P.C,x.P.E,O C E D] 77)=k:=⟨_,rfl⟩;have ai:d7 i k:=ad▸(b8 i).a _;have af:k.heap[i.heap.size]?=M (zt #[x.P.B,x.P.D,x.P.C,x.P.E,O C E D] 77 (0,0)):=ad▸aGY i _;rw[ad];clear q0 q1 q2 q3 q4 q5 q6;have bj:k.heap[X]?=_:=aZ d.box (a3.r (a7.r ai));have bg:k.heap[w.heap.size]?=_:=aZ ak (a7.r ai);have y:k ⟨w,0,J⟩=M (zz (M ⟨X,0,J⟩)):=y6 k _ 0 _ _ _ bg;have A:k ⟨X,0,J⟩=M (Y Z c):=y6 k _ 0 _ _ _ bj;have B:k ⟨i,1,J⟩=M (Y Z x.P.D):=y6 k _ 1 _ _ _ af;obtain⟨bc,b6⟩:=zr (a7.r ai) af;have f1:=x4 k.drew i 1 _ _ af;clear ai af bj bg ad;refine cN 8 (λW=>W ⟨w,0,J⟩=M (zz (M ⟨X,0,J⟩))/\W ⟨X,0,J⟩=M (Y Z c)/\W ⟨i,1,J⟩=M (Y Z x.P.D)) (by kernel_rfl) ⟨y,A,B⟩ (λr=>?_);clear y A B;refine tkT 0 ?_;refine tkT 1 ?_;refine tkT 2 ?_;refine tkT 3 ?_;refine tkT 4 ?_;refine tkT 5 ?_;refine tkT 6 ?_;refine tkT 7 ?_;refine laT λq g=>?_;simp only[zA,zB,zC];obtain⟨y,A,B⟩:=r;go_simp;refine g.out _ _ ?_;clear g q;obtain⟨f,ae⟩:∃ f,(k.setCell ⟨i,1,J⟩ (Y Z (max x.P.D c))).drew=f:=⟨_,rfl⟩;have ag:f.heap[i.heap.size]?=M (zt #[x.P.B,Y Z (max x.P.D c),x.P.C,x.P.E,O C E D] 77 (0,0)):=ae▸x6 k i 1 _ _ _ b6;have bR:d7 wb f:=ae▸((bc.se (b:=i) (o:=1) a7.size _).dr);rw[ae];have e1:f ⟨i,1,J⟩=M (Y Z (max x.P.D c)):=y6 f _ 1 _ _ _ ag;have S:f ⟨i,2,J⟩=M (Y Z x.P.C):=y6 f _ 2 _ _ _ ag;obtain⟨a6,a0⟩:=zr ag bR;clear ae ag bR bc b6 f1;by_cases bp:x.P.C<=max x.P.D c
  ·have P:=I (by unfold iZ;rw[deT bp];simp:iZ l c b x=true);go_wp2;go_ret;exact .inl ⟨P.o,rfl,a3.r a0⟩
  have ck:max x.P.D c<x.P.C:=by omega
  have hq:=Gn d.book.req ck;obtain⟨ok,cd,ch⟩:=eR d.right;have ci:kL (aY (eQ l b x.P.B)):=by
   obtain⟨h,p⟩:∃ h:Nat,x.P.B=h:=⟨x.P.B.toNat,by have:=d.book.q0;omega⟩;have j:h<l.length:=by have:=d.book.q1;omega
   rw[p];exact Fy d.right j
  obtain⟨RI,PI,b1⟩:=zq (λ(W:y4) (G:d7 w W)=>Ca W (O (M ⟨gq,0,J⟩) l.length qc) (O (M ⟨gb,0,J⟩) z cap) l b x.P.B (d.own.tree.m G) (d.own.books.m G) ok ch cd d.book.q0 d.book.q1) (λ(W:y4) (az:y5) (G:d7 w W) (hu:aR W az (aY (eQ l b x.P.B)))=>show y8 prog 142 #[az,.agg #[x.P.B,Y Z (max x.P.D c),x.P.C,x.P.E,O C E D]] W (rY W (bZ l c b x)) from aEI W az _ _ (rL x.P c) hu (b5.m G) ci hq) (by unfold iZ;rw[c1.o,deF bp];simp:iZ l c b x=decide (bZ l c b x=[]));go_wp2_with fail;clear e1 S;have ao:f.heap[X]?=_:=aZ d.box (a3.r a0);have bh:f.heap[w.heap.size]?=_:=aZ ak a0;have an:f.heap[w.heap.size+1]?=_:=aZ b0 a0;refine cN 14 (λW=>W ⟨w,0,J⟩=M (zz (M ⟨X,0,J⟩))/\W ⟨X,2,J⟩=M (O (M ⟨gq,0,J⟩) l.length qc)/\W ⟨X,3,J⟩=M (O (M ⟨gb,0,J⟩) z cap)/\W ⟨i,0,J⟩=M (Y Z x.P.B)/\W ⟨i,1,J⟩=M (Y Z (max x.P.D c))/\W ⟨i,2,J⟩=M (Y Z x.P.C)/\W ⟨i,3,J⟩=M (Y Z x.P.E)/\W ⟨i,4,J⟩=M (O C E D)) (by kernel_rfl)
   ⟨y6 f _ 0 _ _ _ bh,y6 f _ 2 _ _ _ ao,y6 f _ 3 _ _ _ ao,y6 f _ 0 _ _ _ a6,y6 f _ 1 _ _ _ a6,y6 f _ 2 _ _ _ a6,y6 f _ 3 _ _ _ a6,y6 f _ 4 _ _ _ a6⟩ (λr=>?_)
  have bd:=I (a3.r a0);clear ao bh;refine tkT 0 ?_;refine tkT 1 ?_;refine tkT 2 ?_;refine tkT 3 ?_;refine tkT 4 ?_;refine tkT 5 ?_;refine tkT 6 ?_;refine tkT 7 ?_;refine tkT 8 ?_;refine tkT 9 ?_;refine tkT 11 ?_;refine goT 10 λq g=>?_;simp only[zA,zB,zC];go_simp;refine(RI _ bd.dr).m ?_;rintro e W6 ⟨uf,rfl,av,v⟩;obtain⟨fa,fc,rfl,_⟩:=av.i;obtain⟨ba,c6⟩:=zr (show w.heap.size+1<W6.heap.size from aGs (aGq.1 an).1 (((b8 f).dr.r v).size)) av;clear av;generalize (aY (eQ l b x.P.B)).length=fn at *
  go_wp2_with fail;refine g.out _ _ ?_ (λr=>?_)
  ·(obtain⟨y,A,B,U,V,k5,L,k7⟩:=r;exact⟨v.c y,v.c A,v.c B,v.c U,v.c V,v.c k5,v.c L,v.c k7⟩)
  clear g q;refine goT 12 λq g=>?_;simp only[zA,zB,zC];go_simp;refine(PI _ _ (bd.dr.r v) c6).m ?_;rintro e R ⟨cu,rfl,hv,bu,K⟩
  go_wp2_with fail;refine g.out _ _ ?_ (λr=>?_)
  ·(obtain⟨y,A,B,U,V,k5,L,k7⟩:=r;exact⟨K.c y,K.c A,K.c B,K.c U,K.c V,K.c k5,K.c L,K.c k7⟩)
  clear g q;refine tkT 13 ?_;have ax:d7 f R:=((b8 f).dr.r v).r K;have ac:=aZ an ax;have f6:=x4 R (w+1) 6 _ _ ac;have L:R ⟨w+1,6,J⟩=M (O ca cc cb):=y6 R _ 6 _ _ _ ac;obtain⟨be,c5,HV,ab⟩:=zp ax ac hv bu;clear v K ax ac an hv bu r;refine laT λq g=>?_;simp only[zA,zB,zC];obtain⟨va,vn,F,rfl⟩:∃ a n c,cu=O a n c:=by obtain⟨a,c,e,_⟩:=HV.i;exact⟨a,_,c,e⟩
  go_simp;refine g.out _ _ ?_;clear g q;obtain⟨j,a5⟩:∃ j,R.setCell ⟨w+1,6,J⟩ (O va vn F)=j:=⟨_,rfl⟩;have ar:j.heap[w.heap.size+1]?=M (zt #[x.Id,x.P.B,x.P.D,x.P.C,x.P.E,O C E D,O va vn F] 80 (0,0)):=a5▸x6 R (w+1) 6 _ _ _ c5;have br:j.heap[w.heap.size]?=M (zt #[zz (M ⟨X,0,J⟩)] 175 (0,0)):=by
   rw[<- a5,x7 R ⟨w+1,6,J⟩ _ _ (by show w.heap.size≠w.heap.size+1;omega)];exact aZ ak (a0.r be)
  have c0:d7 w j:=a5▸(a3.r (a0.r be)).se (b:=w+1) (o:=6) (by omega) _;have bw:bF j (O va vn F) (bZ l c b x):=a5▸oU HV (aN R (w+1) 6 (O va vn F)) (λa n c e he=>by have:=ab.2 a n c e;have:=b7 he;have:=ba.o;omega);rw[a5];clear a5;obtain⟨a4,b3,b4,bb⟩:=zp c0 ar br bw;have e6:j ⟨w+1,6,J⟩=M (O va vn F):=y6 j _ 6 _ _ _ ar;clear ar br c0 bw f6 L;by_cases hL:bZ l c b x=[]
  ·have h:=ab.1 hL;cases h;have P:=I (by rw[b1.o,deT hL]:iZ l c b x=true);have he:∀ W,Sem.run prog (binOp .eql 78 (O J 0 0) (O J 0 0)) W=.ok (zx true) W:=λW=>rfl;clear hL
   go_wp2;go_ret;exact .inl ⟨P.o,rfl,a4⟩
  have P:=I (by rw[b1.o,deF hL]:iZ l c b x=false);obtain⟨cn,bm,cf⟩:=wA d.right d.book d.id d.diff (by rw[d.len];exact d.room.1) P;obtain⟨cE,cv,e,cq,cr,cs,bx⟩:=mN bb;have ct:1<=(bZ l c b x).length:=List.length_pos_iff.2 hL;obtain⟨p,vo,S,bz,hE⟩:=bx ct;obtain⟨rfl,rfl,rfl⟩:va=M ⟨p,vo,J⟩/\vn=(bZ l c b x).length/\F=cv:=by cases e;exact⟨S,rfl,rfl⟩
  obtain⟨c3,c8,c2⟩:=zq (show W6<=p from ab.2 _ _ _ rfl) bz bm;obtain⟨bn,_⟩:=bS d.right;obtain⟨_,⟨_,_,_,aq⟩,bo,_⟩:=cD bn;have WH:=I (λ(W:y4) (G:d7 w W)=>Tj W (O (M ⟨gb,0,J⟩) z cap) b x.Id nx bo aq (d.own.books.m G) (eR d.right).2.1 d.id.1 (by have:=d.id;have cy:nx<=1048576:=aq;omega));clear e S bx hE cq cr cs bz cn bm cf bn bo aq ab HV;generalize bf:bZ l c b x=a8 at *;generalize cl:a8.length=m at *;have c4:=I bf;clear bf cl hL;have he:∀ W,Sem.run prog (binOp .eql 78 (O (M ⟨p,vo,J⟩) m F) (O J 0 0)) W=.ok (zx false) W:=λW=>rfl
  go_wp2_with fail;clear e6;have kn:j ⟨w,0,J⟩=M (zz (M ⟨X,0,J⟩)):=y6 j _ 0 _ _ _ b4;have kx:j ⟨X,3,J⟩=M (O (M ⟨gb,0,J⟩) z cap):=y6 j _ 3 _ _ _ (aZ d.box a4);have km:j ⟨w+1,0,J⟩=M (Y Z x.Id):=y6 j _ 0 _ _ _ b3
  go_region_held3 (λh=>(h ⟨w,0,J⟩=M (zz (M ⟨X,0,J⟩))/\h ⟨X,3,J⟩=M (O (M ⟨gb,0,J⟩) z cap)/\h ⟨w+1,0,J⟩=M (Y Z x.Id)))
   (first
    | go_keep
    | (
      go_split_ands
      exact⟨h.c (by assumption),h.c (by assumption),h.c (by assumption)⟩))
   (first
    | (go_at_call 161;refine(WH _ a4.dr).m ?_;rintro e N ⟨ay,u,rfl,t,h⟩;have b2:=I t.1;have a1:=I ((b8 j).dr.r h);clear t))
  clear kn kx km;go_wp2_with fail;have bq:=aZ b3 a1;have bt:=aZ b4 a1;have bk:=aZ d.box (a4.r a1);obtain⟨q0,q1,q2,q3,q4,q5,q6,_⟩:=eH bq;refine cN 11 (λW=>W ⟨w,0,J⟩=M (zz (M ⟨X,0,J⟩))/\W ⟨X,3,J⟩=M (O (M ⟨gb,0,J⟩) z cap)/\W ⟨w+1,0,J⟩=M (Y Z x.Id)/\W ⟨w+1,1,J⟩=M (Y Z x.P.B)/\W ⟨w+1,2,J⟩=M (Y Z x.P.D)/\W ⟨w+1,3,J⟩=M (Y Z x.P.C)/\W ⟨w+1,4,J⟩=M (Y Z x.P.E)/\W ⟨w+1,5,J⟩=M (O C E D)/\W ⟨w+1,6,J⟩=M (O (M ⟨p,vo,J⟩) m F)) (by kernel_rfl)
   ⟨y6 N _ 0 _ _ _ bt,y6 N _ 3 _ _ _ bk,q0,q1,q2,q3,q4,q5,q6⟩ (λr=>?_)
  clear bq bt bk q0 q1 q2 q3 q4 q5 q6;refine tkT 0 ?_;refine tkT 1 ?_;refine tkT 2 ?_;refine tkT 3 ?_;refine tkT 4 ?_;refine tkT 5 ?_;refine tkT 6 ?_;refine goT 7 λq g=>?_;simp only[zA,zB,zC];go_simp;obtain⟨Q,aa⟩:∃ Q,(N.alloc (zt #[x.Id,x.P.B,x.P.D,x.P.C,x.P.E,O C E D,O (M ⟨p,vo,J⟩) m F] 80)).drew=Q:=⟨_,rfl⟩;have ah:d7 N Q:=aa▸((b8 N).a _).dr;have bl:Q.heap[N.heap.size]?=M (zt #[x.Id,x.P.B,x.P.D,x.P.C,x.P.E,O C E D,O (M ⟨p,vo,J⟩) m F] 80 (0,0)):=aa▸aGY N _;rw[aa];have H:=((b8 N).a (zt #[x.Id,x.P.B,x.P.D,x.P.C,x.P.E,O C E D,O (M ⟨p,vo,J⟩) m F] 80)).dr;rw[aa] at H;refine g.out _ _ ?_ (λr=>?_)
  ·(obtain⟨y,A,B,U,V,k5,L,k7,k8⟩:=r;exact⟨H.c y,H.c A,H.c B,H.c U,H.c V,H.c k5,H.c L,H.c k7,H.c k8⟩)
  clear g q;have a2:d7 w Q:=(a4.r a1).r ah;have cx:W6<=p:=c3.o;have cw:p<j.heap.size:=c8.o;have cz:=(a1.r ah).size;have IN:=I (aBo ex w0 Q (O (M ⟨gq,0,J⟩) l.length qc) gb z cap ay N l b ⟨x.Id,x.P,a8⟩ [Y Z x.Id,Y Z x.P.B,Y Z x.P.D,Y Z x.P.C,Y Z x.P.E,O C E D,O (M ⟨p,vo,J⟩) m F]
   (d.own.e a2) d.len (by have:=b2.1;rw[d.len] at this;exact this) d.room.1 d.room.2
   ⟨_,_,rfl,⟨_,rfl,b5.m a2,HI⟩,bb.m (a1.r ah),(eI d.cells).2.2.2⟩
   (tY (l:=l) (b:=[⟨x.Id,x.P,a8⟩]) (λaj hy=>by rw[aHf.1 hy];exact c2) _ (aHf.2 rfl))
   (λs u a n c' e=>by
    simp only[aH1,aHa,or_false] at u;rcases u with rfl|rfl|rfl|rfl|rfl|rfl|rfl
    ·cases e
    ·cases e
    ·cases e
    ·cases e
    ·cases e
    ·obtain⟨h,p2⟩:=d.apart (O C E D) (by simp) a n c' e;exact⟨aGs h a2.size,p2⟩
    cases e;have h0:=d.low;have h1:=ba.o;obtain⟨ga,qa,e1,⟨g1,g2⟩⟩:=d.own.uform;cases e1;have g3:=(aGq.1 d.box).1;obtain⟨_,_,S,hg⟩:=d.own.vform;have g4:=hg gb rfl;show p<Q.heap.size/\p≠gb/\w0<=p/\p∉ex/\∀ t,(O (M ⟨gq,0,J⟩) l.length qc).ownBlock=M t->p≠t;refine⟨by omega,by omega,by omega,λhm=>by have:=d.exlt _ hm;omega,λt h=>?_⟩;have:gq=t:=by simpa[aHR] using h
    omega)
   (by simp[aGr]) bl (by
    obtain⟨_,_,S,hg⟩:=d.own.vform;have g4:=hg gb rfl;have:=(a4.r a1).size;omega))
  refine goT 8 λq g=>?_;simp only[zA,zB,zC];go_simp;refine IN.m ?_;rintro e a9 ⟨rfl,bi,u⟩;have cj:gb≠X/\gb<w.heap.size:=by
   obtain⟨_,_,_,hg⟩:=d.own.vform;exact⟨λe=>d.own.vne gb rfl X d.xin e,(hg gb rfl).2⟩
  go_wp2_with fail;refine g.out _ _ ?_ (λr=>?_)
  ·(obtain⟨y,A,B,U,V,k5,L,k7,k8⟩:=r;exact⟨gM u y (λt h=>by have:=b7 h;omega),gM u A (λt h=>by have:=b7 h;omega),gM u B (λt h=>by have:=b7 h;omega),gM u U (λt h=>by have:=b7 h;omega),gM u V (λt h=>by have:=b7 h;omega),gM u k5 (λt h=>by have:=b7 h;omega),gM u L (λt h=>by have:=b7 h;omega),gM u k7 (λt h=>by have:=b7 h;omega),gM u k8 (λt h=>by have:=b7 h;omega)⟩)
  clear g q;have h:=(u.block X (aGs (aGq.1 d.box).1 a2.size) (λe=>cj.1 (b7 e).symm)).trans (aZ d.box a2);have f3:=x4 a9 X 3 _ _ h;have t:=I (show aAc w0 w X gq qc gb cap z c nx l b ex x (zv (zx true)) (a9.setCell ⟨X,3,J⟩ (O (M ⟨gb,0,J⟩) (z+1) cap)) from .inr ⟨P.o,rfl,x6 a9 X 3 _ _ _ h,by
   have e:=aBM (x:=⟨x.Id,x.P,a8⟩) b2;have S:iJ l c b x=b.take ay++⟨x.Id,x.P,a8⟩::b.drop ay:=by unfold iJ;rw[c4.o,e]
   rw[S];exact bi.kept (aN a9 X 3 _) d.xin,Q,a9,a2,u,rfl⟩)
  clear h bi u ah bl H a2 IN aa;refine tkT 9 ?_;refine tkT 10 ?_;obtain⟨y,A,B,U,V,k5,L,k7,k8⟩:=r;refine laT λq g=>?_;simp only[zA,zB,zC];go_simp;refine g.out _ _ ?_;clear g q
  go_wp2;go_ret;exact t
theorem iM.setC {bs:List Nat} {W:y4} {g:Nat} {l:List Queue} (j:iM bs W g l) {k:Nat} {x:Queue} (u:l[k]?=M x) {e:y5} {f:List Run} (y:aR W e f) (r:bM (g::bs) e):iM bs (W.setCell ⟨g,k*3+2,J⟩ e) g (l.set k ⟨x.Q,x.R,f⟩):=by
 obtain⟨z,w,q⟩:=j;have s:=aN W g (k*3+2) e;have v:∀ h,M g=M h->h∈g::bs:=λh h=>by cases h;exact aHv ..
 refine⟨z.set (k*3+2) e,w.set _ _,λn A i=>?_⟩;by_cases t:n=k
 ·subst t;obtain⟨a,b,c,d,o,h,p,m⟩:=q n x u;rw[aHy (aGw.1 u).1] at i;cases i;exact⟨by rw[aHz (by omega)];exact a,b,by rw[aHz (by omega)];exact c,d,e,by rw[aHy (aGw.1 h).1],fB y r s v,r⟩
 rw[aHz (λj=>t j.symm)] at i;obtain⟨a,b,c,d,o,h,p,m⟩:=q n A i;exact⟨by rw[aHz (by omega)];exact a,b,by rw[aHz (by omega)];exact c,d,o,by rw[aHz (by omega)];exact h,fB p m s v,m⟩
theorem cH.setC {ex:List Nat} {B g qc k:Nat} {W:y4} {v c:y5} {l:List Queue} {b:List aH} {f:List Run} (a:cH ex B W (O (M ⟨g,0,J⟩) l.length qc) v l b) (x:k<l.length) (E:aR W c f) (u:f≠[]) (r:bM (g::(v.ownBlock.toList++(ex++List.range B))) c) :
  cH ex B (W.setCell ⟨g,k*3+2,J⟩ c) (O (M ⟨g,0,J⟩) l.length qc) v (eF l k f) b:=by
 obtain⟨K,L,d,n,p,q,o,w,D,t,y,s,z,h,A⟩:=a;cases d;obtain⟨N,i⟩:=aV x;obtain⟨j,m,_⟩:=fS i;have e:=aN W g (k*3+2) c;refine⟨g,qc,by rw[lH],by rw[lH];exact n,p,by rw[lH];exact q,o,w,aGs D e.size,t,y,λH F=>?_,z.keptR e (aHv ..) (λG C d=>(h G C).1 d.symm),h,?_⟩
 ·rcases List.mem_or_eq_of_mem_set F with a|a
  ·exact s H a
  rw[a];exact u
 have:=A.setC i E r;rw[<- j,<- m] at this;exact this
theorem pD {w:y4} {base e:Nat} {v:y5} {xs:List Int} (f:w.ownsRow base e 1 v xs.length (xs.map λn=>Y .i64 n)) (i:∀ a∈xs,I64 a) (j:xs.length<=17592186044416):fY w v xs:=by
 rcases f.2 with ⟨rfl,g⟩|⟨d,cap,o,rfl,p,c,h,k,q,l⟩
 ·exact .inl ⟨aGv g,J,0,rfl,by omega⟩
 refine .inr ⟨d,0,cap,rfl,h,by unfold o0 at k;omega,j,(aGq.1 c).1,λm a b=>⟨?_,i a (aGC b)⟩⟩;refine mI c ?_;have r:=(aGw.1 b).1;have e:(xs.map λn=>Y .i64 n)[m]?=M (Y Z a):=by rw[aHt,b];rfl
 rw[<- l,aHQ (by omega)] at e;rw[aGx,Nat.mul_one];exact e
structure dL (w0:y4) (X gq qc gb cap:Nat) (c nx:Int) (l:List Queue) (A:List aH) (va:y5) (b:List aH) (m d:List Int) (vm vd:y5) (W:y4):Prop where
 box:W.heap[X]?=M (zt #[c,nx,O (M ⟨gq,0,J⟩) l.length qc,O (M ⟨gb,0,J⟩) b.length cap] 34 (0,0))
 own:cH (vm.ownBlock.toList++(vd.ownBlock.toList++(va.ownBlock.toList++[X]))) w0 W (O (M ⟨gq,0,J⟩) l.length qc) (O (M ⟨gb,0,J⟩) b.length cap) l b
 away:fH (vm.ownBlock.toList++(vd.ownBlock.toList++(gb::gq::X::List.range w0))) w0 W va A
 live:Am A
 mrow:W.ownsRow w0 3 1 vm m.length (m.map λn=>Y .i64 n)
 drow:W.ownsRow w0 3 1 vd d.length (d.map λn=>Y .i64 n)
 mapart:∀ r,vm.ownBlock=M r->r≠X/\va.ownBlock≠M r/\vd.ownBlock≠M r
 dapart:∀ r,vd.ownBlock=M r->r≠X/\va.ownBlock≠M r/\vm.ownBlock≠M r
 aapart:va.ownBlock≠M X
 e:d7 w0 W
 low:w0<=X
section
variable {w0 W:y4} {X gq qc gb cap:Nat} {c nx:Int} {l:List Queue} {A b:List aH} {m d:List Int} {va vm vd:y5}
theorem mem3 {α:Type} {r:α} {a b c:List α}:r∈a++(b++c)->r∈b++(a++c):=λd=>by
 simp only[aGe] at d ⊢;rcases d with d|d|d
 ·exact .inr (.inl d)
 ·exact .inl d
 exact .inr (.inr d)
theorem dL.swap (a:dL w0 X gq qc gb cap c nx l A va b m d vm vd W):dL w0 X gq qc gb cap c nx l A va b d m vd vm W:=
 ⟨a.box,a.own.low (aGi _) (λf e=>mem3 e),a.away.sub (λf e=>mem3 e),a.live,a.drow,a.mrow,a.dapart,a.mapart,a.aapart,a.e,a.low⟩
theorem dL.later {W':y4} (a:dL w0 X gq qc gb cap c nx l A va b m d vm vd W) (e:d7 W W'):dL w0 X gq qc gb cap c nx l A va b m d vm vd W':=
 ⟨aZ a.box e,a.own.e e,a.away.e e,a.live,aJ a.mrow e,aJ a.drow e,a.mapart,a.dapart,a.aapart,a.e.r e,a.low⟩
theorem dL.ne (j:dL w0 X gq qc gb cap c nx l A va b m d vm vd W):(gb≠X/\gq≠X/\gq≠gb/\w0<=gb/\gb<W.heap.size/\gq<W.heap.size)/\(∀ a,vm.ownBlock=M a->a≠gb/\a≠gq)/\(∀ a,vd.ownBlock=M a->a≠gb/\a≠gq)/\∀ a,va.ownBlock=M a->a≠gb/\a≠gq:=by
 obtain⟨r,x,e,s,u,v,t,w,o,k,_,_,⟨q,p,_⟩,i,_⟩:=j.own;cases e;have h:=p.lt gb rfl;have n:=(i gb rfl).2;have g:∀ a,a∈vm.ownBlock.toList++(vd.ownBlock.toList++(va.ownBlock.toList++[X]))->a≠gb/\a≠gq:=λa f=>⟨λe=>n (e▸f),λe=>k (e▸f)⟩;refine⟨⟨λe=>(g X (by simp)).1 e.symm,λe=>(g X (by simp)).2 e.symm,(i gb rfl).1,h.1,h.2,o⟩,λa f=>g a (by simp[f]),λa f=>g a (by simp[f]),λa f=>g a (by simp[f])⟩
theorem eW {W W':y4} {base e f n:Nat} {v:y5} {xs:List y5} {row:Option Nat} (a:W.ownsRow base e f v n xs) (i:W.grownBy W' row) (j:∀ b,v.ownBlock=M b->row≠M b):W'.ownsRow base e f v n xs:=by
 refine⟨a.1,?_⟩;rcases a.2 with a|⟨b,cap,g,d,h,c,k⟩
 ·exact .inl a
 exact .inr ⟨b,cap,g,d,h,(i.block b (aGq.1 c).1 (λe=>j b (by rw[d];rfl) e.symm)).trans c,k⟩
theorem dL.back {W1 h:y4} {b2:List aH} (a:dL w0 X gq qc gb cap c nx l A va b m d vm vd W) (j:d7 W W1) (i:W1.grownBy h (M gb)) (v:y5)
  (n:(h.setCell ⟨X,3,J⟩ v).heap[X]?=M (zt #[c,nx,O (M ⟨gq,0,J⟩) l.length qc,O (M ⟨gb,0,J⟩) b2.length cap] 34 (0,0)))
  (o:cH (vm.ownBlock.toList++(vd.ownBlock.toList++(va.ownBlock.toList++[X]))) w0 (h.setCell ⟨X,3,J⟩ v) (O (M ⟨gq,0,J⟩) l.length qc) (O (M ⟨gb,0,J⟩) b2.length cap) l b2) :
  dL w0 X gq qc gb cap c nx l A va b2 m d vm vd (h.setCell ⟨X,3,J⟩ v):=by
 obtain⟨⟨t,u,w,x,y,_⟩,p,q,r⟩:=a.ne;have k:=aN h X 3 v;refine⟨n,o,?_,a.live,?_,?_,a.mapart,a.dapart,a.aapart,?_,a.low⟩
 ·refine((a.away.e j).keptR i (by simp) (λg f=>(r g f).1)).keptR k (by simp) (λg f e=>a.aapart (e▸f))
 ·refine eW (eW (aJ a.mrow j) i (λg f e=>(p g f).1 (b7 e).symm)) k (λg f e=>(a.mapart g f).1 (b7 e).symm)
 ·refine eW (eW (aJ a.drow j) i (λg f e=>(q g f).1 (b7 e).symm)) k (λg f e=>(a.dapart g f).1 (b7 e).symm)
 exact((a.e.r j).gr (v:=O (M ⟨gb,0,J⟩) 0 0) i (λg f=>by have e:=b7 f;have s:gb=g:=e;omega)).se a.low _
theorem dL.push {W':y4} {g2 cap2:Nat} {n:Int} (e:dL w0 X gq qc gb cap c nx l A va b m d vm vd W)
  (w:W'.ownsRow w0 3 1 (O (M ⟨g2,0,J⟩) (m.length+1) cap2) (m.length+1) ((m.map λn=>Y .i64 n)++[Y Z n]))
  (h:(W.alloc (zt #[n] 3)).grownBy W' vm.ownBlock) (p:vm.ownBlock=M g2\/g2=W.heap.size+1) :
  dL w0 X gq qc gb cap c nx l A va b (m++[n]) d (O (M ⟨g2,0,J⟩) (m++[n]).length cap2) vd W':=by
 have hlen:(m++[n]).length=m.length+1:=by simp
 obtain⟨⟨G,H,K,L,N,P⟩,D,E,F⟩:=e.ne;have u:=(aGq.1 e.box).1;have i:=e.later ((b8 W).a (zt #[n] 3));have C:(W.alloc (zt #[n] 3)).heap.size=W.heap.size+1:=aHb ..;have x:∀ f,va.ownBlock=M f->f<W.heap.size:=λf a=>by obtain⟨B,z,_⟩:=e.away;exact(z.lt f a).2
 have y:∀ f,vd.ownBlock=M f->f<W.heap.size:=λf a=>(e.drow.lt f a).2;have s:g2≠X/\va.ownBlock≠M g2/\vd.ownBlock≠M g2:=by
  rcases p with g|g
  ·exact e.mapart g2 g
  exact⟨by omega,λj=>by have:=x g2 j;omega,λj=>by have:=y g2 j;omega⟩
 have j:(O (M ⟨g2,0,J⟩) (m++[n]).length cap2).ownBlock=M g2:=rfl;refine⟨?_,?_,?_,e.live,?_,?_,λf a=>?_,λf a=>?_,e.aapart,?_,e.low⟩
 ·exact(h.block X (aGs u (by omega)) (λg=>(e.mapart X g.symm).1 rfl)).trans i.box
 ·have k:cH (g2::(vm.ownBlock.toList++(vd.ownBlock.toList++(va.ownBlock.toList++[X])))) w0 (W.alloc (zt #[n] 3)) (O (M ⟨gq,0,J⟩) l.length qc) (O (M ⟨gb,0,J⟩) b.length cap) l b:=by
   rcases p with g|g
   ·exact i.own.low (aGi _) (λf a=>by
     rcases aH1.1 a with rfl|a
     ·exact aHV _ (by rw[g];exact aHf.2 rfl)
     exact a)
   exact i.own.box (by omega)
  refine(k.keptR h (λf a=>aGc _ (aHV _ (by rw[a];exact aHf.2 rfl)))).low (aGi _) (λf a=>?_);rw[j] at a;rcases aGe.1 a with e|e
  ·rw[aHf.1 e];exact aHv ..
  exact aGc _ (aHW _ e)
 ·have k:fH (g2::(vm.ownBlock.toList++(vd.ownBlock.toList++(gb::gq::X::List.range w0)))) w0 (W.alloc (zt #[n] 3)) va A:=by
   rcases p with g|g
   ·exact i.away.sub (λf a=>by
     rcases aH1.1 a with rfl|a
     ·exact aHV _ (by rw[g];exact aHf.2 rfl)
     exact a)
   exact i.away.low_all e.live (by omega)
  have t:fH (g2::(vm.ownBlock.toList++(vd.ownBlock.toList++(gb::gq::X::List.range w0)))) w0 W' va A:=by
   cases q:vm.ownBlock with
   | none=>rw[q] at h k;exact k.e ((b8 _).gr (v:=.bool true) h (λr g=>by cases g))
   | some f=>rw[q] at h k;exact k.keptR h (by simp) (λr o g=>(e.mapart f q).2.1 (g▸o))
  refine t.sub (λf a=>?_);rw[j] at a;rcases aGe.1 a with e|e
  ·rw[aHf.1 e];exact aHv ..
  exact aGc _ (aHW _ e)
 ·rw[hlen,List.map_append];exact w
 ·exact eW i.drow h (λf a g=>(e.dapart f a).2.2 g)
 ·have:g2=f:=by simpa[aHR] using a
  rw[<- this];exact s
 ·exact⟨(e.dapart f a).1,(e.dapart f a).2.1,λg=>s.2.2 (by
                                    have:g2=f:=by simpa[aHR] using g
                                    rw[this];exact a)⟩
 exact(i.e).gr h (λr o=>(e.mrow.lt r o).1)
theorem dL.take {k:Nat} {x:aH} (e:dL w0 X gq qc gb cap c nx l A va b m d vm vd W) (F:A[k]?=M x) :
  ∃ h y t p,va=O (M ⟨h,0,J⟩) A.length y/\nE W h (k*7) x t p/\fW W [Y Z x.Id,Y Z x.P.B,Y Z x.P.D,Y Z x.P.C,Y Z x.P.E,t,p] x/\
   ∀ s∈([Y Z x.Id,Y Z x.P.B,Y Z x.P.D,Y Z x.P.C,Y Z x.P.E,t,p]:List y5),∀ a n c,s=O (M a) n c->a.block<W.heap.size/\a.block≠gb/\w0.heap.size<=a.block/\a.block∉vm.ownBlock.toList++(vd.ownBlock.toList++(va.ownBlock.toList++[X]))/\∀ v,(O (M ⟨gq,0,J⟩) l.length qc).ownBlock=M v->a.block≠v:=by
 obtain⟨z,o1,u,o3,o4⟩:=e.away;have R:=(aGw.1 F).1;rcases o1.2 with ⟨_,h0⟩|⟨h,y,a0,r,hb,P,a3,a1,a2,U⟩
 ·omega
 obtain⟨q,B⟩:=aV (f:=z) (k:=k) (by rw[u.len];exact R);have E:=u.each k q x B F;have C:=aGC B;have i:∀ (o:Nat) w,o<7->q[o]?=M w->W ⟨h,k*7+o,J⟩=M w:=λo w Q r=>by
  refine mI P ?_;have j:=Jg (m:=7) (by omega) z u.seven k o Q;rw[B] at j;have g:z.flatten[k*7+o]?=M w:=by rw[j];exact r
  rw[<- U,aGA] at g;split at g
  ·exact g
  cases g
 have S:=lR u (λx hx=>(e.live x hx).1) q C;have K:=o3 q C;have L:=o4 h (by rw[r];rfl) q C;have N:=E;obtain⟨qs,p,rfl,⟨t,rfl,_⟩,_⟩:=E;refine⟨h,y,t,p,r,⟨i 0 _ (by omega) rfl,i 1 _ (by omega) rfl,i 2 _ (by omega) rfl,i 3 _ (by omega) rfl,i 4 _ (by omega) rfl,i 5 _ (by omega) rfl,i 6 _ (by omega) rfl⟩,N,λs D a n c j=>?_⟩;have G:=S s D a n c j;have g:=K s D a n c j;have H:=L s D a n c j;have V:va.ownBlock=M h:=by rw[r];rfl
 refine⟨G,λe=>g (by simp[e]),?_,λe=>?_,λv T e=>g ?_⟩
 ·rcases aGD a.block w0 with e|e
  ·exact absurd (by simp[aGN.2 e,e]:a.block∈_) g
  exact e
 ·simp only[aGe,aHf,V,Option.toList_some] at e;rcases e with e|e|e|e
  ·exact g (aHV _ e)
  ·exact g (aHW _ (aHV _ e))
  ·exact H (aHf.2 e)
  exact g (by simp[e])
 have:gq=v:=by simpa[aHR] using T
 simp[e,<- this]
end
def nN (w:y4) (x:aG × List Int × List Int × Int) (e:r8) (w':y4):Prop:=
 ∃ c d b a,e=zv (zw #[.agg #[x.1.G,x.1.H,c,d],b,a,x.2.2.2])/\StS w w' c d x.1/\fY w' b x.2.1/\fY w' a x.2.2.1/\d7 w w'
theorem vK {w w':y4} {x:aG × List Int × List Int × Int} {s:aG} {m d:List Int} {n:Int} {u v b a:y5} (c:x=(s,m,d,n)) (e:StS w w' u v s) (f:fY w' b m) (g:fY w' a d) (h:d7 w w') :
  nN w x (zv (zw #[.agg #[s.G,s.H,u,v],b,a,n])) w':=by
 subst c;exact⟨u,v,b,a,rfl,e,f,g,h⟩
theorem rF {w w':y4} {x:aG × List Int × List Int × Int} {n:Int} (a:x=(gQ,[],[],n)) (b:d7 w w'):nN w x (zv (zw #[.agg #[Y Z 0,Y Z 0,O J 0 0,O J 0 0],O J 0 0,O J 0 0,n])) w':=
 vK (s:=gQ) a (.inr ⟨rfl,rfl,rfl,rfl⟩) SV.nil SV.nil b
def lV (w:y4) (x:aG × List Int × List Int × Int) (e:r8) (w':y4):Prop:=
 ∃ a d c b,e=zv (zw #[.agg #[x.1.G,x.1.H,a,d],c,b,x.2.2.2])/\StS w w' a d x.1/\fY w' c x.2.1/\fY w' b x.2.2.1/\d7 w w'/\(∀ a,c.ownBlock=M a->w.heap.size<=a)/\(∀ a,b.ownBlock=M a->w.heap.size<=a)
theorem tA {w w':y4} {x:aG × List Int × List Int × Int} {s:aG} {m d:List Int} {n:Int} {u v c b:y5} (e:x=(s,m,d,n)) (f:StS w w' u v s) (g:fY w' c m) (h:fY w' b d) (k:d7 w w') (i:∀ a,c.ownBlock=M a->w.heap.size<=a) (j:∀ a,b.ownBlock=M a->w.heap.size<=a) :
  lV w x (zv (zw #[.agg #[s.G,s.H,u,v],c,b,n])) w':=by
 subst e;exact⟨u,v,c,b,rfl,f,g,h,k,i,j⟩
theorem qC {w w':y4} {x:aG × List Int × List Int × Int} {n:Int} (a:x=(gQ,[],[],n)) (b:d7 w w'):lV w x (zv (zw #[.agg #[Y Z 0,Y Z 0,O J 0 0,O J 0 0],O J 0 0,O J 0 0,n])) w':=
 tA (s:=gQ) a (.inr ⟨rfl,rfl,rfl,rfl⟩) SV.nil SV.nil b (λc a=>by cases a) (λc a=>by cases a)
theorem dM {P:o9} {fn:Func} {p u1 u2 u3:Tmp} {a:o8} (b:fn.results=#[.cell p a,.tmp u1,.tmp u2,.tmp u3]) (tmps:Array y5) (w:y4) (g:Nat) (t:o8) (cs:Array y5) (fr:Nat × Nat) (d:TypeDesc)
  (h:tmps.getD p u5=zz (M ⟨g,0,J⟩)) (e:w.heap[g]?=M (zt cs t fr))
  (j:P.underlying a=M d) (c:(match d with|.struct _|.array _ _=>true|_=>false)=true) (f:(P.info? a).map (·.size)=M cs.size) :
  (results fn tmps).run P w=.ok (zw #[.agg cs,tmps.getD u1 u5,tmps.getD u2 u5,tmps.getD u3 u5]) w:=by
 have i:tmps[p]?.getD u5=zz (M ⟨g,0,J⟩):=by simpa using h
 simp[results,b,i,asAddr,run_loadVar_row w g t a cs fr d e j c f]
theorem aBt (w:y4) (c a p:y5) (s:aG) (q:Int) (f:List Run) (e:aK w c s.K) (hb:aS w a s.F) (l:aR w p f) (d:aI s≠0) :
  y8 prog 93 #[.agg #[s.G,s.H,c,a],q,p] w (lV w (bD s q f)):=by
 have t:=I (λ(W:y4) (k:d7 w W)=>eU W c a s (e.m k) (hb.m k));obtain⟨Q,m,h,x,j,B⟩:=dW w s c a;obtain⟨i,A,y⟩:=zq h j m;clear h x j m B;have v:=I (sQ (q:=q) (f:=f) d);have L:=neT d;generalize aI s=P at *;obtain⟨N,qc,rfl,_,_,_⟩:=e.i;obtain⟨C,D,rfl,_,_,_⟩:=hb.i;obtain⟨G,H,rfl,_,_,_⟩:=l.i;clear e hb l d;generalize bD s q f=E at *;generalize s.K.length=n at *;generalize s.F.length=R at *;generalize f.length=K at *;go_enter func93,ntmps93;go_wp2_with fail;rw[y.o];refine(t _ i).m ?_;rintro F r ⟨rfl,o⟩;obtain⟨g,z⟩:=zr (A r o) ((i.r o).sr (b:=w+1) (by omega) #[Y Z 0,Y Z 0,O J 0 0,O J 0 0]);have u:=I (x5 r (w+1) _ #[Y Z 0,Y Z 0,O J 0 0,O J 0 0] _ _ g);go_wp2_with (refine z6 (w+1) #[Y Z 0,Y Z 0,O J 0 0,O J 0 0] g ?_);exact v6 (dM (u1:=7) (u2:=8) (u3:=9) rfl _ _ (w+1) 34 #[Y Z 0,Y Z 0,O J 0 0,O J 0 0] (0,0) _ rfl u underlying34 rfl size34) rfl (qC v z)
theorem aDz (w:y4) (c a u:y5) (s:aG) (q:Int) (f:List Run) (e:aK w c s.K) (hb:aS w a s.F) (r:aR w u f) (d:aI s=0) (F:¬ (0<=q/\q<s.K.length)) :
  y8 prog 93 #[.agg #[s.G,s.H,c,a],q,u] w (lV w (bD s q f)):=by
 have i:=I (λ(W:y4) (p:d7 w W)=>eU W c a s (e.m p) (hb.m p));obtain⟨wb,t,l,k,o,G⟩:=dW w s c a;obtain⟨m,y,B,z⟩:=zp l k o t;clear l k o t G;have x:=I (qQ (f:=f) d F);rw[d] at i;obtain⟨X,qc,rfl,_,_,_⟩:=e.i;obtain⟨K,L,rfl,_,_,_⟩:=hb.i;obtain⟨Q,R,rfl,_,_,_⟩:=r.i;clear e hb r d;generalize bD s q f=N at *;generalize s.K.length=n at *;generalize s.F.length=a0 at *;generalize f.length=S at *;go_enter func93,ntmps93;go_wp2_with fail;rw[z.o];refine(i _ m).m ?_;rintro P h ⟨rfl,g⟩;obtain⟨C,D,H,E⟩:=y h g;by_cases T:q<0;rotate_left;have U:¬ q<(n:Int):=by omega
 have V:(n:Int)<=q:=by omega
 all_goals
  clear C D E;obtain⟨j,A⟩:=zr (B h g) ((m.r g).sr (b:=w+1) (by omega) #[Y Z 0,Y Z 0,O J 0 0,O J 0 0]);have v:=I (x5 h (w+1) _ #[Y Z 0,Y Z 0,O J 0 0,O J 0 0] _ _ j);go_wp2_with (refine z6 (w+1) #[Y Z 0,Y Z 0,O J 0 0,O J 0 0] j ?_);exact v6 (dM (u1:=7) (u2:=8) (u3:=9) rfl _ _ (w+1) 34 #[Y Z 0,Y Z 0,O J 0 0,O J 0 0] (0,0) _ rfl v underlying34 rfl size34) rfl (qC x A)
theorem aA9 (w:y4) (d a l:y5) (s:aG) (q:Int) (f:List Run) (i:aK w d s.K) (hb:aS w a s.F) (j:aR w l f) (g:aI s=0) (x:0<=q/\q<s.K.length) (h:¬ eB f) :
  y8 prog 93 #[.agg #[s.G,s.H,d,a],q,l] w (lV w (bD s q f)):=by
 obtain⟨o,m⟩:=zr (λ(W:y4) (c:d7 w W)=>eU W d a s (i.m c) (hb.m c)) (λ(W:y4) (c:d7 w W)=>Wf W l f (j.m c));obtain⟨wb,y,t,r,v,Q⟩:=dW w s d a;obtain⟨e,D,G,E⟩:=zp t r v y;clear t r v y Q;have C:=I (qS g x h);rw[g] at o;rw[deF h] at m;clear h;obtain⟨qa,qc,rfl,_,_,_⟩:=i.i;obtain⟨S,T,rfl,_,_,_⟩:=hb.i;obtain⟨V,X,rfl,_,_,_⟩:=j.i;clear i hb j g;generalize bD s q f=U at *;generalize s.K.length=n at *;generalize s.F.length=a4 at *;generalize f.length=fl at *;go_enter func93,ntmps93;go_wp2_with fail;rw[E.o];refine(o _ e).m ?_;rintro P R ⟨rfl,k⟩;obtain⟨H,K,L,N⟩:=D R k;obtain⟨a0,a1⟩:=x;have a2:¬ q<0:=by omega
 have a3:¬ (n:Int)<=q:=by omega
 have u:=I k;go_wp2_with fail;refine(m _ (e.r k)).m ?_;rintro P A ⟨rfl,z⟩;clear H K L N;obtain⟨p,F⟩:=zr (G A (u.r z)) ((e.r (u.r z)).sr (b:=w+1) (by omega) #[Y Z 0,Y Z 0,O J 0 0,O J 0 0]);have B:=I (x5 A (w+1) _ #[Y Z 0,Y Z 0,O J 0 0,O J 0 0] _ _ p);go_wp2_with (refine z6 (w+1) #[Y Z 0,Y Z 0,O J 0 0,O J 0 0] p ?_);exact v6 (dM (u1:=7) (u2:=8) (u3:=9) rfl _ _ (w+1) 34 #[Y Z 0,Y Z 0,O J 0 0,O J 0 0] (0,0) _ rfl B underlying34 rfl size34) rfl (qC C F)
theorem cH.capLe {ex:List Nat} {B g z cap:Nat} {W:y4} {u:y5} {l:List Queue} {b:List aH} (d:cH ex B W u (O (M ⟨g,0,J⟩) z cap) l b) (f:b.length=z):z<=cap:=by
 obtain⟨_,_,_,_,_,_,_,_,_,_,_,_,⟨i,c,_⟩,_⟩:=d;rw[f] at c;rcases c.2 with ⟨a,_⟩|⟨k,h,j,a,m,n,e,_⟩
 ·cases a
 cases a;exact e
theorem cH.qcell {ex:List Nat} {B g qc k:Nat} {W:y4} {v:y5} {l:List Queue} {b:List aH} (d:cH ex B W (O (M ⟨g,0,J⟩) l.length qc) v l b) (h:k<l.length):(∃ a,W ⟨g,k*3+2,J⟩=M a)/\W.frozen? ⟨g,k*3+2,J⟩=false:=by
 obtain⟨m,n,c,_,_,_,_,_,_,_,_,_,_,_,i⟩:=d;cases c;obtain⟨o,j⟩:=aV h;obtain⟨a,e,f,_⟩:=i.cell j;exact⟨⟨a,e⟩,f⟩
theorem Ef {s:aG} (b:s.F=[]) (k:Nat) (f:List Run):lD s k f=([],[],[]):=by
 have a:kI s k f=([],[]):=by unfold kI Xp;rw[b];rfl
 unfold lD;rw[a];rfl
structure qH (l:List Queue) (c nx:Int) (A:List aH) (N:Nat) (R:List aH × List Int × List Int) (j:Nat) (b:List aH) (m d:List Int):Prop where
 go:iW l c (A.drop j) b m d=R
 right:aI ⟨c,nx,l,b⟩=0
 diff:(b++A.drop j).Pairwise (λx y=>x.Id≠y.Id)
 len:b.length+(A.drop j).length<=N
theorem Vc {α:Type} {A:List α} {j:Nat} {x:α} (b:A[j]?=M x):A.drop j=x::A.drop (j+1):=by
 obtain⟨c,a⟩:=aGw.1 b;rw[<- a];exact List.drop_eq_getElem_cons c
theorem qH.cons {l:List Queue} {c nx:Int} {A:List aH} {N j:Nat} {k:List aH × List Int × List Int} {b:List aH} {m d:List Int} {x:aH} (e:qH l c nx A N k j b m d) (p:A[j]?=M x):(∀ a∈b,a.Id≠x.Id)/\(b++A.drop (j+1)).Pairwise (λx a=>x.Id≠a.Id)/\(∀ a∈b++A.drop (j+1),x.Id≠a.Id)/\b.length+(A.drop (j+1)).length+1<=N:=by
 have g:=e.diff;have h:=e.len;rw[Vc p] at g h;have n:(x::(b++A.drop (j+1))).Pairwise (λx a:aH=>x.Id≠a.Id):=(aIe.pairwise_iff (λe f=>e f.symm) aIi).1 g;obtain⟨i,o⟩:=aIj.1 n;exact⟨λa q f=>i a (aHV _ q) f.symm,o,i,by rw[aGt] at h;omega⟩
theorem qH.gone {l:List Queue} {c nx:Int} {A:List aH} {N j:Nat} {e:List aH × List Int × List Int} {b:List aH} {m d:List Int} {x:aH} (a:qH l c nx A N e j b m d) (g:A[j]?=M x) (h:iZ l c b x=true):qH l c nx A N e (j+1) b m (d++[x.Id]):=by
 have f:=a.go;have i:=a.len;rw[Vc g,Ol h] at f;obtain⟨k,p2,p3,p4⟩:=a.cons g;exact⟨f,a.right,p2,by omega⟩
theorem qH.put {l:List Queue} {c nx:Int} {A:List aH} {N j:Nat} {e:List aH × List Int × List Int} {b:List aH} {m d:List Int} {x:aH} (a:qH l c nx A N e j b m d) (i:A[j]?=M x) (g:iZ l c b x=false) (n:bU l x) (o:0<=x.Id/\x.Id<nx) (r:N<=12):qH l c nx A N e (j+1) (iJ l c b x) (m++[x.Id]) d:=by
 have f:=a.go;rw[Vc i,Bv g] at f;obtain⟨q,p2,p3,p4⟩:=a.cons i;have h:(iJ l c b x).Perm (⟨x.Id,x.P,bZ l c b x⟩::b):=nJ _ _;have p:=h.length_eq;rw[aGt] at p;refine⟨f,(wA a.right n o q (by omega) g).1,?_,by omega⟩;exact(aIe.pairwise_iff (λa k=>a k.symm) (aIe.append_right _ h)).2 (aIj.2 ⟨p3,p2⟩)
theorem Ep {l:List Queue} {c:Int} {b:List aH} {x:aH}:(iJ l c b x).length=b.length+1:=(nJ _ _).length_eq
theorem El {f:List Run} (b:eB f):f≠[]:=λa=>by have:=b.1.1;rw[a] at this;exact this
theorem Tb {f:List Run} (a:eB f):f.length<=48:=kN a.1.1
theorem aA8 (w:y4) (tv bv rv:y5) (s:aG) (k:Nat) (f:List Run) (hl:aK w tv s.K) (hb:aS w bv s.F) (j:aR w rv f) (U:aI s=0) (h1:k<s.K.length) (h2:eB f) :
  y8 prog 93 #[.agg #[s.G,s.H,tv,bv],Y Z (k:Int),rv] w (lV w (bD s (k:Int) f)):=by
 obtain⟨c0,CF,CL⟩:=zq (λ(W:y4) (g:d7 w W)=>eU W tv bv s (hl.m g) (hb.m g)) (λ(W:y4) (g:d7 w W)=>Wf W rv f (j.m g)) (λ(W:y4) (g:d7 w W)=>Fh W rv f (j.m g) (Tb h2));obtain⟨ok,bg,cs⟩:=eR U;have OW:=I (λ(W:y4) (g:d7 w W)=>aC3 W tv bv s (hl.m g) (hb.m g) ok bg cs);obtain⟨t,d3,HX,ca,ce,d2⟩:=dW w s tv bv;obtain⟨T,c9,cd,dj,aw⟩:=zm HX ca ce d3 d2;clear HX ca ce d3 d2;obtain⟨HR,Q,H2,HK,df⟩:=zm (rU U h1 h2) U h2 h1 cs;rw[U] at c0;rw[deT h2] at CF;obtain⟨qa,er,rfl,_,_,_⟩:=hl.i;obtain⟨ea,eb,rfl,_,_,_⟩:=hb.i;obtain⟨fa,fc,rfl,_,_,_⟩:=j.i;have e5:¬ (k:Int)<0:=by omega
 have ep:decide ((k:Int)<0)=false:=deF e5;have eo:¬ ((s.K.length:Nat):Int)<=(k:Int):=by omega
 clear hl hb j U h2;generalize bD s (k:Int) f=cr at *;generalize d1:s.K.length=n at *;generalize cw:s.F.length=x at *;generalize dB:f.length=fl at *;obtain⟨X,B⟩:=zr d1 cw;clear d1 cw dB;go_enter func93,ntmps93;go_wp2_with fail;rw[dj.o];refine(c0 _ T).m ?_;rintro h w2 ⟨rfl,P⟩;obtain⟨ba,bb,bc,bd⟩:=c9 w2 P;have cb:=I P;go_wp2_with fail;refine(CF _ (T.r P)).m ?_;rintro h w3 ⟨rfl,bz⟩;clear ba bb bc bd P;obtain⟨ba,bb,bc,bd⟩:=c9 w3 (cb.r bz);have a6:=I (cb.r bz);have b0:=I (T.r a6);clear bz;go_wp2_with fail;refine(OW _ b0).m ?_;rintro h i ⟨u7,v7,rfl,a0,ae⟩;clear ba bb bc bd;obtain⟨gq,qc,rfl,cL,cR⟩:=a0.uform;obtain⟨v,p,rfl,bu⟩:=a0.vform;rw[B.o] at a0 bu ⊢;rw[X.o] at a0 ⊢;go_wp2_with fail;obtain⟨z,ab⟩:∃ z,i.alloc (zt #[s.G,s.H,O (M ⟨gq,0,J⟩) n qc,O v x p] 34)=z:=⟨_,rfl⟩;have a8:d7 i z:=ab▸(b8 i).a _;have cq:z.heap[i.heap.size]?=M (zt #[s.G,s.H,O (M ⟨gq,0,J⟩) n qc,O v x p] 34 (0,0)):=ab▸y7 i _;rw[ab];have ck:cH [i.heap.size] t z (O (M ⟨gq,0,J⟩) n qc) (O v x p) s.K s.F:=((a0.low (B2:=t.heap.size) a6.size (λr j=>j)).box (r:=i) (aGi _)).e a8;obtain⟨c6,aj,dm,cc,dl,am,di,dh⟩:=zi ck cq (b0.r (ae.r a8)) (a6.r (ae.r a8)) a8 (And.intro cL cR) (And.intro b0.size ae.size) bu;clear ck cq ae a8 a0 ab cL cR bu;have bR:=I (CL z.drew dm.dr);have e2:z ⟨i,2,J⟩=M (O (M ⟨gq,0,J⟩) n qc):=y6 _ _ 2 _ _ _ aj;refine cN 7 (λW=>W ⟨i,2,J⟩=M (O (M ⟨gq,0,J⟩) n qc)) (by kernel_rfl) e2 (λe=>?_);clear e2;refine tkT 0 ?_;refine tkT 1 ?_;refine tkT 2 ?_;refine tkT 3 ?_;refine goT 4 λb3 hK=>?_;simp only[zA,zB,zC];go_simp;refine bR.m ?_;rintro h W9 ⟨cv,rfl,bm,cF,bQ⟩
 go_wp2_with fail;refine hK.out _ _ (bQ.c e) λe=>?_
 clear hK b3;refine tkT 5 ?_;refine tkT 6 ?_;have af:d7 z W9:=(b8 z).dr.r bQ;have aa:=c6.e af;rw[<- X.o] at aa;obtain⟨⟨eq,k0⟩,f0⟩:=aa.qcell (k:=k) (by rw[X.o];exact HK);have e6:∀ r,(O v x p).ownBlock=M r->r<i.heap.size:=λr j=>(dh r j).2;have bh:=aa.setC (k:=k) (by rw[X.o];exact HK) bm (El H2) (λa m c h N=>by
  have h1:=cF a m c h;have h2:z.drew.heap.size=z.heap.size:=rfl;have l:=cc.size;have u:=(aGq.1 aj).1;have y:=am.2;have C:=dl.size;simp only[aH1,aGe,aHa,or_false,aIv] at N;rcases N with N|N|N|N
  ·omega
  ·have:=e6 _ N;omega
  ·omega
  have:=mJ N;omega)
 rw[X.o] at bh;have co:(W9.setCell ⟨gq,k*3+2,J⟩ cv).heap[i.heap.size]?=M (zt #[s.G,s.H,O (M ⟨gq,0,J⟩) n qc,O v x p] 34 (0,0)):=by
  rw[x7 W9 ⟨gq,k*3+2,J⟩ _ _ (by show i≠gq;have:=am.2;omega)];exact aZ aj af
 have d4:d7 t (W9.setCell ⟨gq,k*3+2,J⟩ cv):=(cc.r af).se (b:=gq) (o:=k*3+2) (by have:=am.1;have:=a6.size;omega) cv;obtain⟨dr,dt,ds,rfl⟩:∃ a n c,cv=O a n c:=by obtain⟨a,c,h,_⟩:=bm.i;exact⟨a,_,c,h⟩
 obtain⟨a5,ai,ay⟩:=zq bh co d4;clear aa bh co d4 bm cF bQ e af c6 bR;refine laT λb3 hK=>?_;simp only[zA,zB,zC];go_simp;refine hK.out _ _ ?_;clear hK b3;generalize W9.setCell ⟨gq,k*3+2,J⟩ (O dr dt ds)=b6 at *;have dx:t.heap.size<=i.heap.size:=by have:=a6.size;have:=di.2;omega
 have c8:=I (Li (q:=k) (dV (cD (bS Q).1).1).2.1 H2);have bl:=(cD (bS Q).1).2.1;have c3:=I (show 0<=s.G/\s.G<=48 from ⟨bl.1,bl.2.1⟩);rcases aIc x with ag|ag
 ·have e:s.F=[]:=aGv (by rw[B.o];exact ag);have u:=a5.o;rw[e] at u;have D:=I (Uf t b6 i _ _ s.G s.H _ ai u c8 c3);clear u;go_wp2_with (go_at_call 144;refine D.m ?_;rintro h C ⟨rfl,l⟩);refine wp_loop_rounds 1 ?_;rw[rounds_succ];obtain⟨G,y,ar,HZ⟩:=zp (aZ ai l) (ay.r l) (a5.e l) (cd _ (ay.r l));clear l;have e0:C ⟨i,0,J⟩=M (Y Z s.G):=y6 _ _ 0 _ _ _ G;have e1:C ⟨i,1,J⟩=M (Y Z s.H):=y6 _ _ 1 _ _ _ G;have e2:C ⟨i,2,J⟩=M (O (M ⟨gq,0,J⟩) n qc):=y6 _ _ 2 _ _ _ G;have e3:C ⟨i,3,J⟩=M (O v x p):=y6 _ _ 3 _ _ _ G;have ak:=I (show StS w (C.setRow (w+1) #[s.G,s.H,O (M ⟨gq,0,J⟩) n qc,O v x p]) (O (M ⟨gq,0,J⟩) n qc) (O v x p) (qP s k f) from .inl (by
   have g:=(((ar.under (r:=w+1) (by have:=aw.o;omega)).kept (aQ C (w+1) #[s.G,s.H,O (M ⟨gq,0,J⟩) n qc,O v x p]) (aHv ..)).low (ex2:=[]) (B2:=w.heap.size) T.size (λr j=>by cases j));have h:(qP s k f).F=s.F:=by show (lD s k f).1=s.F;rw[Ef e,e]
   rw[h];exact g))
  obtain⟨az,au,av⟩:=zq ((T.r y).sr (b:=w+1) (by omega) #[s.G,s.H,O (M ⟨gq,0,J⟩) n qc,O v x p]) (x5 C (w+1) _ #[s.G,s.H,O (M ⟨gq,0,J⟩) n qc,O v x p] _ _ HZ) (by rw[HR.o,Ef e]:cr=(qP s k f,[],[],0));clear e;generalize E:x=z' at *;clear E ag;go_wp2_with (refine z6 (w+1) #[s.G,s.H,O (M ⟨gq,0,J⟩) n qc,O v z' p] HZ ?_);exact v6 (dM (u1:=7) (u2:=8) (u3:=9) rfl _ _ (w+1) 34 #[s.G,s.H,O (M ⟨gq,0,J⟩) n qc,O v z' p] (0,0) _ rfl au underlying34 rfl size34) rfl (tA (s:=qP s k f) av ak SV.nil SV.nil az (λr g=>by cases g) (λr g=>by cases g))
 obtain⟨gb,es,h,_,_⟩:=a5.vsome (by rw[B.o];exact ag);rw[B.o] at h;cases h;have ad:(eF s.K k f).length=n:=by rw[lH,X.o]
 obtain⟨y,K⟩:∃ y,eF s.K k f=y:=⟨_,rfl⟩;have cf:dZ t i gq qc gb p s.G s.H (eF s.K k f) s.F [] (O J 0 0) b6:=
  ⟨by rw[ad,B.o];exact ai,by rw[ad,B.o];exact a5,⟨[],aGQ _ _ _ _,⟨rfl,λk l e g=>(by simp at g)⟩,λl g=>(by cases g),λu g=>(by cases g)⟩,by simp[aHR],λe g=>(by cases g),ay,dx⟩
 obtain⟨cE,_⟩:=bS Q;obtain⟨_,_,a3,_⟩:=cD cE;have RS:=I (Ue t b6 i gq qc gb p s.G s.H _ s.F cf (by rw[B.o];exact a5.capLe B) c8 (λe V=>rV.2 (df e V)) (by rw[B.o];exact bg) c3 (Nn (uH.1 a3).2));obtain⟨cg,ch,ci⟩:=Vj (q:=k) Q H2;have an:=I (show qH y s.G s.H (iY (kI s k f).2) s.F.length (lD s k f) 0 (kI s k f).1 [] [] from by
  rw[<- K];exact⟨rfl,Gb Q H2,ch,by rw[aHl,ci];exact aGi _⟩)
 have ah:=I (by rw[<- K];exact cg:∀ e∈iY (kI s k f).2,bU y e/\0<=e.Id/\e.Id<s.H);clear cf cE a3 cg ch ci;go_wp2_with fail;refine RS.m ?_;rintro h C ⟨va,l,cap2,rfl,hA,cx⟩;obtain⟨A,L⟩:∃ A,iY (kI s k f).2=A:=⟨_,rfl⟩;obtain⟨b1,a2⟩:∃ b1,(kI s k f).1=b1:=⟨_,rfl⟩;obtain⟨b4,a1⟩:∃ b4,lD s k f=b4:=⟨_,rfl⟩;have H:dZ t i gq qc l cap2 s.G s.H y b1 A va C:=by rw[<- K,<- L,<- a2];exact hA
 rw[L,a2,a1] at an;rw[L] at ah;have cj:y.length=n:=by rw[<- K];exact ad
 have cy:dL t i gq qc l cap2 s.G s.H y A va b1 [] [] (O J 0 0) (O J 0 0) C:=
  ⟨H.box,H.own,H.away,H.live,aGQ _ _ _ _,aGQ _ _ _ _,λr g=>(by cases g),λr g=>(by cases g),H.apart,H.e,H.low⟩
 obtain⟨dp,dq,e8⟩:∃ a c,va=O a A.length c:=by
  obtain⟨R,D,_⟩:=H.away;rcases D.2 with ⟨g,U⟩|⟨u,cp,E,g,_⟩
  ·exact⟨J,0,by rw[g,U]⟩
  exact⟨_,_,g⟩
 subst e8;have dv:s.F.length<=12:=by rw[B.o];exact bg
 have em:s.F.length<=cap2:=cx;have br:=(cD (bS Q).1).2.1;obtain⟨de,dg,dc,c5⟩:=zp (show 0<=s.H/\s.H<=1048576 from ⟨br.2.2.1,br.2.2.2⟩) (And.intro K (And.intro L (And.intro a2 a1))) cy cj;have el:A.length<=12:=by have:=an.len;rw[aHl] at this;omega
 clear hA H cy K L a2 a1 cx cj ad bl br;generalize s.F.length=dn at *;generalize cm:A.length=al at *;have c1:=I cm;clear cm;obtain⟨ii,d5,d6,d9,da⟩:=s8 info3;go_wp2;go_loopw [12,13,47] (λvm vd u wr=>∃ (F:Nat) (b:List aH) (m d:List Int),u=Y Z F/\F<=al/\Hid (dL t i gq qc l cap2 s.G s.H y A (O dp al dq) b m d vm vd wr)/\Hid (qH y s.G s.H A dn b4 F b m d)/\Hid (m.length+d.length=F)) (λ_ _ u _=>al-(intOf u).toNat);exact⟨0,b1,[],[],rfl,aGI _,dc,an,I rfl⟩;obtain⟨F,b,m,d,rfl,hj,u,a4,S⟩:=hrel;by_cases dD:F<al
 ·obtain⟨e,V⟩:=aV (f:=A) (k:=F) (by rw[c1.o];exact dD);obtain⟨ga,ek,pv,bv,h,⟨ed,ee,ef,eg,eh,ei,ej⟩,ac,cn⟩:=u.take V;cases h;obtain⟨bi,bp⟩:=ah e (aGC V);obtain⟨cz,_,_,en⟩:=a4.cons V;obtain⟨pa,pc,e4,_⟩:=(eI ac).1.i;obtain⟨be,bf,dz,_⟩:=(eI ac).2.1.i;subst e4 dz;have a9:=(b8 wr).a (zt #[e.Id,e.P.B,e.P.D,e.P.C,e.P.E,O pa e.P.A.length pc,O be e.L.length bf] 80);have bj:=aGY wr (zt #[e.Id,e.P.B,e.P.D,e.P.C,e.P.E,O pa e.P.A.length pc,O be e.L.length bf] 80);obtain⟨wq,bw⟩:∃ wq,wr.alloc (zt #[e.Id,e.P.B,e.P.D,e.P.C,e.P.E,O pa e.P.A.length pc,O be e.L.length bf] 80)=wq:=⟨_,rfl⟩;rw[bw] at a9 bj;have E:=u.later a9;obtain⟨⟨_,_,_,_,_,_⟩,_⟩:=E.ne;have cl:=(aGq.1 E.box).1;have BK:=I (aEs t wq i gq qc l cap2 b.length s.G s.H y b _ e _ _ ⟨E.box,E.own,rfl,by simp,λr j=>by
    simp only[aGe,aHf,aIv] at j;rcases j with j|j|j|j
    ·exact(E.mrow.lt r j).2
    ·exact(E.drow.lt r j).2
    ·obtain⟨R,D,_⟩:=E.away;exact(D.lt r j).2
    ·rw[j];exact cl,a4.right,bi,bp,cz,⟨by omega,by omega⟩,ac.m a9,λs D a n c h=>by
    obtain⟨R,p2⟩:=cn s D a n c h;exact⟨aGs R a9.size,p2⟩,E.e.size⟩)
  obtain⟨c4,HX,dk,c2,db,dd⟩:=zl E V bw bj bi bp;clear ac cn bi bp cz a9 bj bw E cl V;generalize e.P.A.length=pn at *;generalize e.L.length=ec at *;go_wp2_with fail;rw[dk.o];refine BK.m ?_;rintro h D (⟨hg,rfl,P⟩|⟨hg,rfl,cu,d0,W1,b5,bx,bn,e9⟩)
  ·obtain⟨R,ao⟩:=zr (c4.later P) (a4.gone HX hg);have e0:D ⟨wr,0,J⟩=M (Y Z e.Id):=(eH (aZ c2 P)).1;obtain⟨aq,ap,ax⟩:=zq (R.drow.alloc (zt #[e.Id] 3)) (wN D rfl (Y Z e.Id) 3) (show t.heap.size<=(D.alloc (zt #[e.Id] 3)).heap.size from (R.e.a _).size);have bk:=S.o;clear hg P BK bk;have dA:d.length<=12:=by have:=S.o;omega
   go_wp2_with (at_builtin;refine n8 _ rfl _ _ 74 rfl t 3 ii _ 1 8 underlying74 d5 d6 d9 da rfl (by decide) u13 d.length (d.map λn=>Y .i64 n) rfl aq ⟨D,0,J⟩ 1 1 [Y Z e.Id] rfl rfl ap (by simp[aGr]) (by omega) (by unfold o0;omega) (by omega) ax (D+1) (by simp) ?_;intro g2 du W3 bt bo bq dT);have a7:=(R.swap.push bt bo bq).swap;go_roundw
   case rel=>
    have h:(d++[e.Id]).length=d.length+1:=by simp
    rw[h] at a7;exact⟨F+1,b,m,d++[e.Id],by go_num,by omega,I a7,ao,I (by rw[h];have:=S.o;omega)⟩
   case measure=>simp[intOf];omega
  subst e9;obtain⟨R,ao⟩:=zr (c4.back (b2:=iJ y s.G b e) bx bn _ (by rw[Ep];exact cu) (by rw[Ep];exact d0)) (a4.put HX hg db dd dv);obtain⟨⟨_,_,_,_,n5,_⟩,_⟩:=u.ne;have dy:=(aGq.1 u.box).1;have bk:=aZ c2 bx;have ct:=(bn.block wr (aGq.1 bk).1 (λh=>by have:=b7 h;omega)).trans bk;have e0:(b5.setCell ⟨i,3,J⟩ (O (M ⟨l,0,J⟩) (b.length+1) cap2)) ⟨wr,0,J⟩=M (Y Z e.Id):=(eH (by rw[x7 b5 ⟨i,3,J⟩ _ _ (by show wr.heap.size≠i.heap.size;omega)];exact ct)).1;clear bk ct dy n5 bx bn cu d0;generalize dw:b5.setCell ⟨i,3,J⟩ (O (M ⟨l,0,J⟩) (b.length+1) cap2)=D at *;clear dw;obtain⟨aq,ap,ax⟩:=zq (R.mrow.alloc (zt #[e.Id] 3)) (wN D rfl (Y Z e.Id) 3) (show t.heap.size<=(D.alloc (zt #[e.Id] 3)).heap.size from (R.e.a _).size);clear hg BK;have dA:m.length<=12:=by have:=S.o;omega
  go_wp2_with (at_builtin;refine n8 _ rfl _ _ 74 rfl t 3 ii _ 1 8 underlying74 d5 d6 d9 da rfl (by decide) u12 m.length (m.map λn=>Y .i64 n) rfl aq ⟨D,0,J⟩ 1 1 [Y Z e.Id] rfl rfl ap (by simp[aGr]) (by omega) (by unfold o0;omega) (by omega) ax (D+1) (by simp) ?_;intro g2 du W3 bt bo bq dT);have a7:=R.push bt bo bq;go_roundw
  case rel=>
   have h:(m++[e.Id]).length=m.length+1:=by simp
   rw[h] at a7;exact⟨F+1,_,m++[e.Id],d,by go_num,by omega,I a7,ao,I (by rw[h];have:=S.o;omega)⟩
  case measure=>simp[intOf];omega
 obtain rfl:F=al:=by omega
 have a7:=a4.go;rw[List.drop_of_length_le (by rw[c1.o];exact aGi _)] at a7;obtain⟨K,L,a2,a1⟩:=dg.o;have R:lD s k f=(b,m,d):=a1.trans a7.symm;have G:=I (c5.o▸u.box);have e0:wr ⟨i,0,J⟩=M (Y Z s.G):=y6 _ _ 0 _ _ _ G;have e1:wr ⟨i,1,J⟩=M (Y Z s.H):=y6 _ _ 1 _ _ _ G;have e2:wr ⟨i,2,J⟩=M (O (M ⟨gq,0,J⟩) n qc):=y6 _ _ 2 _ _ _ G;have e3:wr ⟨i,3,J⟩=M (O (M ⟨l,0,J⟩) b.length cap2):=y6 _ _ 3 _ _ _ G;obtain⟨HZ,ar,EI⟩:=zq (cd _ u.e) (u.own) (Vb (q:=k) Q H2);have a3:∀ D∈m++d,I64 D:=λD E=>by
  have hp:=EI.perm;rw[R] at hp;obtain⟨z',a9,rfl⟩:=aHd.1 (hp.subset E);obtain⟨_,q1,q2⟩:=ah z' (by rw[<- L];exact(jS _).symm.subset a9);have:=de.o;unfold I64;omega
 have ak:=I (show StS w (wr.setRow (w+1) #[s.G,s.H,O (M ⟨gq,0,J⟩) n qc,O (M ⟨l,0,J⟩) b.length cap2]) (O (M ⟨gq,0,J⟩) n qc) (O (M ⟨l,0,J⟩) b.length cap2) (qP s k f) from .inl (by
  have g:=(((ar.under (r:=w+1) (by have:=aw.o;omega)).kept (aQ wr (w+1) #[s.G,s.H,O (M ⟨gq,0,J⟩) n qc,O (M ⟨l,0,J⟩) b.length cap2]) (aHv ..)).low (ex2:=[]) (B2:=w.heap.size) T.size (λr j=>by cases j));have h:(qP s k f).F=b:=by show (lD s k f).1=b;rw[R]
  have e':(qP s k f).K=y:=K;rw[h,e'];rw[c5.o] at g;exact g))
 obtain⟨az,au,av⟩:=zq ((T.r u.e).sr (b:=w+1) (by omega) #[s.G,s.H,O (M ⟨gq,0,J⟩) n qc,O (M ⟨l,0,J⟩) b.length cap2]) (x5 wr (w+1) _ #[s.G,s.H,O (M ⟨gq,0,J⟩) n qc,O (M ⟨l,0,J⟩) b.length cap2] _ _ HZ) (by rw[HR.o,R]:cr=(qP s k f,m,d,0));have aq:=aw.o;obtain⟨ap,ao,ac,a9⟩:=zp (show ∀ r,_->w.heap.size<=r from λr j=>by have:=(u.mrow.lt r j).1;omega) (show ∀ r,_->w.heap.size<=r from λr j=>by have:=(u.drow.lt r j).1;omega) (pD (eW u.mrow (aQ wr (w+1) #[s.G,s.H,O (M ⟨gq,0,J⟩) n qc,O (M ⟨l,0,J⟩) b.length cap2]) (λr j h=>by have:=(u.mrow.lt r j).1;have:=b7 h;omega)) (λD E=>a3 D (aHV _ E)) (by have:=S.o;omega)) (pD (eW u.drow (aQ wr (w+1) #[s.G,s.H,O (M ⟨gq,0,J⟩) n qc,O (M ⟨l,0,J⟩) b.length cap2]) (λr j h=>by have:=(u.drow.lt r j).1;have:=b7 h;omega)) (λD E=>a3 D (aHW _ E)) (by have:=S.o;omega));clear a7 K L a2 a1 R a3 aq;go_wp2_with (refine z6 (w+1) #[s.G,s.H,O (M ⟨gq,0,J⟩) n qc,O (M ⟨l,0,J⟩) b.length cap2] HZ ?_);exact v6 (dM (u1:=7) (u2:=8) (u3:=9) rfl _ _ (w+1) 34 #[s.G,s.H,O (M ⟨gq,0,J⟩) n qc,O (M ⟨l,0,J⟩) b.length cap2] (0,0) _ rfl au underlying34 rfl size34) rfl (tA (s:=qP s k f) av ak ac a9 az ap ao)
theorem aBu (w:y4) (c a b:y5) (s:aG) (q:Int) (f:List Run) (e:aK w c s.K) (hb:aS w a s.F) (g:aR w b f) (k:I64 q) :
  y8 prog 93 #[.agg #[s.G,s.H,c,a],q,b] w (lV w (bD s q f)):=by
 by_cases d:aI s=0
 ·by_cases i:0<=q/\q<s.K.length
  ·obtain⟨h,rfl⟩:∃ h:Nat,q=h:=⟨q.toNat,by omega⟩;by_cases j:eB f
   ·exact aA8 w c a b s h f e hb g d (by omega) j
   exact aA9 w c a b s h f e hb g d i j
  exact aDz w c a b s q f e hb g d i
 exact aBt w c a b s q f e hb g d
end Go.Proofs.YtaekdjbnldlklaaGreatDoor
