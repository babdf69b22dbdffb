/- States, plans, asking, submitting, cancelling: contracts of their functions and of the references'; each theorem names its own conditions. -/
import Derived.Test.YtaekdjbnldlklaaGreatDoorVReqL
import Derived.Deep.RegionHeldLaw
import Derived.Test.YtaekdjbnldlklaaGreatDoorVCore
import Derived.Deep.AppendLies
import Derived.WalkKit
import Derived.Deep.RegionHeld3
set_option linter.unusedVariables false
set_option maxRecDepth 100000
set_option maxHeartbeats 8000000
set_option linter.unusedSimpArgs false
namespace Go.Proofs.YtaekdjbnldlklaaGreatDoor
open Tryz
open List renaming getElem_toArray->zA,getElem_cons_zero->zB,getElem_cons_succ->zC,setIfInBounds_toArray->zD,set_cons_zero->zE,set_cons_succ->zF
open Go.RowKit Go.ChangeShapes Go.WideShapes Go.Deep
open _root_.List renaming mem_cons_self->aHv,flatten_cons->aHH,getElem?_append_left->aHI,getElem?_append_right->aHJ,mem_cons_of_mem->aGc,length_append->aGb,length_cons->aGt,mem_iff_getElem?->aHK,getElem?_eq_some_iff->aGw,mem_flatten->aHL,getElem?_map->aHt,getElem?_range->aHM,getElem?_eq_none->aHN,eq_nil_of_length_eq_zero->aGv,mem_of_getElem?->aGC,take_of_length_le->aHF,drop_of_length_le->aHu,any_eq_false->aGU,getElem?_eq_getElem->aGm,mem_cons->aH1,not_mem_nil->aHa,length_nil->aGu,getElem?_set_ne->aHz,getElem?_set_self->aHy,getElem?_take_of_lt->aHQ,mem_singleton->aHf,flatten_append->aHS,mem_append->aGe,cons_append->aGd,nil_append->aH9,mem_range->aGN,mem_append_left->aHV,mem_append_right->aHW,length_pos_iff->aHX,length_take->aHB,take_add_one->aHZ,take_take->aI0,take_set_of_le->aI1,mem_of_mem_drop->aI3,length_drop->aI4,length_eq_zero_iff->aI5,getElem?_drop->aGG,size_toArray->aH2,eraseIdx_eq_take_drop_succ->aI6,take_left->aI7,length_eraseIdx->aI8,getElem?_eraseIdx->aI9,getElem?_zip_eq_some->aIa,findIdx?_eq_some_iff_getElem->aGS,length_map->aHC
open _root_.Nat renaming zero_mul->aGL,zero_add->aGx,le_refl->aGi,zero_le->aGI,not_lt_zero->aGf,lt_of_lt_of_le->aGs,add_zero->aGM,succ_mul->aHO,le_trans->aGR,le_of_eq->aHY
open _root_.Option renaming some->M,none->J
open Go.Value renaming oneCell'->aGr,slice->O,int->Y,ownBlock->aHR
open _root_.Array renaming getElem?_eq_some_iff->aGq,ext->aHT,getElem?_eq_getElem->aGO,toList_setIfInBounds->aHU,length_toList->aI2
open Go.World renaming block_lt_of_cell?->aGp,cell?_of_block->aHm,setCell->aHP,ownsRow_nil->aGQ,size_alloc->aHb
open Go.IntKind renaming i64->Z
open _root_.Int renaming toNat_of_nonneg->aHo,toNat_natCast->aGK
open Go renaming Calls→y8,Program→o9,TypeId→o8,Value→y5,World→y4,bodyPost_ret→v6,callFunc→i6,cell_of_row→y6,frozen_of_row→x4,heap_alloc_new→y7,heap_setCell_other→x7,heap_setCell_same→x6,info_parts→s8,maxLen→o0,results_cell_row→j6,setRow_heap→x5,undef→u5,wpList_append_own→r6,wpList_store_row→y9,wp_region_held_drew→v8,wp_store_row→o7
open Go.Obj renaming cells→zt
open Go.Ending renaming returned→zv
open Go.Value renaming bool→zx,pointer→zz,func→zy,tuple→zw,string→b9
theorem Nx {α:Type}:∀ (css:List (List α)),(∀ c∈css,c.length=7)->∀ a b,b<7->css.flatten[a*7+b]?=(css[a]?).bind (λc=>c[b]?)
 | [],_,a,b,_=>by simp
 | c::css,h,a,b,hj=>by
  have d:=h c (aHv ..);rw[aHH];cases a with
  | zero=>
   rw[aGL,aGx,aHI (by omega)];rfl
  | succ a=>
   rw[aHJ (by omega),d,show (a+1)*7+b-7=a*7+b by omega,Nx css (λc e=>h c (aGc _ e)) a b hj];rfl
theorem iP {α:Type}:∀ (css:List (List α)),(∀ a∈css,a.length=7)->css.flatten.length=css.length*7
 | [],_=>rfl
 | a::css,h=>by
  rw[aHH,aGb,h a (aHv ..),iP css (λa b=>h a (aGc _ b)),aGt];omega
structure fP (w:y4) (css:List (List y5)) (b:List aH):Prop where
 len:css.length=b.length
 each:∀ (k:Nat) (cs:List y5) (x:aH),css[k]?=M cs->b[k]?=M x->fW w cs x
theorem zT {w:y4} {cs:List y5} {x:aH} (a:fW w cs x):cs.length=7:=by
 obtain⟨d,b,rfl,⟨c,rfl,_⟩,_⟩:=a;rfl
theorem aDf {w:y4} {cs:List y5} {x:aH} (a:fW w cs x):∀ b∈cs,b.oneCell'=true:=by
 obtain⟨j,f,rfl,⟨i,rfl,c,_⟩,b,_⟩:=a;obtain⟨d,g,rfl,_⟩:=c.i;obtain⟨e,h,rfl,_⟩:=b.i;simp[aGr]
theorem fP.seven {w:y4} {css:List (List y5)} {b:List aH} (c:fP w css b):∀ a∈css,a.length=7:=λa e=>by
 obtain⟨k,d⟩:=aHK.1 e;have g:=(aGw.1 d).1;obtain⟨i,h⟩:=aV (f:=b) (k:=k) (by rw[<- c.len];exact g);exact zT (c.each k a i d h)
theorem fP.one {w:y4} {css:List (List y5)} {b:List aH} (d:fP w css b):∀ c∈css.flatten,c.oneCell'=true:=λc a=>by
 obtain⟨g,h,a⟩:=aHL.1 a;obtain⟨k,e⟩:=aHK.1 h;have i:=(aGw.1 e).1;obtain⟨l,j⟩:=aV (f:=b) (k:=k) (by rw[<- d.len];exact i);exact aDf (d.each k g l e j) c a
theorem fP.m {w w':y4} {css:List (List y5)} {b:List aH} (a:fP w css b) (f:d7 w w'):fP w' css b:=
 ⟨a.len,λg c h d e=>(a.each g c h d e).m f⟩
theorem fP.append {w:y4} {css h:List (List y5)} {b c:List aH} (a:fP w css b) (g:fP w h c):fP w (css++h) (b++c):=by
 refine⟨by rw[aGb,aGb,a.len,g.len],λj f k d e=>?_⟩;by_cases i:j<css.length
 ·rw[aHI i] at d;rw[aHI (by rw[<- a.len];exact i)] at e;exact a.each j f k d e
 rw[aHJ (by omega)] at d;rw[aHJ (by rw[<- a.len];omega),<- a.len] at e;exact g.each _ f k d e
theorem Zr {w:y4} {a:Option Addr} {z c:Nat} {b:List aH} (l:aS w (O a z c) b):∃ g,fP w g b/\(1<=b.length->∃ e,a=M e/\∀ d i,g.flatten[d]?=M i->w (e.add d)=M i):=by
 rcases l with ⟨rfl,_⟩|⟨s,o,C,q,t,u,D,E,A⟩
 ·exact⟨[],⟨rfl,λk e g l=>by simp at l⟩,λl=>by simp at l⟩
 cases q;have each:∀ j,j<b.length->∃ e:List y5,∀ g,b[j]?=M g->fW w e g/\∀ (d:Nat) i,e[d]?=M i->w ⟨s,o+j*7+d,J⟩=M i:=λj B=>by
  obtain⟨g,n⟩:=aV (f:=b) (k:=j) B;obtain⟨e,m,r⟩:=A j g n;exact⟨e,λh h=>by rw[n] at h;cases h;exact⟨m,r⟩⟩
 obtain⟨f,x⟩:=choose_lt (α:=List y5) (p:=λj e=>∀ g,b[j]?=M g->fW w e g/\∀ (d:Nat) i,e[d]?=M i->w ⟨s,o+j*7+d,J⟩=M i) each;have y:∀ k e,((List.range b.length).map f)[k]?=M e->k<b.length/\e=f k:=λk e h=>by
  rw[aHt] at h;by_cases m:k<b.length
  ·rw[aHM m] at h;exact⟨m,by simpa using h.symm⟩
  rw[aHN (by simpa using m)] at h;cases h
 have v:fP w ((List.range b.length).map f) b:=⟨by simp,λk e g t u=>by
  obtain⟨h,rfl⟩:=y k e t;exact(x k h g u).1⟩
 refine⟨_,v,λ_=>⟨_,rfl,λd i m=>?_⟩⟩;have q:d=d / 7*7+d % 7:=by omega
 rw[q,Nx _ v.seven (d / 7) (d % 7) (by omega)] at m;cases r:((List.range b.length).map f)[d / 7]? with
 | none=>rw[r] at m;cases m
 | some e=>
  rw[r] at m;obtain⟨h,rfl⟩:=y _ e r;obtain⟨g,n⟩:=aV (f:=b) (k:=d / 7) h;have:=(x _ h g n).2 (d % 7) i m;rw[uS];rwa [show o+d / 7*7+d % 7=o+d by omega] at this
theorem Pz {w:y4} {base T:Nat} {v:y5} {css:List (List y5)} {b:List aH} (h:w.ownsRow base T 7 v b.length css.flatten) (c:fP w css b) (B:b.length<=12):aS w v b:=by
 rcases h.2 with ⟨rfl,o⟩|⟨g,m,x,rfl,z,q,p,t,A,C⟩
 ·exact .inl ⟨aGv o,J,0,rfl,by omega⟩
 refine .inr ⟨g,0,m,rfl,p,by unfold o0 at t;omega,by omega,(aGq.1 q).1,λk u j=>?_⟩;have s:=(aGw.1 j).1;obtain⟨d,e⟩:=aV (f:=css) (k:=k) (by rw[c.len];exact s);refine⟨d,c.each k d u e j,λa l i=>?_⟩;have y:=c.seven d (aGC e);have r:a<7:=by have:=(aGw.1 i).1;omega
 have n:css.flatten[k*7+a]?=M l:=by rw[Nx css c.seven k a r,e];exact i
 have:=h.cells (g:=g) rfl (k*7+a) l n;rw[uS] at this;rwa [show 0+(k*7+a)=0+k*7+a by omega] at this
theorem aEp {w:y4} {g:Addr} {m c:Nat} {b:List aH} (j:aS w (O (M g) m c) b) (o:b.length=m):∃ a,fP w a b/\a.flatten.length=m*7/\∀ e f,a.flatten[e]?=M f->w (g.add e)=M f:=by
 obtain⟨a,d,l⟩:=Zr j;refine⟨a,d,by rw[iP a d.seven,d.len,o],λe f h=>?_⟩;by_cases k:1<=b.length
 ·obtain⟨p,i,n⟩:=l k;cases i;exact n e f h
 have:a=[]:=aGv (by rw[d.len];omega);subst this;simp at h
theorem aDS (W:y4) (cs:List y5) (T:o8) (a:cs.length=7):(W.alloc (zt cs.toArray T)).ownsRow W T 7 (O (M ⟨W,0,J⟩) 1 1) 1 cs:=
 ⟨by omega,.inr ⟨W,1,cs.toArray,rfl,aGi _,y7 W _,aGi _,by decide,by simp[a],by simp[a,aHF]⟩⟩
theorem kO {w:y4} {base e d n:Nat} {v:y5} {xs:List y5} (c:w.ownsRow base e d v n xs) (g:1<=n):∃ b a,v=O (M ⟨b,0,J⟩) n a:=by
 rcases c.2 with ⟨_,f⟩|⟨b,a,_,rfl,_⟩
 ·omega
 exact⟨b,a,rfl⟩
theorem Ke {P:o9} {g:Array Oper} {o:Oper} {a:Act} {w:y4} {K:Act->y4->Prop} {Q:Exit->Act->y4->Prop} {h:Prop} (A:o.guard=J) (s x:Operand) (t:o8)
  (E:o.op=.call { callee:=.builtin .append,args:=#[s,x],argTypes:=#[t,t]})
  (base:Nat) (e:o8) (i:TypeInfo) (z:y5) (size bytes:Nat) (N:P.underlying t=M (.slice e)) (B:P.info? e=M i) (T:i.zero=M z)
  (H:i.size=size) (u:i.bytes=bytes) (U:z.cells.size=size) (L:0<size)
  (v:y5) (n:Nat) (xs:List y5) (G:a.eval s=v) (F:w.ownsRow base e size v n xs)
  (f:Addr) (m c:Nat) (news:List y5) (S:a.eval x=O (M f) m c) (C:news.length=m*size) (D:∀ d b,news[d]?=M b->w (f.add d)=M b) (k:∀ b∈news,b.oneCell'=true)
  (q:n+m<=o0) (y:(n+m)*bytes<=140737488355328) (r:base<=w)
  (j:∀ d b,b.ownsRow base e size d (n+m) (xs++news)->w.grownBy b v.ownBlock->K (a.put o.dst d) b) :
  if Region.wanted o (yielded g a.tmps)=true then Oper.wp P o a w K Q else h:=by
 have R:Region.wanted o (yielded g a.tmps)=true:=by simp[Region.wanted,A]
 rw[c7 R];exact wp_append_own w s x t E base e i z size bytes N B T H u U L v n xs G F f m c news S C D k q y r λd b l p _=>j d b l p
theorem jZ {w w':y4} (c:d7 w w') {a:Addr} {v:y5} (b:w a=M v):w' a=M v:=by
 rw[c.cell (aGp w a b)];exact b
theorem info80:(prog.info? 80).map (λa=>(a.zero,a.size,a.bytes))=M (M (.agg #[Y Z 0,Y Z 0,Y Z 0,Y Z 0,Y Z 0,O J 0 0,O J 0 0]),7,88):=by kernel_rfl
open Go.RowKit
open List renaming getElem_toArray->zA,getElem_cons_zero->zB,getElem_cons_succ->zC,setIfInBounds_toArray->zD,set_cons_zero->zE,set_cons_succ->zF
noncomputable def fD (t:Int) (x:aH):Bool:=decide ((pP x.P x.L).1<=t)
def iV (last next:Int):List aH->Bool
 | []=>true
 | x::b=>decide (last<x.Id) && decide (x.Id<next) && iV x.Id next b
theorem nT {last next:Int} {x:aH} {b:List aH} (c:¬ (last<x.Id/\x.Id<next)):iV last next (x::b)=false:=by
 unfold iV;by_cases a:last<x.Id
 ·rw[deF (λd=>c ⟨a,d⟩)];simp
 rw[deF a];simp
theorem Dw {last next:Int} {x:aH} {b:List aH} (a:last<x.Id) (c:x.Id<next):iV last next (x::b)=iV x.Id next b:=by
 show (decide _ && decide _ && iV _ _ _)=_;rw[deT a,deT c];simp
def rM (b:List aH) (k:Nat):Int:=if k=0 then -1 else(b.getD (k-1) default).Id
theorem Ja (b:List aH):rM b 0=-1:=rfl
theorem xN {b:List aH} {k:Nat} {x:aH} (a:b[k]?=M x):rM b (k+1)=x.Id:=by
 unfold rM;rw[d8 (by omega),Nat.add_sub_cancel,List.getD_eq_getElem?_getD,a];rfl
def mV (s:aG):Prop:=0<=s.G/\s.G<=48/\0<=s.H/\s.H<=1048576
instance (s:aG):Decidable (mV s):=inferInstanceAs (Decidable (_/\_/\_/\_))
@[irreducible] noncomputable def gW (s:aG):Int:=
 if eX s.K s.F≠0 then eX s.K s.F else if¬ mV s then 3 else if iV (-1) s.H s.F=false then 1 else if s.F.any (fD s.G)=true then 9 else 0
theorem xW {s:aG} (a:eX s.K s.F≠0):gW s=eX s.K s.F:=by unfold gW;rw[c7 a]
theorem xU {s:aG} (a:eX s.K s.F=0) (b:¬ mV s):gW s=3:=by unfold gW;rw[d8 (by simp[a]),c7 b]
theorem Gt {s:aG} (a:eX s.K s.F=0) (b:mV s) (c:iV (-1) s.H s.F=false):gW s=1:=by unfold gW;rw[d8 (by simp[a]),d8 (by simpa using b),c7 c]
theorem Bj {s:aG} (a:eX s.K s.F=0) (b:mV s) (c:iV (-1) s.H s.F=true) (d:s.F.any (fD s.G)=true):gW s=9:=by unfold gW;rw[d8 (by simp[a]),d8 (by simpa using b),d8 (by simp[c]),c7 d]
theorem xV {s:aG} (a:eX s.K s.F=0) (b:mV s) (c:iV (-1) s.H s.F=true) (d:s.F.any (fD s.G)=false):gW s=0:=by unfold gW;rw[d8 (by simp[a]),d8 (by simpa using b),d8 (by simp[c]),d8 (by simp[d])]
theorem dY {w W:y4} {a b c d:y5} {t:o8} (i:d7 (w.alloc (zt #[a,b,c,d] t)) W) :
  W ⟨w,0,J⟩=M a/\W ⟨w,1,J⟩=M b/\W ⟨w,2,J⟩=M c/\W ⟨w,3,J⟩=M d:=by
 have h:=y7 w (zt #[a,b,c,d] t);have e:∀ f g,(#[a,b,c,d]:Array y5)[f]?=M g->W ⟨w,f,J⟩=M g:=λf g f=>i.c (by rw[y6 _ _ _ _ _ _ h];exact f);exact⟨e 0 _ rfl,e 1 _ rfl,e 2 _ rfl,e 3 _ rfl⟩
theorem Tm (w:y4) (c a:y5) (x:aH) (t:Int) (b:aM w c x.P.A) (hb:bF w a x.L) :
  y8 prog 103 #[.agg #[x.Id,x.P.B,x.P.D,x.P.C,x.P.E,c,a],t] w λd e=>d=zv (zx (fD t x))/\d7 w e:=by
 obtain⟨g,f⟩:=zr (λ(W:y4) (e:d7 w W)=>aED W c a x.P x.L (b.m e) (hb.m e)) (show fD t x=decide ((pP x.P x.L).1<=t) from rfl);obtain⟨p,q,rfl,_,_,_⟩:=b.i;obtain⟨j,k,rfl,_,_,_⟩:=hb.i;clear b hb;generalize fD t x=o at *;generalize pP x.P x.L=i at *;obtain⟨n,m⟩:=i;generalize x.P.A.length=r at *;generalize x.L.length=l at *;go_enter func103,ntmps103;go_wp2_with fail;refine(g _ ((b8 w).a _)).m ?_;rintro d s ⟨rfl,h⟩;go_wp2;go_ret;exact⟨(rtB f),((b8 w).a _).r h⟩
theorem aDx (w:y4) (c a:y5) (x:aH) (t:Int) (B:Nat) (b:aM w c x.P.A) (hb:bF w a x.L) (h:w ⟨B,0,J⟩=M (Y Z t)) :
  y8 prog 209 #[.agg #[x.Id,x.P.B,x.P.D,x.P.C,x.P.E,c,a],zz (M ⟨B,0,J⟩)] w λd e=>d=zv (zx (fD t x))/\d7 w e:=by
 have g:=I (λ(W:y4) (e:d7 w W)=>Tm W c a x t (b.m e) (hb.m e));have f:=aGp w _ h;have m:B<w.heap.size:=f;clear f;obtain⟨o,p,rfl,_,_,_⟩:=b.i;obtain⟨j,k,rfl,_,_,_⟩:=hb.i;clear b hb;generalize fD t x=n at *;generalize x.P.A.length=q at *;generalize x.L.length=l at *;go_enter func209,ntmps209;go_wp2_with fail;refine(g _ ((b8 w).a _)).m ?_;rintro d r ⟨rfl,i⟩;go_wp2;go_ret;exact⟨rfl,((b8 w).a _).r i⟩
theorem yK (w:y4) (b C cap:Nat) (f:List aH) (h:Nat) (lb:Array y5) (p:aH->Bool) (hl:f.length<=17592186044416) (hb:b<w.heap.size) (y:∀ k x,f[k]?=M x->kM w b (C+k*7) x)
  (a0:∀ (args:Array y5) (w:y4),(i6 h args).run prog w=.ok (.enter h args) w)
  (B:∀ (k:Nat) (x:aH),f[k]?=M x->∀ W m a,d7 w W->aM W m x.P.A->bF W a x.L->y8 prog h (#[.agg #[x.Id,x.P.B,x.P.D,x.P.C,x.P.E,m,a]]++lb) W λd a=>d=zv (zx (p x))/\d7 W a) :
  y8 prog 159 #[O (M ⟨b,C,J⟩) f.length cap,zy (.func h) #[] lb] w λd a=>d=zv (Y Z (fX p f))/\d7 w a:=by
 obtain⟨D,E⟩:=zr y B;clear y B;generalize A:f.length=n at *;have u:=I A;clear A;go_enter func159,ntmps159;go_wp2;go_loopw [8] (λa wr=>∃ k:Nat,k<=n/\a=Y Z k/\Hid (∀ e g,e<k->f[e]?=M g->p g=false)/\d7 w wr) (λa _=>n-(intOf a).toNat);exact⟨0,aGI _,rfl,λe g j=>absurd j (aGf _),b8 _⟩;obtain⟨k,hk,rfl,o,c⟩:=hrel;have X:b<wr.heap.size:=aGs hb c.size;by_cases G:k<n
 ·obtain⟨x,l⟩:=aV (f:=f) (k:=k) (by rw[u.o];exact G);obtain⟨m,F,P,Q,R,S,T,U,V,s,r⟩:=dN (kM.m w wr b _ x c (D k x l));have z:=E k x l wr m F c s r;obtain⟨i,v⟩:=zr z l;obtain⟨pa,pc,rfl,_,_,_⟩:=s.i;obtain⟨K,L,rfl,_,_,_⟩:=r.i;clear z l s r;generalize x.P.A.length=pn at *;generalize x.L.length=N at *;cases a:p x with
  | true=>
   rw[a] at i;have q:=I a;clear a;go_wp2_with fail;refine i.m ?_;rintro d H ⟨rfl,t⟩;go_wp2;go_ret;exact⟨aL (uF v q o).symm,c.r t⟩
  | false=>
   rw[a] at i;have q:=I a;clear a;go_wp2_with fail;refine i.m ?_;rintro d H ⟨rfl,t⟩;go_wp2;go_roundw;exact⟨k+1,by omega,by go_num,oZ v q o,c.r t⟩;simp[intOf];omega
 obtain rfl:k=n:=by omega
 go_wp2;go_ret;exact⟨aL (lL (λe g j a=>o e g (by rw[u.o] at j;exact j) a)).symm,c⟩
theorem Ff (w:y4) (v:y5) (f:List aH) (a:Nat) (lb:Array y5) (p:aH->Bool) (r:aS w v f)
  (o:∀ (args:Array y5) (w:y4),(i6 a args).run prog w=.ok (.enter a args) w)
  (g:∀ (k:Nat) (x:aH),f[k]?=M x->∀ W c b,d7 w W->aM W c x.P.A->bF W b x.L->y8 prog a (#[.agg #[x.Id,x.P.B,x.P.D,x.P.C,x.P.E,c,b]]++lb) W λb c=>b=zv (zx (p x))/\d7 W c) :
  y8 prog 208 #[v,zy (.func a) #[] lb] w λb c=>b=zv (zx (f.any p))/\d7 w c:=by
 rcases r with ⟨rfl,u,y,rfl,B⟩|⟨c,t,i,rfl,z,A,j,l,d⟩
 ·go_enter func208,ntmps208;go_wp2;go_loopw [8] (λe wr=>e=Y Z 0/\wr=w) (λe _=>0);exact⟨rfl,rfl⟩;obtain⟨rfl,rfl⟩:=hrel;go_wp2;go_ret;exact⟨rfl,b8 _⟩
 have e:=yK w c t i f a lb p j l d o g;obtain⟨h,m⟩:=zr e (uG p f);clear e g d;generalize fX p f=C at *;generalize q:f.length=n at *;clear q;generalize f.any p=D at *;go_enter func208,ntmps208;go_wp2_with fail;refine h.m ?_;rintro b E ⟨rfl,s⟩;go_wp2;go_ret;exact⟨(congrArg (λc=>Ending.returned (zx c)) m),s⟩
theorem Um (w:y4) (v m:y5) (s:aG) (K:aK w v s.K) (hb:aS w m s.F) :
  y8 prog 155 #[.agg #[s.G,s.H,v,m]] w λp a=>p=zv (Y Z (gW s))/\d7 w a:=by
 obtain⟨y,HB,R,b⟩:=zp (λ(W:y4) (c:d7 w W)=>Pt W v m s.K s.F (K.m c) (hb.m c)) (λ(W:y4) (c:d7 w W)=>hb.m c) (λ(W:y4) (a:d7 (w.alloc (zt #[s.G,s.H,v,m] 34)) W)=>dY a) ((b8 w).a (zt #[s.G,s.H,v,m] 34));obtain⟨qa,qc,rfl,_,_,_⟩:=K.i;obtain⟨U,V,rfl,af,ag,ah,a0⟩:=jH hb;have a6:=I a0;clear K hb a0;by_cases d:eX s.K s.F=0
 ·rw[d] at y;by_cases h:mV s
  ·obtain⟨C,D,E,F⟩:=h;have ak:¬ s.G<0:=by omega
   have al:¬ 48<s.G:=by omega
   have am:¬ s.H<0:=by omega
   have an:¬ 1048576<s.H:=by omega
   obtain⟨G,P,Q⟩:=zq (λ(c:iV (-1) s.H s.F=false)=>Gt d ⟨C,D,E,F⟩ c) (λ(c:iV (-1) s.H s.F=true) (t:s.F.any (fD s.G)=true)=>Bj d ⟨C,D,E,F⟩ c t) (λ(c:iV (-1) s.H s.F=true) (t:s.F.any (fD s.G)=false)=>xV d ⟨C,D,E,F⟩ c t);obtain⟨q,u⟩:∃ q,iV (-1) s.H s.F=q:=⟨_,rfl⟩;have H0:=I (show iV (rM s.F 0) s.H (s.F.drop 0)=q from u);rw[u] at G P Q;clear d C D E F u;generalize gW s=X at *;generalize s.K.length=n at *;generalize a2:s.F.length=l at *;have S:=I a2;clear a2;go_enter func155,ntmps155;go_wp2_with fail;generalize ai:w.alloc (zt #[s.G,s.H,O qa n qc,O U l V] 34)=w1 at *;refine(y _ b).m ?_;rintro p x ⟨rfl,i⟩;obtain⟨H,r,T,z⟩:=R x i;have o:=I i;clear i T;go_wp2_with fail;obtain⟨a3,a4,a5⟩:=zq H r z;clear H r z;go_loopw [4,36] (λg e wr=>∃ k:Nat,g=Y Z (rM s.F k)/\e=Y Z k/\k<=l/\Hid (iV (rM s.F k) s.H (s.F.drop k)=q)/\d7 x wr) (λ_ e _=>l-(intOf e).toNat);exact⟨0,rfl,rfl,by omega,H0,b8 _⟩;obtain⟨k,rfl,rfl,hk,L,a⟩:=hrel;by_cases a9:k<l
   ·have aa:=z7 k l;obtain⟨j,B⟩:=aV (f:=s.F) (k:=k) (by rw[S.o];exact a9);obtain⟨bb,bo,rfl,ae,hE⟩:=a6 (by omega);obtain⟨pv,ad,c0,c1,c2,c3,c4,c5,c6,A,a1⟩:=dN (kM.m w wr bb _ j ((b.r o).r a) (hE k j B));have r:=a.c a4;have aj:w.heap.size<wr.heap.size:=aGp _ _ r;have hL:=xN B;have e:=L.o;rw[Eg B] at e;obtain⟨pa,pc,rfl,_,_,_⟩:=A.i;obtain⟨ab,ac,rfl,_,_,_⟩:=a1.i;clear A a1 hE B;generalize j.P.A.length=pn at *;generalize j.L.length=bn at *;have N:=I hL;clear hL;generalize a8:rM s.F k=la at *;clear a8;by_cases g1:j.Id<=la
    ·rw[nT (by omega)] at e;have g:=I (G e.symm);clear e;go_wp2;go_ret;exact⟨aL g.symm,b.r (o.r (a.a _))⟩
    by_cases g2:j.Id<s.H
    ·have a7:¬ s.H<=j.Id:=by omega
     rw[Dw (by omega) g2] at e;have g:=I e;clear e;go_wp2;go_roundw;exact⟨k+1,by rw[N.o],by go_num,by omega,I (by rw[N.o];exact g),a.a _⟩;simp[intOf];omega
    have a7:s.H<=j.Id:=by omega
    rw[nT (by omega)] at e;have g:=I (G e.symm);clear e;go_wp2;go_ret;exact⟨aL g.symm,b.r (o.r (a.a _))⟩
   obtain rfl:k=l:=by omega
   have aa:=z8 k k;have u:true=q:=by
    have:=L.o;rw[aHu (by rw[S.o];exact aGi _)] at this;exact this
   subst u;have z:=a.c a5;obtain⟨N,a1⟩:=zr (a.c a3) (HB _ ((b.r o).r a));have j:=I (Ff wr (O U k V) s.F 209 #[zz (M ⟨w,0,J⟩)] (fD s.G) a1 (enters_of func209 (by kernel_rfl) rfl) (λe a7 hj W pv m hW A hb=>aDx W pv m a7 s.G w A hb (hW.c N)));cases e:s.F.any (fD s.G) with
   | true=>
    rw[e] at j;have g:=I (P rfl e);clear e;go_wp2_with fail;refine j.m ?_;rintro p w3 ⟨rfl,B⟩;go_wp2;go_ret;exact⟨aL g.symm,b.r (o.r (a.r B))⟩
   | false=>
    rw[e] at j;have g:=I (Q rfl e);clear e;go_wp2_with fail;refine j.m ?_;rintro p w3 ⟨rfl,B⟩;go_wp2;go_ret;exact⟨aL g.symm,b.r (o.r (a.r B))⟩
  have e:=I (xU d h);have j:s.G<0\/(¬ s.G<0/\48<s.G)\/(¬ s.G<0/\¬ 48<s.G/\s.H<0)\/(¬ s.G<0/\¬ 48<s.G/\¬ s.H<0/\1048576<s.H):=by
   unfold mV at h;omega
  clear d h;generalize gW s=X at *;generalize s.K.length=n at *;generalize s.F.length=l at *;rcases j with h|⟨h,g⟩|⟨h,g,t⟩|⟨h,g,t,o⟩
  all_goals go_enter func155,ntmps155
  all_goals go_wp2_with fail
  all_goals refine(y _ b).m ?_
  all_goals rintro p x ⟨rfl,i⟩
  all_goals obtain⟨H,r,T,z⟩:=R x i
  all_goals go_wp2_with fail
  all_goals go_ret
  all_goals exact⟨aL e.symm,b.r i⟩
 have e:=I (xW d);have h:=neT d;clear d;generalize gW s=X at *;generalize eX s.K s.F=g at *;generalize s.K.length=n at *;generalize s.F.length=l at *;go_enter func155,ntmps155;go_wp2_with fail;refine(y _ b).m ?_;rintro p x ⟨rfl,i⟩;go_wp2;go_ret;exact⟨aL e.symm,b.r i⟩
@[irreducible] noncomputable def aI (s:aG):Int:=if gW s≠0 then gW s else if(lZ s.K s.F s.G.toNat).2.2=true then 10 else 0
theorem wQ {s:aG} (a:gW s≠0):aI s=gW s:=by unfold aI;rw[c7 a]
theorem Ar {s:aG} (a:gW s=0) (b:(lZ s.K s.F s.G.toNat).2.2=true):aI s=10:=by unfold aI;rw[d8 (by simp[a]),c7 b]
theorem tR {s:aG} (a:gW s=0) (b:(lZ s.K s.F s.G.toNat).2.2=false):aI s=0:=by unfold aI;rw[d8 (by simp[a]),d8 (by simp[b])]
theorem cD {s:aG} (b:gW s=0):eX s.K s.F=0/\mV s/\iV (-1) s.H s.F=true/\s.F.any (fD s.G)=false:=by
 by_cases a:eX s.K s.F=0
 ·by_cases c:mV s
  ·cases d:iV (-1) s.H s.F with
   | false=>rw[Gt a c d] at b;omega
   | true=>
    cases e:s.F.any (fD s.G) with
    | true=>rw[Bj a c d e] at b;omega
    | false=>exact⟨a,c,rfl,rfl⟩
  rw[xU a c] at b;omega
 rw[xW a] at b;exact absurd b a
theorem eU (w:y4) (c b:y5) (s:aG) (e:aK w c s.K) (hb:aS w b s.F) :
  y8 prog 99 #[.agg #[s.G,s.H,c,b]] w λh a=>h=zv (Y Z (aI s))/\d7 w a:=by
 obtain⟨F,t,d⟩:=zq (λ(W:y4) (g:d7 w W)=>Um W c b s (e.m g) (hb.m g)) (λ(W:y4) (D:d7 (w.alloc (zt #[s.G,s.H,c,b] 34)) W)=>dY D) ((b8 w).a (zt #[s.G,s.H,c,b] 34));by_cases a:gW s=0
 ·obtain⟨j,⟨m,G,_,_⟩,_,_⟩:=cD a;obtain⟨o,_,C,k⟩:=dV j;have u:=I (λ(W:y4) (g:d7 w W)=>show y8 prog 156 #[c,b,s.G] W (wC W (lZ s.K s.F s.G.toNat)) from by
   have:=xH W c b s.K s.F s.G.toNat (by omega) (e.m g) (hb.m g) o k C;rwa [aHo m] at this)
  rw[a] at F;obtain⟨q,r⟩:=zr (Ar a) (tR a);obtain⟨H,K,rfl,_,_,_⟩:=e.i;obtain⟨A,B,rfl,_,_,_⟩:=hb.i;clear e hb a j o k m G;generalize aI s=L at *;generalize lZ s.K s.F s.G.toNat=N at *;obtain⟨R,Q,E⟩:=N;generalize s.K.length=n at *;generalize s.F.length=P at *;go_enter func99,ntmps99;go_wp2_with fail;refine(F _ d).m ?_;rintro h p ⟨rfl,f⟩;obtain⟨v,x,y,z⟩:=t p f;go_wp2_with fail;refine(u _ (d.r f)).m ?_;rintro h S ⟨rfl,l⟩;clear v x y z;cases E with
  | true=>
   have i:=I (q rfl);go_wp2;go_ret;exact⟨aL i.symm,d.r (f.r l)⟩
  | false=>
   have i:=I (r rfl);go_wp2;go_ret;exact⟨aL i.symm,d.r (f.r l)⟩
 have i:=I (wQ a);have k:=neT a;obtain⟨H,K,rfl,_,_,_⟩:=e.i;obtain⟨A,B,rfl,_,_,_⟩:=hb.i;clear e hb a;generalize aI s=L at *;generalize gW s=j at *;generalize s.K.length=n at *;generalize s.F.length=P at *;go_enter func99,ntmps99;go_wp2_with fail;refine(F _ d).m ?_;rintro h p ⟨rfl,f⟩;go_wp2;go_ret;exact⟨aL i.symm,d.r f⟩
theorem aAT (w:y4) (S G:y5) (s:aG) (hl:aK w S s.K) (hb:aS w G s.F) :
  y8 prog 164 #[.agg #[s.G,s.H,S,G]] w λo w'=>o=zv (Y Z (gW s))/\d7 w w':=by
 obtain⟨B,a0,d⟩:=zq (λ(W:y4) (g:d7 w W)=>Pm W S G s.K s.F (hl.m g) (hb.m g)) (λ(W:y4) (c:d7 (w.alloc (zt #[s.G,s.H,S,G] 34)) W)=>dY c) ((b8 w).a (zt #[s.G,s.H,S,G] 34));obtain⟨qa,qc,rfl,_,_,_⟩:=hl.i;obtain⟨ba,bc,rfl,ar,au,av,ab⟩:=jH hb;have a5:=I ab;clear hl hb ab;by_cases i:eX s.K s.F=0
 ·rw[i] at B;by_cases K:mV s
  ·obtain⟨N,P,Q,R⟩:=K;obtain⟨z,a6,a8,D,Q2⟩:=zm (λ(g:iV (-1) s.H s.F=false)=>Gt i ⟨N,P,Q,R⟩ g) (λ(g:iV (-1) s.H s.F=true) (h3:s.F.any (fD s.G)=true)=>Bj i ⟨N,P,Q,R⟩ g h3) (λ(g:iV (-1) s.H s.F=true) (h3:s.F.any (fD s.G)=false)=>xV i ⟨N,P,Q,R⟩ g h3) (λW=>bI s.G 0 48 W N P) (λW=>bI s.H 0 1048576 W Q R);obtain⟨E,L⟩:∃ E,iV (-1) s.H s.F=E:=⟨_,rfl⟩;have H0:=I (show iV (rM s.F 0) s.H (s.F.drop 0)=E from L);rw[L] at z a6 a8;clear i N P Q R L;generalize gW s=fe at *;generalize s.K.length=n at *;generalize ae:s.F.length=h at *;have C:=I ae;clear ae;go_enter func164,ntmps164;go_wp2_with fail;generalize aw:w.alloc (zt #[s.G,s.H,O qa n qc,O ba h bc] 34)=w1 at *;refine(B _ d).m ?_;rintro o x ⟨rfl,j⟩;obtain⟨t,F,a2,m⟩:=a0 x j;have l:=I j;clear j a2;go_wp2_with fail;refine(D _).m ?_;rintro o V ⟨rfl,q⟩;obtain rfl:=q.symm;go_wp2_with fail;refine(Q2 _).m ?_;rintro o V ⟨rfl,q⟩;obtain rfl:=q.symm;go_wp2_with fail;obtain⟨af,ag,a4⟩:=zq t F m;clear t F m;go_loopw [4] (λy wr=>∃ k:Nat,y=Y Z k/\k<=h/\Hid (iV (rM s.F k) s.H (s.F.drop k)=E)/\Hid (-1<=rM s.F k/\(0<k->0<=rM s.F k))/\d7 x wr) (λy _=>h-(intOf y).toNat);exact⟨0,rfl,by omega,H0,I ⟨by rw[Ja];omega,λg=>by omega⟩,b8 _⟩;obtain⟨k,rfl,hk,X,HP,c⟩:=hrel;have m:=c.c a4;by_cases an:k<h
   ·have ao:=z7 k h;obtain⟨a,u⟩:=aV (f:=s.F) (k:=k) (by rw[C.o];exact an);obtain⟨U,bo,rfl,ak,A⟩:=a5 (by omega);obtain⟨_,_,c0,_⟩:=dN (kM.m w wr U _ a ((d.r l).r c) (A k a u));have F:=c.c ag;have hL:=xN u;have b:=X.o;rw[Eg u] at b;obtain⟨T,HE⟩:=zr hL A;have t1:=deF (show ¬ (k:Int)<0 by omega);have t2:=deF (show ¬ (h:Int)<=(k:Int) by omega);have t3:=deF (show ¬ h<=k by omega);clear hL u A;obtain⟨a9,aa⟩:=HP.o;by_cases a7:k=0
    ·subst a7;have t4:=deF (show ¬ (0:Int)<((0:Nat):Int) by omega);have t5:=deF (show ¬ (0:Int)<(0:Int) by omega);rw[Ja] at *;simp only[aGL,aGM] at c0;by_cases H:a.Id<0
     ·have dA:=deT H;rw[nT (by omega)] at b;have e:=I (z b.symm);clear b;go_wp2;go_quiet (fail);go_wp2;go_ret;exact⟨aL e.symm,d.r (l.r (c.dn nq))⟩
     have dA:=deF H;by_cases gB:s.H<=a.Id
     ·have dB:=deT gB;rw[nT (by omega)] at b;have e:=I (z b.symm);clear b;go_wp2;go_quiet (fail);go_wp2;go_ret;exact⟨aL e.symm,d.r (l.r (c.dn nq))⟩
     have dB:=deF gB;rw[Dw (by omega) (by omega)] at b;have e:=I b;clear b;go_wp2;go_quiet (fail);go_wp2;go_roundw;exact⟨0+1,by go_num,by omega,I (by rw[T.o];exact e),I (by rw[T.o];omega),c.dn nq⟩;simp[intOf];omega
    have t4:=deT (show (0:Int)<(k:Int) by omega);have t5:=deT (show 0<k by omega);obtain⟨r,a3⟩:=aV (f:=s.F) (k:=k-1) (by rw[C.o];omega);obtain⟨_,_,d0,_⟩:=dN (kM.m w wr U _ r ((d.r l).r c) (HE (k-1) r a3));have a1:=xN a3;rw[show k-1+1=k by omega] at a1;rw[a1] at b a9 aa;have t6:=deF (show ¬ ((k:Int)-1)<0 by omega);have t7:=deF (show ¬ (h:Int)<=(k:Int)-1 by omega);have t8:=deF (show ¬ h<=k-1 by omega);have i3:(0:Int)<=(k:Int)-1:=by omega
    have i4:((k:Int)-1).toNat=k-1:=by omega
    have i5:IntKind.i64.wrap ((k:Int)-1)=(k:Int)-1:=by rw[IntKind.wrap_i64];omega
    clear a3 a1;by_cases H:a.Id<0
    ·have dA:=deT H;rw[nT (by omega)] at b;have e:=I (z b.symm);clear b;go_wp2;go_quiet (fail);go_wp2;go_ret;exact⟨aL e.symm,d.r (l.r (c.dn nq))⟩
    have dA:=deF H;by_cases gB:s.H<=a.Id
    ·have dB:=deT gB;rw[nT (by omega)] at b;have e:=I (z b.symm);clear b;go_wp2;go_quiet (fail);go_wp2;go_ret;exact⟨aL e.symm,d.r (l.r (c.dn nq))⟩
    have dB:=deF gB;by_cases gD:a.Id<=r.Id
    ·have dD:=deT gD;rw[nT (by omega)] at b;have e:=I (z b.symm);clear b;go_wp2;go_quiet (fail);go_wp2;go_ret;exact⟨aL e.symm,d.r (l.r (c.dn nq))⟩
    have dD:=deF gD;rw[Dw (by omega) (by omega)] at b;have e:=I b;clear b;go_wp2;go_quiet (fail);go_wp2;go_roundw;exact⟨k+1,by go_num,by omega,I (by rw[T.o];exact e),I (by rw[T.o];omega),c.dn nq⟩;simp[intOf];omega
   obtain rfl:k=h:=by omega
   have ao:=z8 k k;have L:true=E:=by
    have:=X.o;rw[aHu (by rw[C.o];exact aGi _)] at this;exact this
   subst L;have ai:=I c;clear c X HP;generalize wr=w3 at *;go_wp2;go_loopw [5] (λy wr=>∃ b:Nat,y=Y Z b/\b<=k/\Hid (∀ H r,H<b->s.F[H]?=M r->fD s.G r=false)/\d7 x wr) (λy _=>k-(intOf y).toNat);exact⟨0,rfl,by omega,I (λH r g=>by omega),ai⟩;clear m;obtain⟨b,rfl,hj,HN,c⟩:=hrel;have m:=c.c a4;by_cases al:b<k
   ·have am:=z7 b k;obtain⟨a,u⟩:=aV (f:=s.F) (k:=b) (by rw[C.o];exact al);obtain⟨U,bo,rfl,ak,A⟩:=a5 (by omega);obtain⟨pv,aj,c0,T,c2,c3,c4,c5,c6,hp,a1⟩:=dN (kM.m w wr U _ a ((d.r l).r c) (A b a u));have t:=c.c af;have ML:=I (λp:bB wr=>fV p (v:=zw #[Y Z (pP a.P a.L).1,Y Z (pP a.P a.L).2]) (Ow p.v pv aj a.P a.L (hp.m p.h) (a1.m p.h)));obtain⟨pa,pc,rfl,_,_,_⟩:=hp.i;obtain⟨ap,aq,rfl,_,_,_⟩:=a1.i;have ad:fD s.G a=decide ((pP a.P a.L).1<=s.G):=rfl;obtain⟨a7,a9,a3⟩:=zq ad u t;clear hp a1 A u c0 ad t;have t1:=deF (show ¬ (b:Int)<0 by omega);have t2:=deF (show ¬ (k:Int)<=(b:Int) by omega);have t3:=deF (show ¬ k<=b by omega);generalize a.P.A.length=pn at *;generalize a.L.length=bn at *;generalize pP a.P a.L=ov at *;obtain⟨o1,o2⟩:=ov;go_wp2_with fail;replace m:=λp:bB wr=>p.cell m;replace T:=λp:bB wr=>p.cell T;replace c2:=λp:bB wr=>p.cell c2;replace c3:=λp:bB wr=>p.cell c3;replace c4:=λp:bB wr=>p.cell c4;replace c5:=λp:bB wr=>p.cell c5;replace c6:=λp:bB wr=>p.cell c6;refine bY (by kernel_rfl) (by kernel_rfl) ?_
    repeat (go_big_quiet_step (with_reducible exact ML.o _))
    refine wpQuiet_nil ?_;rintro w' ⟨p,rfl⟩;have t:=p.h.c a3;have aa:=I (c.r p.h);clear ML m T c2 c3 c4 c5 c6 a3;generalize p.v=W at *;by_cases ac:o1<=s.G
    ·have y:s.F.any (fD s.G)=true:=List.any_eq_true.2 ⟨a,aGC a9,by rw[a7.o];exact decide_eq_true ac⟩;have e:=I (a6 (by simp) y);clear y;go_wp2;go_ret;exact⟨aL e.symm,d.r (l.r aa)⟩
    have ah:=I (oZ a9 (p:=fD s.G) (by rw[a7.o];exact decide_eq_false ac) HN);go_wp2;go_roundw;exact⟨b+1,by go_num,by omega,ah,aa⟩;simp[intOf];omega
   obtain rfl:b=k:=by omega
   have am:=z8 b b;have y:s.F.any (fD s.G)=false:=by
    rw[aGU];intro r A;obtain⟨H,a⟩:=aHK.1 A;have u:=(aGw.1 a).1;rw[HN H r (by rw[<- C.o];exact u) a];simp
   have e:=I (a8 (by simp) y);clear y;go_wp2;go_ret;exact⟨aL e.symm,d.r (l.r c)⟩
  have b:=I (xU i K);by_cases a:0<=s.G/\s.G<=48
  ·obtain⟨D,Q2⟩:=zr (λW=>bI s.G 0 48 W a.1 a.2) (λW=>dH s.H 0 1048576 W (λg=>K ⟨a.1,a.2,g.1,g.2⟩));clear i K a;generalize gW s=fe at *;generalize s.K.length=n at *;generalize s.F.length=h at *;go_enter func164,ntmps164;go_wp2_with fail;refine(B _ d).m ?_;rintro o x ⟨rfl,j⟩;obtain⟨t,F,a2,m⟩:=a0 x j;go_wp2_with fail;refine(D _).m ?_;rintro o V ⟨rfl,q⟩;obtain rfl:=q.symm;go_wp2_with fail;refine(Q2 _).m ?_;rintro o V ⟨rfl,q⟩;obtain rfl:=q.symm;go_wp2;go_ret;exact⟨aL b.symm,d.r j⟩
  have D:=I (λW=>dH s.G 0 48 W a);clear i K a;generalize gW s=fe at *;generalize s.K.length=n at *;generalize s.F.length=h at *;go_enter func164,ntmps164;go_wp2_with fail;refine(B _ d).m ?_;rintro o x ⟨rfl,j⟩;obtain⟨t,F,a2,m⟩:=a0 x j;go_wp2_with fail;refine(D _).m ?_;rintro o V ⟨rfl,q⟩;obtain rfl:=q.symm;go_wp2;go_ret;exact⟨aL b.symm,d.r j⟩
 have b:=I (xW i);have e:=neT i;clear i;generalize gW s=fe at *;generalize eX s.K s.F=a at *;generalize s.K.length=n at *;generalize s.F.length=h at *;go_enter func164,ntmps164;go_wp2_with fail;refine(B _ d).m ?_;rintro o x ⟨rfl,j⟩;go_wp2;go_ret;exact⟨aL b.symm,d.r j⟩
theorem cO (w:y4) (c b:y5) (s:aG) (e:aK w c s.K) (hb:aS w b s.F) :
  y8 prog 111 #[.agg #[s.G,s.H,c,b]] w λh a=>h=zv (Y Z (aI s))/\d7 w a:=by
 obtain⟨F,t,d⟩:=zq (λ(W:y4) (g:d7 w W)=>aAT W c b s (e.m g) (hb.m g)) (λ(W:y4) (D:d7 (w.alloc (zt #[s.G,s.H,c,b] 34)) W)=>dY D) ((b8 w).a (zt #[s.G,s.H,c,b] 34));by_cases a:gW s=0
 ·obtain⟨j,⟨m,G,_,_⟩,_,_⟩:=cD a;obtain⟨o,_,C,k⟩:=dV j;have u:=I (λ(W:y4) (g:d7 w W)=>show y8 prog 118 #[c,b,s.G] W (wC W (lZ s.K s.F s.G.toNat)) from by
   have:=Ap W c b s.K s.F s.G.toNat (by omega) (e.m g) (hb.m g) o k C;rwa [aHo m] at this)
  rw[a] at F;obtain⟨q,r⟩:=zr (Ar a) (tR a);obtain⟨H,K,rfl,_,_,_⟩:=e.i;obtain⟨A,B,rfl,_,_,_⟩:=hb.i;clear e hb a j o k m G;generalize aI s=L at *;generalize lZ s.K s.F s.G.toNat=N at *;obtain⟨R,Q,E⟩:=N;generalize s.K.length=n at *;generalize s.F.length=P at *;go_enter func111,ntmps111;go_wp2_with fail;refine(F _ d).m ?_;rintro h p ⟨rfl,f⟩;obtain⟨v,x,y,z⟩:=t p f;go_wp2_with fail;refine(u _ (d.r f)).m ?_;rintro h S ⟨rfl,l⟩;clear v x y z;cases E with
  | true=>
   have i:=I (q rfl);go_wp2;go_ret;exact⟨aL i.symm,d.r (f.r l)⟩
  | false=>
   have i:=I (r rfl);go_wp2;go_ret;exact⟨aL i.symm,d.r (f.r l)⟩
 have i:=I (wQ a);have k:=neT a;obtain⟨H,K,rfl,_,_,_⟩:=e.i;obtain⟨A,B,rfl,_,_,_⟩:=hb.i;clear e hb a;generalize aI s=L at *;generalize gW s=j at *;generalize s.K.length=n at *;generalize s.F.length=P at *;go_enter func111,ntmps111;go_wp2_with fail;refine(F _ d).m ?_;rintro h p ⟨rfl,f⟩;go_wp2;go_ret;exact⟨aL i.symm,d.r f⟩
def qO (b:List aH) (k:Nat):Int:=(b.getD k default).Id
theorem kP {b:List aH} {k:Nat} {x:aH} (a:b[k]?=M x):qO b k=x.Id:=by simp[qO,List.getD,a]
theorem Uw {next:Int}:∀ {b:List aH} {last:Int},iV last next b=true->∀ a,a<b.length->last<qO b a/\qO b a<next
 | [],last,_,a,hk=>by simp at hk
 | d::b,last,h,a,hk=>by
  have c:last<d.Id/\d.Id<next:=by
   apply Classical.byContradiction;intro e;rw[nT e] at h;cases h
  rw[Dw c.1 c.2] at h;cases a with
  | zero=>exact c
  | succ a=>
   have:=Uw h a (by simpa using hk);have e:qO (d::b) (a+1)=qO b a:=rfl;omega
theorem Nm {next:Int}:∀ {b:List aH} {last:Int},iV last next b=true->∀ c a,c<a->a<b.length->qO b c<qO b a
 | [],last,_,c,a,_,hj=>by simp at hj
 | x::b,last,h,c,a,hij,hj=>by
  have d:last<x.Id/\x.Id<next:=by
   apply Classical.byContradiction;intro e;rw[nT e] at h;cases h
  rw[Dw d.1 d.2] at h;obtain⟨a,rfl⟩:∃ m,a=m+1:=⟨a-1,by omega⟩;have e:a<b.length:=by simpa using hj
  cases c with
  | zero=>exact(Uw h a e).1
  | succ c=>exact Nm h c a (by omega) e
def tG (id:Int) (x:aH):Bool:=decide (x.Id=id)
@[irreducible] noncomputable def jQ (s:aG) (id:Int):Int × Int:=if aI s≠0 then(0,aI s) else if 0<=fX (tG id) s.F then(fX (tG id) s.F,0) else(0,6)
theorem Gy {s:aG} {id:Int} (a:aI s≠0):jQ s id=(0,aI s):=by unfold jQ;rw[c7 a]
theorem Ee {s:aG} {id:Int} (a:aI s=0) (b:0<=fX (tG id) s.F):jQ s id=(fX (tG id) s.F,0):=by unfold jQ;rw[d8 (by simp[a]),c7 b]
theorem xX {s:aG} {id:Int} (a:aI s=0) (b:¬ 0<=fX (tG id) s.F):jQ s id=(0,6):=by unfold jQ;rw[d8 (by simp[a]),d8 b]
theorem bS {s:aG} (b:aI s=0):gW s=0/\(lZ s.K s.F s.G.toNat).2.2=false:=by
 by_cases a:gW s=0
 ·cases c:(lZ s.K s.F s.G.toNat).2.2 with
  | true=>rw[Ar a c] at b;omega
  | false=>exact⟨a,rfl⟩
 rw[wQ a] at b;exact absurd b a
def InB (b:List aH) (id:Int) (i:Nat):Prop:=i<=b.length/\(∀ a,a<i->qO b a<id)/\∀ a,i<=a->a<b.length->id<=qO b a
def aEK (b:List aH) (id:Int) (i:Nat) (a:Bool):Prop:=InB b id i/\((a=true/\fX (tG id) b=i)\/(a=false/\fX (tG id) b=-1))
theorem aD5 {next last:Int} {b:List aH} {id:Int} {i:Nat} {e:Bool} (p:iV last next b=true) (n:i<=b.length) (g:∀ a,a<i->qO b a<id) (j:∀ a,i<=a->a<b.length->id<=qO b a) (l:e=true↔i<b.length/\qO b i=id):aEK b id i e:=by
 refine⟨⟨n,g,j⟩,?_⟩;cases e with
 | true=>
  obtain⟨o,c⟩:=l.1 rfl;obtain⟨r,m⟩:=aV (f:=b) (k:=i) o;rw[kP m] at c;exact .inl ⟨rfl,uF m (by unfold tG;exact decide_eq_true c) (λa q d h=>by
   have:=g a d;rw[kP h] at this;unfold tG;exact decide_eq_false (by omega))⟩
 | false=>
  refine .inr ⟨rfl,lL (λa q d h=>?_)⟩;unfold tG;refine decide_eq_false (λc=>?_);have m:=kP h;have t:i<=a:=by
   apply Classical.byContradiction;intro o;have:=g a (by omega);omega
  by_cases o:i=a
  ·subst o;have:=l.2 ⟨d,by rw[m];exact c⟩;cases this
  have r:=j i (aGi _) (by omega);have s:=Nm p i a (by omega) d;omega
def Tk (f:List aH) (t:Int) (w:y4) (e:Ending) (w':y4):Prop:=∃ (b:Nat) (a:Bool),e=zv (zw #[b,zx a])/\aEK f t b a/\d7 w w'
theorem Oq (w:y4) (c a:y5) (x:aH) (id:Int) (b:aM w c x.P.A) (hb:bF w a x.L) (g:0<=x.Id) (h:x.Id<=1048576) (i:0<=id) (j:id<=1048576) :
  y8 prog 214 #[.agg #[x.Id,x.P.B,x.P.D,x.P.C,x.P.E,c,a],id] w λd e=>d=zv (Y Z (x.Id-id))/\d7 w e:=by
 have k:IntKind.i64.wrap (x.Id-id)=x.Id-id:=by rw[IntKind.wrap_i64] <;> omega
 obtain⟨l,m,rfl,_,_,_⟩:=b.i;obtain⟨d,e,rfl,_,_,_⟩:=hb.i;clear b hb;generalize x.P.A.length=n at *;generalize x.L.length=f at *;go_enter func214,ntmps214;go_wp2;go_ret;exact⟨rfl,(b8 w).a _⟩
theorem Xk (w:y4) (v:y5) (f:List aH) (t next:Int) (C:iV (-1) next f=true) (hn:next<=1048576) (hv:aS w v f) (a5:f.length<=12) (x:0<=t) (A:t<=1048576) :
  y8 prog 213 #[v,t,zy (.func 214) #[] #[]] w (Tk f t w):=by
 obtain⟨D,P,Q⟩:=zq (λ(c:Nat) (b:Bool) (h0:c<=f.length) (S:∀ d,d<c->qO f d<t) (x:∀ d,c<=d->d<f.length->t<=qO f d) (A:b=true↔c<f.length/\qO f c=t)=>aD5 C h0 S x A) (λk (hk:k<f.length)=>show 0<=qO f k/\qO f k<=1048576 from by have:=Uw C k hk;omega) (λc d (V:c<d) (hj:d<f.length)=>Nm C c d V hj);obtain⟨ba,bc,rfl,_,B,_,T⟩:=jH hv;have N:=I T;clear C hv T;generalize X:f.length=n at *;have R:=I X;clear X;go_enter func213,ntmps213;go_wp2;go_loopw [9,10] (λa e wr=>∃ c d:Nat,c<=d/\d<=n/\a=Y Z c/\e=Y Z d/\Hid ((∀ m,m<c->qO f m<t)/\(∀ m,d<=m->m<n->t<=qO f m))/\d7 w wr) (λa e _=>(intOf e-intOf a).toNat);exact⟨0,n,aGI _,aGi _,rfl,rfl,⟨λm B=>absurd B (aGf _),λm S x=>by omega⟩,b8 _⟩;obtain⟨c,d,V,G,rfl,rfl,H,q⟩:=hrel;by_cases a6:c<d
 ·obtain⟨e,h⟩:=aV (f:=f) (k:=(c+d) / 2) (by rw[R.o];omega);obtain⟨b,a4,rfl,hb,y⟩:=N (by omega);obtain⟨K,E,c0,c1,c2,c3,c4,c5,c6,o,l⟩:=dN (kM.m w wr b _ e q (y ((c+d) / 2) e h));have p:=P ((c+d) / 2) (by omega);rw[kP h] at p;have F:=I (λ(W:y4) (g:d7 wr W)=>Oq W K E e t (o.m g) (l.m g) p.1 p.2 x A);have s:=I (F wr (b8 wr));obtain⟨pa,pc,rfl,_,_,_⟩:=o.i;obtain⟨a0,a1,rfl,_,_,_⟩:=l.i;have U:=kP h;have i:=I U;clear h o l y U F;generalize e.P.A.length=pn at *;generalize e.L.length=bn at *;by_cases z:e.Id<t
  ·have a2:e.Id-t<0:=by omega
   have u:=I (show ∀ m,m<(c+d) / 2+1->qO f m<t from λm B=>by
    by_cases j:m=(c+d) / 2
    ·rw[j,i.o];exact z
    have:=Q m ((c+d) / 2) (by omega) (by omega);rw[i.o] at this;omega)
   go_wp2_with (go_at_call 214;refine s.m ?_;rintro j L ⟨rfl,r⟩);go_roundw;exact⟨(c+d) / 2+1,d,by omega,by omega,by go_num,rfl,⟨u.o,H.2⟩,q.r r⟩;simp[intOf];omega
  have a2:¬ e.Id-t<0:=by omega
  have u:=I (show ∀ m,(c+d) / 2<=m->m<n->t<=qO f m from λm B a3=>by
   by_cases j:m=(c+d) / 2
   ·rw[j,i.o];omega
   have:=Q ((c+d) / 2) m (by omega) a3;rw[i.o] at this;omega)
  go_wp2_with (go_at_call 214;refine s.m ?_;rintro j L ⟨rfl,r⟩);go_roundw;exact⟨c,(c+d) / 2,by omega,by omega,rfl,by go_num,⟨H.1,u⟩,q.r r⟩;simp[intOf];omega
 obtain rfl:c=d:=by omega
 by_cases F:c<n
 ·obtain⟨e,h⟩:=aV (f:=f) (k:=c) (by rw[R.o];omega);obtain⟨b,a4,rfl,hb,y⟩:=N (by omega);obtain⟨K,E,c0,c1,c2,c3,c4,c5,c6,o,l⟩:=dN (kM.m w wr b _ e q (y c e h));have p:=P c F;rw[kP h] at p;have s:=I (Oq wr K E e t o l p.1 p.2 x A);obtain⟨pa,pc,rfl,_,_,_⟩:=o.i;obtain⟨a0,a1,rfl,_,_,_⟩:=l.i;have i:=I (kP h);have U:=z7 c n;clear h o l y;generalize e.P.A.length=pn at *;generalize e.L.length=bn at *;by_cases z:e.Id=t
  ·have hq:=eqT (a:=e.Id-t) (b:=0) (by omega);have u:=I (D c true G H.1 H.2 ⟨λ_=>⟨F,by rw[i.o];exact z⟩,λ_=>rfl⟩);clear z;go_wp2_with (go_at_call 214;refine s.m ?_;rintro j L ⟨rfl,r⟩);go_ret2;exact⟨c,true,rfl,u,q.r r⟩
  have hq:=eqF (a:=e.Id-t) (b:=0) (by omega);have u:=I (D c false G H.1 H.2 ⟨λg=>(by cases g),λg=>by rw[i.o] at g;exact absurd g.2 z⟩);go_wp2_with (go_at_call 214;refine s.m ?_;rintro j L ⟨rfl,r⟩);go_ret2;exact⟨c,false,rfl,u,q.r r⟩
 have U:=z8 c n;have u:=I (D c false G H.1 H.2 ⟨λg=>(by cases g),λg=>absurd g.1 F⟩);go_wp2;go_ret2;exact⟨c,false,rfl,u,q⟩
theorem Tj (w:y4) (v:y5) (f:List aH) (t next:Int) (c:iV (-1) next f=true) (k:next<=1048576) (a:aS w v f) (h:f.length<=12) (i:0<=t) (j:t<=1048576) :
  y8 prog 161 #[v,t] w (Tk f t w):=by
 have e:=I (Xk w v f t next c k a h i j);obtain⟨o,p,rfl,_,_,_⟩:=a.i;clear c a;generalize f.length=n at *;go_enter func161,ntmps161;go_wp2_with fail;refine e.m ?_;rintro q r ⟨m,g,rfl,b,l⟩;have d:=I b;clear b;go_wp2;go_ret2;exact⟨m,g,rfl,d,l⟩
theorem Un (w:y4) (i f:y5) (s:aG) (id:Int) (e:aK w i s.K) (hb:aS w f s.F) :
  y8 prog 104 #[.agg #[s.G,s.H,i,f],id] w (qW w (jQ s id)):=by
 obtain⟨F,r,b⟩:=zq (λ(W:y4) (p:d7 w W)=>eU W i f s (e.m p) (hb.m p)) (λ(W:y4) (R:d7 (w.alloc (zt #[s.G,s.H,i,f] 34)) W)=>dY R) ((b8 w).a (zt #[s.G,s.H,i,f] 34));by_cases c:aI s=0
 ·obtain⟨u,_⟩:=bS c;obtain⟨t,⟨_,_,S,C⟩,q,_⟩:=cD u;obtain⟨_,_,Q,_⟩:=dV t;rw[c] at F;by_cases A:0<=id/\id<s.H
  ·obtain⟨L,H,K⟩:=zq (λ(W:y4) (p:d7 w W)=>Tj W f s.F id s.H q C (hb.m p) Q A.1 (by omega)) (Ee (id:=id) c) (xX (id:=id) c);obtain⟨N,P⟩:=A;have U:¬ id<0:=by omega
   have V:¬ s.H<=id:=by omega
   obtain⟨D,E,rfl,_,_,_⟩:=e.i;obtain⟨x,y,rfl,_,_,_⟩:=hb.i;clear e hb c u t q S C;generalize jQ s id=z at *;generalize s.K.length=n at *;generalize s.F.length=G at *;go_enter func104,ntmps104;go_wp2_with fail;refine(F _ b).m ?_;rintro o h ⟨rfl,a⟩;obtain⟨j,k,l,m⟩:=r h a;go_wp2_with fail;refine(L _ (b.r a)).m ?_;rintro o w3 ⟨X,T,rfl,v,B⟩;obtain⟨_,v⟩:=v;rcases v with ⟨rfl,g⟩|⟨rfl,g⟩
   ·have d:=I (H (by rw[g];omega));rw[g] at d;clear g j k l m;go_wp2;go_ret2;exact bX d (b.r (a.r B))
   have d:=I (K (by rw[g];omega));clear g j k l m;go_wp2;go_ret2;exact bX d (b.r (a.r B))
  have g:fX (tG id) s.F=-1:=lL (λH K v B=>by
   have:=Uw q H v;rw[kP B] at this;unfold tG;exact decide_eq_false (by omega))
  have d:=I (xX (id:=id) c (by rw[g];omega));obtain⟨D,E,rfl,_,_,_⟩:=e.i;obtain⟨x,y,rfl,_,_,_⟩:=hb.i;clear e hb c u t q g;generalize jQ s id=z at *;generalize s.K.length=n at *;generalize s.F.length=G at *;by_cases N:id<0
  ·go_enter func104,ntmps104;go_wp2_with fail;refine(F _ b).m ?_;rintro o h ⟨rfl,a⟩;obtain⟨j,k,l,m⟩:=r h a;go_wp2;go_ret2;exact bX d (b.r a)
  have P:s.H<=id:=by omega
  go_enter func104,ntmps104;go_wp2_with fail;refine(F _ b).m ?_;rintro o h ⟨rfl,a⟩;obtain⟨j,k,l,m⟩:=r h a;go_wp2;go_ret2;exact bX d (b.r a)
 have d:=I (Gy (id:=id) c);have j:=neT c;obtain⟨D,E,rfl,_,_,_⟩:=e.i;obtain⟨x,y,rfl,_,_,_⟩:=hb.i;clear e hb c;generalize jQ s id=z at *;generalize aI s=g at *;generalize s.K.length=n at *;generalize s.F.length=G at *;go_enter func104,ntmps104;go_wp2_with fail;refine(F _ b).m ?_;rintro o h ⟨rfl,a⟩;go_wp2;go_ret2;exact bX d (b.r a)
theorem aB7 (w:y4) (j h:y5) (s:aG) (id:Int) (y:aK w j s.K) (hb:aS w h s.F) :
  y8 prog 163 #[.agg #[s.G,s.H,j,h],id] w λa b=>a=zv (Y Z (fX (tG id) s.F))/\d7 w b:=by
 obtain⟨C,m⟩:=zr (λ(W:y4) (a:d7 (w.alloc (zt #[s.G,s.H,j,h] 34)) W)=>dY a) ((b8 w).a (zt #[s.G,s.H,j,h] 34));obtain⟨L,N,rfl,_,_,_⟩:=y.i;obtain⟨E,F,rfl,_,_,_,v⟩:=jH hb;obtain⟨A,r⟩:=zr v (λ(c:aH)=>show tG id c=decide (c.Id=id) from rfl);clear y hb v;generalize s.K.length=n at *;generalize z:s.F.length=d at *;have u:=I z;clear z;go_enter func163,ntmps163;go_wp2_with fail;generalize T:w.alloc (zt #[s.G,s.H,O L n N,O E d F] 34)=P at *;go_loopw [5] (λb wr=>∃ k:Nat,b=Y Z k/\k<=d/\Hid (∀ e g,e<k->s.F[e]?=M g->tG id g=false)/\d7 P wr) (λb _=>d-(intOf b).toNat);exact⟨0,rfl,by omega,I (λe g i=>absurd i (aGf _)),b8 _⟩;obtain⟨k,rfl,S,o,a⟩:=hrel;obtain⟨_,_,_,Q⟩:=C wr a;by_cases G:k<d
 ·have H:=z7 k d;obtain⟨c,q⟩:=aV (f:=s.F) (k:=k) (by rw[u.o];exact G);obtain⟨D,U,rfl,hb,x⟩:=A (by omega);obtain⟨_,_,R,_⟩:=dN (kM.m w wr D _ c (m.r a) (x k c q));have t:=I q;clear q x;by_cases b:c.Id=id
  ·have K:=eqT b;have l:=I (uF t (by rw[r.o];exact decide_eq_true b) o);clear b;go_wp2;go_ret;exact⟨aL l.symm,m.r a⟩
  have K:=eqF b;have B:=I (oZ t (p:=tG id) (by rw[r.o];exact decide_eq_false b) o);clear b;go_wp2;go_roundw;exact⟨k+1,by go_num,by omega,B,a⟩;simp[intOf];omega
 obtain rfl:k=d:=by omega
 have H:=z8 k k;have l:=I (lL (p:=tG id) (xs:=s.F) (λe g i b=>o e g (by rw[u.o] at i;exact i) b));go_wp2;go_ret;exact⟨aL l.symm,m.r a⟩
theorem Vx (w:y4) (e c:y5) (s:aG) (id:Int) (g:aK w e s.K) (hb:aS w c s.F) :
  y8 prog 109 #[.agg #[s.G,s.H,e,c],id] w (qW w (jQ s id)):=by
 obtain⟨F,l,p,b⟩:=zp (λ(W:y4) (f:d7 w W)=>cO W e c s (g.m f) (hb.m f)) (λ(W:y4) (f:d7 w W)=>aB7 W e c s id (g.m f) (hb.m f)) (λ(W:y4) (y:d7 (w.alloc (zt #[s.G,s.H,e,c] 34)) W)=>dY y) ((b8 w).a (zt #[s.G,s.H,e,c] 34));obtain⟨D,E,rfl,_,_,_⟩:=g.i;obtain⟨B,C,rfl,_,_,_⟩:=hb.i;clear g hb;by_cases a:aI s=0
 ·obtain⟨m,o⟩:=zr (Ee (id:=id) a) (xX (id:=id) a);rw[a] at F;clear a;generalize jQ s id=v at *;generalize fX (tG id) s.F=z at *;generalize s.K.length=n at *;generalize s.F.length=A at *;go_enter func109,ntmps109;go_wp2_with fail;refine(F _ b).m ?_;rintro i k ⟨rfl,d⟩;obtain⟨q,r,t,u⟩:=p k d;go_wp2_with fail;refine(l _ (b.r d)).m ?_;rintro i G ⟨rfl,j⟩;clear q r t u;by_cases x:0<=z
  ·have h:=I (m x);go_wp2;go_ret2;exact bX h (b.r (d.r j))
  have h:=I (o (by omega));go_wp2;go_ret2;exact bX h (b.r (d.r j))
 have h:=I (Gy (id:=id) a);have m:=neT a;clear a;generalize jQ s id=v at *;generalize aI s=j at *;generalize s.K.length=n at *;generalize s.F.length=A at *;go_enter func109,ntmps109;go_wp2_with fail;refine(F _ b).m ?_;rintro i k ⟨rfl,d⟩;go_wp2;go_ret2;exact bX h (b.r d)
theorem mC (W:y4) (T a:Nat) (b:0<a):(W.alloc (zt #[] T)).ownsRow W T a (O (M ⟨W,0,J⟩) 0 0) 0 []:=
 ⟨by simp,.inr ⟨W,0,#[],rfl,aGi _,y7 W _,aGi _,by decide,by simp,by simp⟩⟩
theorem oW {α:Type} {f g:α->Int} {w:y4} {b c:Nat} {xs:List α} (n:∀ d a,xs[d]?=M a->E2 f g w b (c+d*2) a):∀ (j:Nat) i,(bH f g xs)[j]?=M i->w ((⟨b,c,J⟩:Addr).add j)=M i:=by
 intro j i h;have p:=(aGw.1 h).1;rw[gX] at p;have q:j / 2<xs.length:=by omega
 obtain⟨a,l⟩:∃ a,xs[j / 2]?=M a:=⟨_,aGm q⟩;obtain⟨k,m,_⟩:=n _ a l;obtain⟨d,e⟩:=pB f g xs (j / 2) a l;have o:(⟨b,c,J⟩:Addr).add j=⟨b,c+j,J⟩:=by unfold Addr.add;split <;> simp_all
 rw[o];by_cases r:j % 2=0
 ·rw[show j / 2*2=j by omega] at d k;rw[h] at d;rw[k,<- d]
 rw[show j / 2*2+1=j by omega] at e;rw[h] at e;rw[show c+j=c+j / 2*2+1 by omega,m,<- e]
theorem rH {α:Type} {f g:α->Int} (xs:List α):∀ c∈bH f g xs,c.oneCell'=true:=by
 intro c a;unfold bH at a;obtain⟨d,_,b⟩:=List.mem_flatMap.1 a;simp only[aH1,aHa,or_false] at b;rcases b with rfl|rfl <;> rfl
theorem Fh (w:y4) (v:y5) (f:List Run) (b:aR w v f) (Q:f.length<=48) :
  y8 prog 84 #[v] w (pZ w f):=by
 obtain⟨E,F,G,H,K⟩:=s8 info101;obtain⟨i,k,rfl,N,P,_⟩:=b.i;cases i with
 | none=>
  have d:f=[]:=by
   rcases b with ⟨a,_⟩|⟨p,s,h,e,_⟩
   ·exact a
   cases e
  subst d;clear b;rw[aGu];have B:∀ W,Sem.run prog (binOp .eql 61 (O J 0 k) (O J 0 0)) W=.ok (zx true) W:=λW=>rfl;go_enter func84,ntmps84
  go_wp2;go_ret;exact⟨_,rfl,SV.nil,(λi n h a=>by have c:O J 0 0=O (M i) n h:=a;cases c),b8 w⟩
 | some j=>
  have r:∀ (c:Nat) g,(bH Run.At Run.N f)[c]?=M g->w (j.add c)=M g:=by
   rcases b with ⟨rfl,_⟩|⟨p,s,h,e,_,_,_,_,l⟩
   ·intro c g a;simp[bH] at a
   cases e;exact oW l
  have q:∀ d∈f,I64 d.At/\I64 d.N:=by
   rcases b with ⟨rfl,_⟩|⟨p,s,h,e,_,_,_,_,l⟩
   ·intro d o;cases o
   intro d o;obtain⟨u,m⟩:=aHK.1 o;obtain⟨_,_,t,x⟩:=l u d m;exact⟨t,x⟩
  obtain⟨z,x⟩:=zr r q;have hlen:=gX Run.At Run.N f;have y:=I hlen;have s:=mC w 101 2 (by omega);clear b r q hlen;generalize p:f.length=n at *;have l:=I p;clear p;have B:∀ W,Sem.run prog (binOp .eql 61 (O (M j) n k) (O J 0 0)) W=.ok (zx false) W:=λW=>rfl;go_enter func84,ntmps84
  go_wp2_with (at_builtin;refine r6 _ rfl _ _ 61 rfl w 101 E _ 2 16 underlying61 F G H K rfl (by decide) _ _ _ rfl s j n k (bH Run.At Run.N f) rfl y (λc g C=>jZ ((b8 w).a _) (z c g C)) (rH f) (by unfold o0;omega) (by omega) (by simp) ?_);intro R L t o D;obtain⟨h,A⟩:=zr t (((b8 w).a (zt #[] 101)).gr o (λu m=>by cases m;exact aGi _));clear t o D s;go_wp2;go_ret;refine⟨_,rfl,bL (base:=w.heap.size) (e:=101) ?_ x (by rw[l.o];omega),yZ h,A⟩;have a:=h.o;rw[l.o];simpa using a
open Go.RowKit Go.ChangeShapes Go.WideShapes Go.Deep
theorem Jg {α:Type} {m:Nat} (f:0<m):∀ (css:List (List α)),(∀ c∈css,c.length=m)->∀ a b,b<m->css.flatten[a*m+b]?=(css[a]?).bind (λc=>c[b]?)
 | [],_,a,b,_=>by simp
 | c::css,h,a,b,hj=>by
  have d:=h c (aHv ..);rw[aHH];cases a with
  | zero=>
   rw[aGL,aGx,aHI (by omega)];rfl
  | succ a=>
   have g:(a+1)*m=a*m+m:=by rw[aHO]
   rw[aHJ (by omega),d,show (a+1)*m+b-m=a*m+b by omega,Jg f css (λc e=>h c (aGc _ e)) a b hj];rfl
theorem Gu {α:Type} {m:Nat}:∀ (css:List (List α)),(∀ a∈css,a.length=m)->css.flatten.length=css.length*m
 | [],_=>by simp
 | a::css,h=>by
  rw[aHH,aGb,h a (aHv ..),Gu css (λa b=>h a (aGc _ b)),aGt,aHO];omega
def iM (bs:List Nat) (W:y4) (g:Nat) (l:List Queue):Prop:=
 ∃ c:List y5,iE 63 W g c/\∀ b a,l[b]?=M a->c[b*3]?=M (b9 a.Q)/\a.Q.size<=9223372036854775807/\c[b*3+1]?=M (Y Z a.R)/\I64 a.R/\∃ d,c[b*3+2]?=M d/\aR W d a.Cap/\bM (g::bs) d
def gE (m j k base:Nat) (W:y4) (g:Nat):Prop:=g<W.heap.size/\∀ b,b<k->∀ a n c,W ⟨g,b*m+j,J⟩=M (O (M a) n c)->base<=a.block
theorem gE.zero {m j base:Nat} {W:y4} {g:Nat} (a:g<W.heap.size):gE m j 0 base W g:=⟨a,λb b=>by omega⟩
theorem gE.e {m j k base:Nat} {W W':y4} {g:Nat} (a:gE m j k base W g) (b:d7 W W'):gE m j k base W' g:=
 ⟨aGs a.1 b.size,λh f c n d e=>a.2 h f c n d (by rw[<- b.ce a.1];exact e)⟩
theorem gE.kept {m j k base r:Nat} {W W':y4} {g:Nat} (c:gE m j k base W g) (d:W.grownBy W' (M r)) (i:g≠r):gE m j k base W' g:=
 ⟨aGs c.1 d.size,λe h a n f b=>c.2 e h a n f (by rw[<- aHm (a:=⟨g,e*m+j,J⟩) (d.block g c.1 (λb=>i (b7 b)))];exact b)⟩
theorem gE.less {m j k l base b2:Nat} {W:y4} {g:Nat} (a:gE m j k base W g) (h:l<=k) (hb:b2<=base):gE m j l b2 W g:=
 ⟨a.1,λe f b n c d=>aGR hb (a.2 e (by omega) b n c d)⟩
theorem gE.other {m j k base o:Nat} {W:y4} {g:Nat} (b:gE m j k base W g) (i:∀ a,a<k->a*m+j≠o) (u:y5):gE m j k base (W.setCell ⟨g,o,J⟩ u) g:=
 ⟨by simpa[aHP] using b.1,λa c d n e f=>b.2 a c d n e (by rw[<- f];exact(World.cell?_setCell_other _ _ _ _ (λh=>i a c (by injection h with _ e3;exact e3.symm))).symm)⟩
theorem gE.set {m j k base:Nat} {W:y4} {g:Nat} {u r:y5} (h:gE m j k base W g) (p:0<m) (i:W ⟨g,k*m+j,J⟩=M r) (q:∀ a n b,u=O (M a) n b->base<=a.block):gE m j (k+1) base (W.setCell ⟨g,k*m+j,J⟩ u) g:=by
 have e:=h.other (o:=k*m+j) (λd f c=>by
  have:=(Nat.mul_lt_mul_right p).2 f;omega) u
 refine⟨e.1,λd f a n b c=>?_⟩;by_cases l:d=k
 ·subst l;rw[World.cell?_setCell_same _ _ _ i] at c;exact q a n b (b7 c)
 exact e.2 d (by omega) a n b c
theorem iM.e {bs:List Nat} {W W':y4} {g:Nat} {l:List Queue} (j:iM bs W g l) (a:d7 W W'):iM bs W' g l:=by
 obtain⟨q,k,m⟩:=j;refine⟨q,k.e a,λp r n=>?_⟩;obtain⟨b,c,d,f,e,h,i,o⟩:=m p r n;exact⟨b,c,d,f,e,h,i.m a,o⟩
theorem iM.kept {bs:List Nat} {W W':y4} {g r:Nat} {l:List Queue} (m:iM bs W g l) (b:W.grownBy W' (M r)) (s:r∈bs) (q:g≠r):iM bs W' g l:=by
 obtain⟨u,n,o⟩:=m;refine⟨u,n.kept b (λa=>q (b7 a)),λt v p=>?_⟩;obtain⟨d,e,f,i,h,a,k,c⟩:=o t v p;exact⟨d,e,f,i,h,a,fB k c b (λj j=>by cases j;exact aGc _ s),c⟩
theorem aQ (W:y4) (b:Nat) (cs:Array y5):W.grownBy (W.setRow b cs) (M b):=
 ⟨rfl,rfl,rfl,by simp[World.setRow],λd _ c=>setRow_other W b d cs (λa=>c (by rw[a]))⟩
theorem iM.v {bs:List Nat} {W:y4} {g cap:Nat} {l:List Queue} (j:iM bs W g l) (m:l.length<=cap) (n:cap<=9223372036854775807) (r:l.length<=5):aK W (O (M ⟨g,0,J⟩) l.length cap) l:=by
 obtain⟨s,a,k⟩:=j;refine .inr ⟨g,0,cap,rfl,m,n,by omega,a.lt,λp q o=>?_⟩;obtain⟨b,c,d,f,e,h,i,_⟩:=k p q o;rw[aGx];exact⟨a.cell b,c,a.cell d,f,e,a.cell h,i⟩
theorem iM.cell {bs:List Nat} {W:y4} {g:Nat} {l:List Queue} (e:iM bs W g l) {k:Nat} {x:Queue} (h:l[k]?=M x):∃ a,W ⟨g,k*3+2,J⟩=M a/\W.frozen? ⟨g,k*3+2,J⟩=false/\aR W a x.Cap/\g<W.heap.size:=by
 obtain⟨i,b,f⟩:=e;obtain⟨_,_,_,_,a,c,d,_⟩:=f k x h;exact⟨a,b.cell c,b.free _,d,b.lt⟩
theorem iM.set {bs:List Nat} {W:y4} {g:Nat} {l:List Queue} (r:iM bs W g l) {k:Nat} {x:Queue} (v:l[k]?=M x) {a:y5} (w:aR W a x.Cap) (d:bM (g::bs) a):iM bs (W.setCell ⟨g,k*3+2,J⟩ a) g l:=by
 obtain⟨y,s,t⟩:=r;have e:=aN W g (k*3+2) a;have f:∀ b,M g=M b->b∈g::bs:=λb b=>by cases b;exact aHv ..
 refine⟨y.set (k*3+2) a,s.set _ _,λi z c=>?_⟩;obtain⟨j,m,n,p,o,b,q,h⟩:=t i z c;refine⟨by rw[aHz (by omega)];exact j,m,by rw[aHz (by omega)];exact n,p,?_⟩;by_cases u:i=k
 ·subst u;rw[v] at c;cases c;exact⟨a,by rw[aHy (aGw.1 b).1],fB w d e f,d⟩
 exact⟨o,by rw[aHz (by omega)];exact b,fB q h e f,h⟩
theorem info63:(prog.info? 63).map (λa=>(a.zero,a.size,a.bytes))=M (M (.agg #[b9 ByteArray.empty,Y Z 0,O J 0 0]),3,48):=by kernel_rfl
theorem Ui {w:y4} {b g:Nat} {l:List Queue} (E:∀ k a,l[k]?=M a->dG w b (g+k*3) a) (r:∀ k,k<l.length->dK (cp l k)):∃ e:List (List y5),e.length=l.length/\(∀ d∈e,d.length=3)/\(∀ o∈e.flatten,o.oneCell'=true)/\
  (∀ (j:Nat) o,e.flatten[j]?=M o->w ((⟨b,g,J⟩:Addr).add j)=M o)/\∀ (k:Nat) a,l[k]?=M a->∃ c,e[k]?=M [b9 a.Q,Y Z a.R,c]/\aR w c a.Cap/\a.Cap≠[]:=by
 have each:∀ k,k<l.length->∃ d:List y5,∀ a,l[k]?=M a->∃ c,d=[b9 a.Q,Y Z a.R,c]/\aR w c a.Cap/\w ⟨b,g+k*3,J⟩=M (b9 a.Q)/\w ⟨b,g+k*3+1,J⟩=M (Y Z a.R)/\w ⟨b,g+k*3+2,J⟩=M c:=λk e=>by
  obtain⟨a,i⟩:=aV (f:=l) (k:=k) e;obtain⟨x,_,y,_,c,z,t⟩:=E k a i;exact⟨[b9 a.Q,Y Z a.R,c],λh h=>by rw[i] at h;cases h;exact⟨c,rfl,t,x,y,z⟩⟩
 obtain⟨f,v⟩:=choose_lt (α:=List y5) (p:=λk d=>∀ a,l[k]?=M a->∃ c,d=[b9 a.Q,Y Z a.R,c]/\aR w c a.Cap/\w ⟨b,g+k*3,J⟩=M (b9 a.Q)/\w ⟨b,g+k*3+1,J⟩=M (Y Z a.R)/\w ⟨b,g+k*3+2,J⟩=M c) each;have B:∀ k d,((List.range l.length).map f)[k]?=M d->k<l.length/\d=f k:=λk d e=>by
  rw[aHt] at e;by_cases h:k<l.length
  ·rw[aHM h] at e;exact⟨h,by simpa using e.symm⟩
  rw[aHN (by simpa using h)] at e;cases e
 have C:∀ d∈(List.range l.length).map f,d.length=3:=λd A=>by
  obtain⟨k,e⟩:=aHK.1 A;obtain⟨h,rfl⟩:=B k d e;obtain⟨a,i⟩:=aV (f:=l) (k:=k) h;obtain⟨c,m,_⟩:=v k h a i;rw[m];rfl
 refine⟨(List.range l.length).map f,by simp,C,λo u=>?_,λj o s=>?_,λk a i=>?_⟩
 ·obtain⟨d,A,u⟩:=aHL.1 u;obtain⟨k,e⟩:=aHK.1 A;obtain⟨h,rfl⟩:=B k d e;obtain⟨a,i⟩:=aV (f:=l) (k:=k) h;obtain⟨c,m,t,_⟩:=v k h a i;obtain⟨n,q,rfl,_⟩:=t.i;rw[m] at u;simp only[aH1,aHa,or_false] at u;rcases u with rfl|rfl|rfl <;> rfl
 ·have m:j=j / 3*3+j % 3:=by omega
  rw[m,Jg (by omega) _ C (j / 3) (j % 3) (by omega)] at s;cases r:((List.range l.length).map f)[j / 3]? with
  | none=>rw[r] at s;cases s
  | some d=>
   rw[r] at s;obtain⟨e,rfl⟩:=B _ d r;obtain⟨a,i⟩:=aV (f:=l) (k:=j / 3) e;obtain⟨c,D,_,x,y,z⟩:=v _ e a i;have n:(f (j / 3))[j % 3]?=M o:=s;rw[D] at n;rw[uS];rcases(by omega:j % 3=0\/j % 3=1\/j % 3=2) with q|q|q
   ·rw[q] at n;cases n;rwa [show g+j / 3*3=g+j by omega] at x
   ·rw[q] at n;cases n;rwa [show g+j / 3*3+1=g+j by omega] at y
   rw[q] at n;cases n;rwa [show g+j / 3*3+2=g+j by omega] at z
 have h:=(aGw.1 i).1;obtain⟨c,m,t,_⟩:=v k h a i;refine⟨c,by rw[aHt,aHM h];simp[m],t,λn=>?_⟩;have:=r k h;rw[(fS i).2.2,n] at this;exact this
theorem Pk (bs:List Nat) (w0 w:y4) (v:y5) (l:List Queue) (N:aK w0 v l) (t:d7 w0 w) (o:cQ l) (a1:∀ a∈bs,w0<=a/\a<w.heap.size) :
  y8 prog 83 #[v] w λp a=>∃ d c,p=zv (O (M ⟨d,0,J⟩) l.length c)/\l.length<=c/\c<=9223372036854775807/\w.heap.size<=d/\iM bs a d l/\d7 w a:=by
 obtain⟨ir,a8,a9,aa,ab⟩:=s8 info63;obtain⟨z,P,A,rfl,af,ag,hb,s⟩:=jB N o.n1;have B:∀ (h:Nat) (a:Queue),l[h]?=M a->a.Q.size<=9223372036854775807/\I64 a.R:=λh a k=>by
  obtain⟨_,j,_,b,_⟩:=s h a k;exact⟨j,b⟩
 have u:=I B;obtain⟨m,j,r,F,E,K⟩:=Ui s (λh k=>(o.caps h k).1.1);have hlen:=Gu m r;rw[j] at hlen;obtain⟨R,S,T,U,Q⟩:=zm hlen E F K r;have ak:=o.n5;have aj:=o.n1;have G:=mC w 63 3 (by omega);clear N s E F K hlen B r;generalize D:l.length=n at *;have V:=I D;clear D;have he:∀ W,Sem.run prog (binOp .eql 27 (O (M ⟨z,P,J⟩) n A) (O J 0 0)) W=.ok (zx false) W:=λW=>rfl;go_enter func83,ntmps83
 go_wp2_with (at_builtin;refine r6 _ rfl _ _ 27 rfl w 63 ir _ 3 48 underlying27 a8 a9 aa ab rfl (by decide) _ _ _ rfl G ⟨z,P,J⟩ n A m.flatten rfl R (λb ac g=>jZ (t.a _) (S b ac g)) T (by unfold o0;omega) (by omega) (by simp) ?_);intro v2 W2 H C a4;obtain⟨x,y⟩:=zr H (((b8 w).a (zt #[] 63)).gr C (λh k=>by cases k;exact aGi _));clear H C a4 G;obtain⟨d,c,a7⟩:∃ d c,v2=O (M ⟨d,0,J⟩) n c:=by
  rcases x.2 with ⟨_,e⟩|⟨d,c,_,e,_⟩
  ·omega
  exact⟨d,c,by simpa using e⟩
 subst a7;go_wp2;go_ret;rcases x.2 with ⟨e,_⟩|⟨g',ad,i,e,a0,hg,a2,hm,ah,a5⟩
 ·cases e
 cases e;have a6:i.toList.take (n*3)=m.flatten:=by simpa using a5
 refine⟨d,c,rfl,by simpa using a2,by unfold o0 at hm;omega,a0,⟨i.toList,by unfold iE;simpa using hg,λb a g=>?_⟩,y⟩;have ai:b<n:=by have:=(aGw.1 g).1;rw[V.o] at this;exact this
 obtain⟨X,p,L,a3⟩:=U b a g;have q:∀ f,f<3->i.toList[b*3+f]?=([b9 a.Q,Y Z a.R,X]:List y5)[f]?:=λf hi=>by
  have j:(i.toList.take (n*3))[b*3+f]?=i.toList[b*3+f]?:=aHQ (by omega);rw[<- j,a6,Jg (by omega) m Q.o b f hi,p];rfl
 obtain⟨b2,am,c2,rfl,ae,_⟩:=cZ L a3;refine⟨q 0 (by omega),(u b a g).1,q 1 (by omega),(u b a g).2,_,q 2 (by omega),L.m (t.r y),iD (λf=>?_)⟩;have al:=t.size;rcases aH1.1 f with e|e
 ·omega
 have:=(a1 _ e).1;omega
theorem wI (bs:List Nat) (w0 w:y4) (v:y5) (l:List Queue) (z:aK w0 v l) (hw:d7 w0 w) (e:cQ l) (s:∀ a∈bs,w0<=a/\a<w.heap.size) :
  y8 prog 30 #[v] w λq a=>∃ g h,q=zv (O (M ⟨g,0,J⟩) l.length h)/\l.length<=h/\h<=9223372036854775807/\w.heap.size<=g/\iM bs a g l/\gE 3 2 l.length w a g/\d7 w a:=by
 have Q:=I (Pk bs w0 w v l z hw e s);have S:=I (λ(W:y4) (u:y5) (k:Nat) (a:Queue) (b:l[k]?=M a) (c:aR W u a.Cap)=>Fh W u a.Cap c (by
  have:=e.caps k (aGw.1 b).1;rw[(fS b).2.2] at this;exact kN this.1.1))
 have R:=I (λ(k:Nat) (a:Queue) (b:l[k]?=M a)=>show a.Cap≠[] from λd=>by
  have:=(e.caps k (aGw.1 b).1).1.1;rw[(fS b).2.2,d] at this;exact this)
 have a9:=e.n5;have T:=I s;obtain⟨a0,h,rfl,_,_,_⟩:=z.i;clear z e s;generalize L:l.length=n at *;have Hn:=I L;clear L;go_enter func30,ntmps30;go_wp2_with fail;refine Q.m ?_;rintro q w1 ⟨g,cap2,rfl,a1,a2,K,r,a5⟩;obtain⟨HQ,V⟩:=zr r (gE.zero (m:=3) (j:=2) (base:=w.heap.size) (W:=w1) (g:=g) (by obtain⟨vs,i,_⟩:=r;exact i.lt));clear r;go_wp2;go_loopw [8] (λd wr=>∃ k:Nat,d=Y Z k/\k<=n/\Hid (iM bs wr g l)/\Hid (gE 3 2 k w wr g)/\d7 w wr) (λd _=>n-(intOf d).toNat);exact⟨0,rfl,by omega,HQ,V,a5⟩;obtain⟨k,rfl,b,p,D,o⟩:=hrel;by_cases a3:k<n
 ·have a4:=z7 k n;obtain⟨a,d⟩:=aV (f:=l) (k:=k) (by rw[Hn.o];exact a3);obtain⟨cv,c1,f1,y,a7⟩:=p.cell d;have x:=R k a d;obtain⟨cb,co,cc,rfl,_⟩:=cZ y x;obtain⟨C,F,U⟩:=zq (S wr _ k a d y) d x;clear y d x f1;generalize a.Cap.length=xn at *;go_wp2_with fail;refine C.m ?_;rintro q w2 ⟨u,rfl,c,t,A⟩;have E:=I (p.e A);obtain⟨a6,c3,f3,_,a8⟩:=E.cell F;obtain⟨B,P,N,rfl,_⟩:=cZ c U;have H:bM (g::bs) (O (M ⟨B,P,J⟩) a.Cap.length N):=iD (λX=>by
   have G:wr<=B:=t _ _ _ rfl;have e3:=o.size;rcases aH1.1 X with i|i
   ·omega
   have:=(T _ i).2;omega)
  obtain⟨HS,X⟩:=zr (E.set F c H) ((D.e A).set (by omega) c3 (u:=O (M ⟨B,P,J⟩) a.Cap.length N) (λa0 n' c' G=>by cases G;exact aGR o.size (t _ _ _ rfl)));clear c t H C;generalize a.Cap.length=xm at *;go_wp2;go_roundw;exact⟨k+1,by go_num,by omega,HS,X,(o.r A).se K _⟩;simp[intOf];omega
 obtain rfl:k=n:=by omega
 have a4:=z8 k k;go_wp2;go_ret;exact⟨g,cap2,rfl,a1,a2,K,p,D,o⟩
theorem size34:(prog.info? 34).map (·.size)=M 4:=by kernel_rfl
theorem kH {P:o9} {fn:Func} {p u:Tmp} {a:o8} (b:fn.results=#[.cell p a,.tmp u]) (tmps:Array y5) (w:y4) (g:Nat) (t:o8) (cs:Array y5) (fr:Nat × Nat) (d:TypeDesc)
  (h:tmps.getD p u5=zz (M ⟨g,0,J⟩)) (e:w.heap[g]?=M (zt cs t fr))
  (i:P.underlying a=M d) (c:(match d with|.struct _|.array _ _=>true|_=>false)=true) (f:(P.info? a).map (·.size)=M cs.size) :
  (results fn tmps).run P w=.ok (zw #[.agg cs,tmps.getD u u5]) w:=by
 rw[results_cell_tmp b,h];simp[asAddr,run_loadVar_row w g t a cs fr d e i c f]
def Fa (bs:List Nat) (base:Nat) (l:List Queue) (k:Nat) (v:y5) (W:y4):Prop:=
 ∃ b:List (List y5),b.length=k/\W.ownsRow base 63 3 v k b.flatten/\(∀ a∈b,a.length=3)/\
  ∀ (d:Nat) (a:Queue),d<k->l[d]?=M a->∃ c,b[d]?=M [b9 a.Q,Y Z a.R,c]/\aR W c a.Cap/\a.Cap≠[]/\bM bs c/\∀ b,v.ownBlock=M b->bM [b] c
theorem Fa.nil (bs:List Nat) (base:Nat) (l:List Queue) (W:y4):Fa bs base l 0 (O J 0 0) W:=⟨[],rfl,aGQ _ _ _ _,by simp,λa b a=>by omega⟩
theorem Fa.e {bs:List Nat} {base k:Nat} {l:List Queue} {v:y5} {W W':y4} (i:Fa bs base l k v W) (a:d7 W W'):Fa bs base l k v W':=by
 obtain⟨e,j,m,n,o⟩:=i;refine⟨e,j,aJ m a,n,λr s p q=>?_⟩;obtain⟨f,b,c,d,g,h⟩:=o r s p q;exact⟨f,b,c.m a,d,g,h⟩
theorem Fa.step {bs:List Nat} {base k:Nat} {l:List Queue} {v a:y5} {W W':y4} {css:List (List y5)} {x:Queue} {g cap:Nat} (p:css.length=k) (t:∀ m∈css,m.length=3)
  (u:∀ (j:Nat) (x:Queue),j<k->l[j]?=M x->∃ a,css[j]?=M [b9 x.Q,Y Z x.R,a]/\aR W a x.Cap/\x.Cap≠[]/\bM bs a/\∀ g,v.ownBlock=M g->bM [g] a)
  (C:l[k]?=M x) (G:aR W a x.Cap) (r:x.Cap≠[]) (hb:bM bs a) (y:∀ g,v.ownBlock=M g->bM [g] a)
  (F:W'.ownsRow base 63 3 (O (M ⟨g,0,J⟩) (k+1) cap) (k+1) (css.flatten++[b9 x.Q,Y Z x.R,a])) (z:W.grownBy W' v.ownBlock) (B:v.ownBlock=M g\/g=W.heap.size) :
  Fa bs base l (k+1) (O (M ⟨g,0,J⟩) (k+1) cap) W':=by
 have s:∀ (c:Queue) (b:y5),aR W b c.Cap->c.Cap≠[]->(∀ g,v.ownBlock=M g->bM [g] b)->aR W' b c.Cap/\∀ i,(O (M ⟨g,0,J⟩) (k+1) cap).ownBlock=M i->bM [i] b:=by
  intro c b e E q;obtain⟨o,L,H,f,K,_⟩:=cZ e E;refine⟨nG e z (λh n b f w=>q h.block w.symm h n b f (aHf.2 rfl)),λi A=>?_⟩;obtain rfl:g=i:=by simpa[aHR] using A
  subst f;rcases B with d|d
  ·exact q g d
  exact iD (λD=>by have:=aHf.1 D;omega)
 refine⟨css++[[b9 x.Q,Y Z x.R,a]],by simp[p],by rw[aHS];simpa using F,λm w=>?_,λj c D e=>?_⟩
 ·rcases aGe.1 w with d|d
  ·exact t m d
  rw[aHf.1 d];rfl
 by_cases A:j<k
 ·obtain⟨b,h,o,n,q,f⟩:=u j c A e;obtain⟨d,m⟩:=s c b o n f;exact⟨b,by rw[aHI (by omega)];exact h,d,n,q,m⟩
 obtain rfl:j=k:=by omega
 rw[C] at e;cases e;obtain⟨d,m⟩:=s x a G r y;exact⟨a,by rw[aHJ (by omega),p,Nat.sub_self];rfl,d,r,hb,m⟩
theorem Fa.row {bs:List Nat} {base:Nat} {l:List Queue} {v:y5} {W:y4} (e:Fa bs base l l.length v W) (o:1<=l.length) (p:∀ (k:Nat) (x:Queue),l[k]?=M x->x.Q.size<=9223372036854775807/\I64 x.R) :
  ∃ c d,v=O (M ⟨c,0,J⟩) l.length d/\l.length<=d/\d<=9223372036854775807/\base<=c/\iM bs W c l:=by
 obtain⟨u,L,r,s,t⟩:=e;rcases r.2 with ⟨_,N⟩|⟨c,d,f,rfl,z,C,B,F,P,K⟩
 ·omega
 refine⟨c,d,rfl,B,by unfold o0 at F;omega,z,f.toList,by unfold iE;simpa using C,λb x g=>?_⟩;have E:=(aGw.1 g).1;obtain⟨m,w,H,Q,A,y⟩:=t b x E g;have h:∀ a,a<3->f.toList[b*3+a]?=([b9 x.Q,Y Z x.R,m]:List y5)[a]?:=λa D=>by
  have o:(f.toList.take (l.length*3))[b*3+a]?=f.toList[b*3+a]?:=aHQ (by omega);rw[<- o,K,Jg (by omega) u s b a D,w];rfl
 refine⟨h 0 (by omega),(p b x g).1,h 1 (by omega),(p b x g).2,m,h 2 (by omega),H,λi n j q G=>?_⟩;rcases aH1.1 G with e|e
 ·exact y c rfl i n j q (by rw[e];exact aHf.2 rfl)
 exact A i n j q e
theorem keep3 {w1 w':y4} {a1 a2 a3:Addr} {a b c:y5} (d:d7 w1 w') (e:w1 a1=M a) (b1:w1 a2=M b) (b2:w1 a3=M c) :
  w' a1=M a/\w' a2=M b/\w' a3=M c:=⟨jZ d e,jZ d b1,jZ d b2⟩
theorem news3 (W:y4) {B:Nat} (e:B=W.heap.size) (a b c:y5) (t:o8):∀ (j:Nat) d,[a,b,c][j]?=M d->(W.alloc (zt #[a,b,c] t)) ((⟨B,0,J⟩:Addr).add j)=M d:=by
 subst e;exact World.news_of_block (cs:=#[a,b,c]) (t:=t) (fr:=(0,0)) (y7 W _)
theorem xC (bs:List Nat) (w:y4) (v:y5) (l:List Queue) (hv:aK w v l) (p:cQ l) (a5:∀ d∈bs,d<w.heap.size) :
  y8 prog 56 #[v] w λe a=>∃ b j,e=zv (O (M ⟨b,0,J⟩) l.length j)/\l.length<=j/\j<=9223372036854775807/\w.heap.size<=b/\iM bs a b l/\d7 w a:=by
 obtain⟨ir,b2,b3,b4,b5⟩:=s8 info101;obtain⟨iq,ay,az,b0,b1⟩:=s8 info63;obtain⟨u,R,x,rfl,ba,bb,hb,G⟩:=jB hv p.n1;have HI:=I (show ∀ (k:Nat) (a:Queue),l[k]?=M a->a.Q.size<=9223372036854775807/\I64 a.R from λk a c=>by
  obtain⟨_,m,_,z,_⟩:=G k a c;exact⟨m,z⟩)
 have ag:=I (λ(k:Nat) (a:Queue) (c:l[k]?=M a)=>show dK a.Cap from by
  have:=p.caps k (aGw.1 c).1;rw[(fS c).2.2] at this;exact this.1.1)
 obtain⟨W,ab⟩:=zr G a5;have ax:=p.n1;have bd:=p.n5;clear hv G p a5;generalize hn:l.length=n at *;have r:=I hn;clear hn;go_enter func56,ntmps56;go_wp2;go_loopw [3,4] (λs x wr=>∃ k:Nat,x=Y Z k/\k<=n/\Hid (Fa bs w l k s wr)/\d7 w wr) (λ_ x _=>n-(intOf x).toNat);exact⟨0,rfl,by omega,I (Fa.nil _ _ _ _),b8 _⟩;obtain⟨k,rfl,c,E,h⟩:=hrel;by_cases au:k<n
 ·have av:=z7 k n;obtain⟨a,o⟩:=aV (f:=l) (k:=k) (by rw[r.o];exact au);obtain⟨c0,_,c1,_,cv,c2,B⟩:=dG.m w wr u _ a h (W k a o);have C:=ag k a o;have bc:=kN C;have A:a.Cap≠[]:=λh0=>by rw[h0] at C;exact C
  obtain⟨T,V,U,rfl,_,be,P⟩:=Fv B A;have HN:=I (oW P);obtain⟨e0,_,e1,_,ev,F,_⟩:=W k a o;obtain rfl:ev=O (M ⟨T,V,J⟩) a.Cap.length U:=by
   have:=h.c F;rw[c2] at this;exact(b7 this).symm
  have ac:=I (show ∀ d∈a.Cap,I64 d.At/\I64 d.N from λd B=>by
   obtain⟨i,g⟩:=aHK.1 B;obtain⟨_,_,q,t⟩:=P i d g;exact⟨q,t⟩)
  obtain⟨ad,ae,ai⟩:=zq (gX Run.At Run.N a.Cap) A o;obtain⟨ap,q1,S,q3,q4⟩:=E.o;have a9:∀ b,u3.ownBlock=M b->w.heap.size<=b/\b<wr.heap.size:=λb H=>S.lt b H;obtain⟨HO,a1,af,HV⟩:=zp S (And.intro q1 q3) q4 a9;have t1:=deF (show ¬ (k:Int)<0 by omega);have t2:=deF (show ¬ (n:Int)<=(k:Int) by omega);have t3:=deF (show ¬ n<=k by omega);have bg:1<=a.Cap.length:=by
   cases g:a.Cap with
   | nil=>exact absurd g A
   | cons d f=>simp
  have bf:=h.size;clear B P C A o q1 S q3 q4 a9 E c0 c1 c2;generalize aa:a.Cap.length=i at *;have a4:=I aa;clear aa;go_wp2_with fail
  go_region_held3 (λW'=>W' ⟨u,R+k*3,J⟩=M (b9 a.Q)/\W' ⟨u,R+k*3+1,J⟩=M (Y Z a.R)/\W' ⟨u,R+k*3+2,J⟩=M (O (M ⟨T,V,J⟩) i U))
   ((refine keep3 ?_ e0 e1 F;(repeat (first|exact a2|exact a3|exact h|refine d7.dr ?_|refine d7.a ?_ _))))
   (first
    | (refine Ke (by rfl) _ _ _ (by rfl) wr 101 ir _ 2 16 underlying61 b2 b3 b4 b5 rfl (by decide) (O (M ⟨wr,0,J⟩) 0 0) 0 [] (by rfl) (mC wr.drew _ 2 (by omega)) ⟨T,V,J⟩ i U (bH Run.At Run.N a.Cap) (by rfl) ad (λQ ah L=>jZ ((b8 wr).dr.a _) (HN Q ah L)) (rH _) (by unfold o0;omega) (by omega) (by simp) ?_;intro v1 t N a7;obtain⟨g,y,rfl⟩:=kO N (by omega);have q:=I (((b8 wr).dr.a _).gr a7 (λk c=>by cases c;exact aGi _));have a3:=I (h.r q);have D:=I N;clear N)
    | (refine step_append_lies _ (by rfl) _ _ _ (by rfl) w 63 iq _ 3 48 underlying27 ay az b0 b1 rfl (by decide) u3 k ap.flatten (by rfl) ((aJ HO q).alloc _) ⟨t,0,J⟩ 1 1 [.string a.Q,Y Z a.R,O (M ⟨g,0,J⟩) i y] (by rfl) (by rfl) (news3 _ rfl _ _ _ _) (by simp[aGr]) (by omega) (by unfold o0;omega) (by omega) (by have:=q.size;simp;omega) (t+1) (by simp) ?_;intro g2 ao W2 a6 K a8 aw;have a2:=I ((a3.a (.cells #[.string a.Q,a.R,O (M ⟨g,0,J⟩) i y] 63)).gr K (λk c=>(HV k c).1));have a0:=I a6;have X:=I K;clear a6))
  have a6:aR t (O (M ⟨g,0,J⟩) i y) a.Cap:=bL (base:=wr.heap.size) (e:=101) (by have aq:=D.o;rw[a4.o];simpa using aq) ac (by rw[a4.o];omega);have ar:wr<=g:=bN D g rfl;have a3:=q.a (zt #[b9 a.Q,a.R,O (M ⟨g,0,J⟩) i y] 63);have ah:=I (show Fa bs w l (k+1) (O (M ⟨g2,0,J⟩) (k+1) ao) W2 from
   Fa.step a1.1 a1.2 (λQ b6 L hy=>by
    obtain⟨cv,aj,ak,al,am,an⟩:=af Q b6 L hy;exact⟨cv,aj,ak.m a3,al,am,an⟩) ai (a6.m ((b8 t).a _)) ae (iD (λN=>by have:=ab _ N;omega)) (λb H=>iD (λN=>by have m:=aHf.1 N;have z:=(HV b H).2;omega)) a0 X (by rw[aHb];exact a8))
  clear a6 ar a3 a7 K a8 aw X a0 D e0 e1 F;go_wp2;go_roundw;exact⟨k+1,by go_num,by omega,ah,a2⟩;simp[intOf];omega
 obtain rfl:k=n:=by omega
 have av:=z8 k k;obtain⟨b,j,g,m,z,i,o⟩:=(by rw[r.o];exact E:Fa bs w l l.length _ wr).row (by rw[r.o];exact ax) HI;rw[r.o] at g m;subst g;go_wp2;go_ret;exact⟨b,j,rfl,m,z,i,o,h⟩
def aFy:List aH:=[⟨1,Mh 3,[⟨0,8⟩,⟨1,13⟩]⟩,⟨4,⟨2,3,48,2,[⟨6,4⟩]⟩,[⟨0,9⟩]⟩]
structure Cb (W:y4) (F B p1 b1 p2 b2:Nat) (m:Int):Prop where
 field:pH W F m 0 6
 row:iE 80 W B [Y Z 1,Y Z 3,Y Z 2,Y Z 30,Y Z 3,O (M ⟨p1,0,J⟩) 2 2,O (M ⟨b1,0,J⟩) 2 2,Y Z 4,Y Z 2,Y Z 3,Y Z 48,Y Z 2,O (M ⟨p2,0,J⟩) 1 1,O (M ⟨b2,0,J⟩) 1 1]
 ne:p1≠F/\b1≠F/\p2≠F/\b2≠F/\B≠F
 p1:aM W (O (M ⟨p1,0,J⟩) 2 2) aBI
 b1:bF W (O (M ⟨b1,0,J⟩) 2 2) [⟨0,8⟩,⟨1,13⟩]
 p2:aM W (O (M ⟨p2,0,J⟩) 1 1) [⟨6,4⟩]
 b2:bF W (O (M ⟨b2,0,J⟩) 1 1) [⟨0,9⟩]
theorem pI {α:Type} {f g:α->Int} {W W':y4} {p n c r:Nat} {xs:List α} (e:SV 2 (E2 f g) W (O (M ⟨p,0,J⟩) n c) xs) (j:W.grownBy W' (M r)) (x:p≠r):SV 2 (E2 f g) W' (O (M ⟨p,0,J⟩) n c) xs:=by
 rcases e with e|⟨k,z,l,b,s,t,w,h,u⟩
 ·exact .inl e
 refine .inr ⟨k,z,l,b,s,t,w,aGs h j.size,λy A v=>?_⟩;cases b;have i:∀ d,W' ⟨p,d,J⟩=W ⟨p,d,J⟩:=λd=>aHm (a:=⟨p,d,J⟩) (j.block p h (λb=>x (b7 b)));obtain⟨m,o,q⟩:=u y A v;exact⟨by rw[i];exact m,by rw[i];exact o,q⟩
section
variable {W W':y4} {F B p1 b1 p2 b2:Nat} {m:Int}
theorem Cb.e (a:Cb W F B p1 b1 p2 b2 m) (b:d7 W W'):Cb W' F B p1 b1 p2 b2 m:=
 ⟨a.field.e b,a.row.e b,a.ne,a.p1.m b,a.b1.m b,a.p2.m b,a.b2.m b⟩
theorem Cb.tree (a:Cb W F B p1 b1 p2 b2 m) (b:I64 m):aK W (O (M ⟨F+4,0,J⟩) 4 4) (eP m 0 6):=a.field.v b (i64_small' (by decide) (by decide)) (i64_small' (by decide) (by decide))
theorem Cb.books (b:Cb W F B p1 b1 p2 b2 m):aS W (O (M ⟨B,0,J⟩) 2 2) aFy:=by
 refine .inr ⟨B,0,2,rfl,by decide,by omega,by decide,b.row.lt,λf h d=>?_⟩;rcases f with _|_|f
 ·cases d;refine⟨[Y Z 1,Y Z 3,Y Z 2,Y Z 30,Y Z 3,O (M ⟨p1,0,J⟩) 2 2,O (M ⟨b1,0,J⟩) 2 2],⟨_,_,rfl,⟨_,rfl,b.p1,i64_small' (by decide) (by decide),i64_small' (by decide) (by decide),i64_small' (by decide) (by decide),i64_small' (by decide) (by decide)⟩,b.b1,i64_small' (by decide) (by decide)⟩,λa g c=>?_⟩;have e:=(aGw.1 c).1;simp only[aGt,aGu] at e;refine b.row.cell ?_;rw[show 0+0*7+a=a by omega];rcases(by omega:a=0\/a=1\/a=2\/a=3\/a=4\/a=5\/a=6) with rfl|rfl|rfl|rfl|rfl|rfl|rfl <;> exact c
 ·cases d;refine⟨[Y Z 4,Y Z 2,Y Z 3,Y Z 48,Y Z 2,O (M ⟨p2,0,J⟩) 1 1,O (M ⟨b2,0,J⟩) 1 1],⟨_,_,rfl,⟨_,rfl,b.p2,i64_small' (by decide) (by decide),i64_small' (by decide) (by decide),i64_small' (by decide) (by decide),i64_small' (by decide) (by decide)⟩,b.b2,i64_small' (by decide) (by decide)⟩,λa g c=>?_⟩;have e:=(aGw.1 c).1;simp only[aGt,aGu] at e;refine b.row.cell ?_;rw[show 0+(0+1)*7+a=7+a by omega];rcases(by omega:a=0\/a=1\/a=2\/a=3\/a=4\/a=5\/a=6) with rfl|rfl|rfl|rfl|rfl|rfl|rfl <;> exact c
 simp[aFy] at d
end
theorem aF2 {l:List Queue} {x:aH} (a:bU l x):pP x.P x.L=(gV (gP x.P x.L) (x.L.length-1),0):=Gd a.req a.many.1 (λc b=>(a.bites c b).1)
theorem Uv {l:List Queue} {x:aH} (a:bU l x) (t:Int):fD t x=decide (gV (gP x.P x.L) (x.L.length-1)<=t):=by unfold fD;rw[aF2 a]
theorem aFX:aI ⟨0,0,eP 10 0 6,[]⟩=0:=by
 have d:eX (eP 10 0 6) []=0:=by rw[eY Bp (by decide)];rfl
 exact tR (xV d (by decide) (by decide) rfl) (Ao (λs f b a e=>by
  have c:∀ s,s<48->∀ a,a<4->0<=bE (eP 10 0 6) [] a s:=by decide +kernel
  exact c s b a e))
theorem iM.less {bs cs:List Nat} {W:y4} {g:Nat} {l:List Queue} (a:iM bs W g l) (r:∀ b∈cs,b∈bs):iM cs W g l:=by
 obtain⟨u,k,m⟩:=a;refine⟨u,k,λt v p=>?_⟩;obtain⟨c,e,b,h,f,i,j,s⟩:=m t v p;refine⟨c,e,b,h,f,i,j,λd n b o q=>s d n b o ?_⟩;rcases aH1.1 q with a|a
 ·rw[a];exact aHv ..
 exact aGc _ (r _ a)
open Go.RowKit Go.ChangeShapes Go.WideShapes Go.Deep
section
variable {H:Type} {P:o9} {enc:o8 × y5->H} {w:y4} {base:Nat} {spare:Nat->Bool} {held:Bool}
end
section
variable {H:Type} {enc:o8 × y5->H} {W:y4} {base:Nat} {spare:Nat->Bool} {held:Bool}
end
theorem Mb {l:List Queue} {b:List aH} (d:cQ l) (f:∀ c∈b,bU l c) (e:b.length<=12) {k:Nat} (i:k<l.length) (t:Nat):mO (eQ l b (k:Int) t):=by
 have:=Rv (g:=λc=>bE l b c t) (a:=-1800) (b:=50) (cP l (k:Int)) (λc h=>Dp d f e c t (xJ d.pars l.length (k:Int) (by omega) (by omega) c h).1) (by rw[iO d.pars (by omega)];simp);rw[show eQ l b (k:Int) t=pQ (λc=>bE l b c t) (cP l (k:Int)) from rfl];exact⟨by omega,by omega⟩
@[irreducible] noncomputable def jI (s:aG) (q t:Int):Int:=
 if aI s≠0 then aI s else if¬ (0<=q/\q<s.K.length) then 6 else if¬ (0<=t/\t<48) then 3 else 0
theorem Es {s:aG} {q t:Int} (a:aI s≠0):jI s q t=aI s:=by unfold jI;rw[c7 a]
theorem zV {s:aG} {q t:Int} (a:aI s=0) (b:¬ (0<=q/\q<s.K.length)):jI s q t=6:=by unfold jI;rw[d8 (by simp[a]),c7 b]
theorem wB {s:aG} {q t:Int} (a:aI s=0) (b:0<=q/\q<s.K.length) (c:¬ (0<=t/\t<48)):jI s q t=3:=by unfold jI;rw[d8 (by simp[a]),d8 (by simp[b]),c7 c]
theorem Kv {s:aG} {q t:Int} (a:aI s=0) (b:0<=q/\q<s.K.length) (c:0<=t/\t<48):jI s q t=0:=by unfold jI;rw[d8 (by simp[a]),d8 (by simp[b]),d8 (by simp[c])]
theorem Th {s:aG} {q t:Int} (a:jI s q t=0):aI s=0/\(0<=q/\q<s.K.length)/\0<=t/\t<48:=by
 by_cases b:aI s=0
 ·by_cases c:0<=q/\q<s.K.length
  ·by_cases d:0<=t/\t<48
   ·exact⟨b,c,d⟩
   rw[wB b c d] at a;exact absurd a (by decide)
  rw[zV b c] at a;exact absurd a (by decide)
 rw[Es b] at a;exact absurd a b
@[irreducible] noncomputable def nO (s:aG) (r:aF):Int:=
 if aI s≠0 then aI s else if fZ s.K r≠0 then fZ s.K r else if r.D<s.G then 9 else 0
theorem Dj {s:aG} {r:aF} (a:aI s≠0):nO s r=aI s:=by unfold nO;rw[c7 a]
theorem Di {s:aG} {r:aF} (a:aI s=0) (b:fZ s.K r≠0):nO s r=fZ s.K r:=by unfold nO;rw[d8 (by simp[a]),c7 b]
theorem zJ {s:aG} {r:aF} (a:aI s=0) (b:fZ s.K r=0) (c:r.D<s.G):nO s r=9:=by unfold nO;rw[d8 (by simp[a]),d8 (by simp[b]),c7 c]
theorem zI {s:aG} {r:aF} (a:aI s=0) (b:fZ s.K r=0) (c:¬ r.D<s.G):nO s r=0:=by unfold nO;rw[d8 (by simp[a]),d8 (by simp[b]),d8 c]
theorem Gi {s:aG} {r:aF} (a:nO s r=0):aI s=0/\fZ s.K r=0/\¬ r.D<s.G:=by
 by_cases b:aI s=0
 ·by_cases c:fZ s.K r=0
  ·by_cases d:r.D<s.G
   ·rw[zJ b c d] at a;exact absurd a (by decide)
   exact⟨b,c,d⟩
  rw[Di b c] at a;exact absurd a c
 rw[Dj b] at a;exact absurd a b
@[irreducible] noncomputable def kZ (s:aG) (q t:Int):Int × Int:=if jI s q t=0 then(aU s.K s.F q.toNat t.toNat,0) else(0,jI s q t)
theorem Em {s:aG} {q t:Int} (a:jI s q t=0):kZ s q t=(aU s.K s.F q.toNat t.toNat,0):=by unfold kZ;rw[c7 a]
theorem Ht {s:aG} {q t:Int} (a:jI s q t≠0):kZ s q t=(0,jI s q t):=by unfold kZ;rw[d8 a]
@[irreducible] noncomputable def kY (s:aG) (q t:Int):Int × Int:=if jI s q t=0 then(eQ s.K s.F q t.toNat,0) else(0,jI s q t)
theorem Dq {s:aG} {q t:Int} (a:jI s q t=0):kY s q t=(eQ s.K s.F q t.toNat,0):=by unfold kY;rw[c7 a]
theorem Gm {s:aG} {q t:Int} (a:jI s q t≠0):kY s q t=(0,jI s q t):=by unfold kY;rw[d8 a]
def kJ (s:aG) (r:aF):Nat->Int:=sp (aY (eQ s.K s.F r.B))
theorem Tg (w:y4) (m k:y5) (s:aG) (q t:Int) (B:aK w m s.K) (hb:aS w k s.F) :
  y8 prog 95 #[.agg #[s.G,s.H,m,k],q,t] w λd a=>d=zv (Y Z (jI s q t))/\d7 w a:=by
 obtain⟨F,r,b,g,h,i,j⟩:=zj (λ(W:y4) (l:d7 w W)=>eU W m k s (B.m l) (hb.m l)) (λ(W:y4) (E:d7 (w.alloc (zt #[s.G,s.H,m,k] 34)) W)=>dY E) ((b8 w).a (zt #[s.G,s.H,m,k] 34)) (Es (s:=s) (q:=q) (t:=t)) (zV (s:=s) (q:=q) (t:=t)) (wB (s:=s) (q:=q) (t:=t)) (Kv (s:=s) (q:=q) (t:=t));obtain⟨Q,R,rfl,_,_,_⟩:=B.i;obtain⟨K,L,rfl,_,_,_⟩:=hb.i;clear B hb;generalize jI s q t=H at *;generalize aI s=G at *;generalize s.K.length=n at *;generalize s.F.length=T at *;by_cases o:G=0
 ·subst o;by_cases p:0<=q/\q<(n:Int)
  ·obtain⟨z,A⟩:=p;have N:¬ q<0:=by omega
   have P:¬ (n:Int)<=q:=by omega
   by_cases e:0<=t/\t<48;obtain⟨c,C⟩:=zr (j rfl ⟨z,A⟩ e) (λW=>Ot t 48 W e.1 e.2 (by decide));rotate_left;obtain⟨c,C⟩:=zr (i rfl ⟨z,A⟩ e) (λW=>aC0 t 48 W (λl=>e ⟨l.1,l.2.1⟩))
   all_goals
    clear g h i j e;go_enter func95,ntmps95;go_wp2_with fail;refine(F _ b).m ?_;rintro d f ⟨rfl,a⟩;obtain⟨u,v,x,y⟩:=r f a;go_wp2_with fail;refine(C _).m ?_;rintro d S ⟨rfl,D⟩;obtain rfl:=D;clear u v x y;go_wp2;go_ret;exact⟨aL c.symm,b.r a⟩
  have c:=I (h rfl p);by_cases z:q<0
  ·clear g h i j p;go_enter func95,ntmps95;go_wp2_with fail;refine(F _ b).m ?_;rintro d f ⟨rfl,a⟩;obtain⟨u,v,x,y⟩:=r f a;go_wp2;go_ret;exact⟨aL c.symm,b.r a⟩
  have A:(n:Int)<=q:=by omega
  clear g h i j p;go_enter func95,ntmps95;go_wp2_with fail;refine(F _ b).m ?_;rintro d f ⟨rfl,a⟩;obtain⟨u,v,x,y⟩:=r f a;go_wp2;go_ret;exact⟨aL c.symm,b.r a⟩
 have c:=I (g o);have e:=neT o;clear g h i j o;go_enter func95,ntmps95;go_wp2_with fail;refine(F _ b).m ?_;rintro d f ⟨rfl,a⟩;go_wp2;go_ret;exact⟨aL c.symm,b.r a⟩
theorem Fi (w:y4) (i g:y5) (s:aG) (q t:Int) (z:aK w i s.K) (hb:aS w g s.F) :
  y8 prog 63 #[.agg #[s.G,s.H,i,g],q,t] w λa b=>a=zv (Y Z (jI s q t))/\d7 w b:=by
 obtain⟨F,B,e,j,k,l,m⟩:=zj (λ(W:y4) (f:d7 w W)=>cO W i g s (z.m f) (hb.m f)) (λ(W:y4) (E:d7 (w.alloc (zt #[s.G,s.H,i,g] 34)) W)=>dY E) ((b8 w).a (zt #[s.G,s.H,i,g] 34)) (Es (s:=s) (q:=q) (t:=t)) (zV (s:=s) (q:=q) (t:=t)) (wB (s:=s) (q:=q) (t:=t)) (Kv (s:=s) (q:=q) (t:=t));obtain⟨P,Q,rfl,_,_,_⟩:=z.i;obtain⟨L,N,rfl,_,_,_⟩:=hb.i;clear z hb;generalize jI s q t=K at *;generalize aI s=G at *;generalize s.K.length=n at *;generalize s.F.length=S at *;by_cases o:G=0
 ·subst o;by_cases b:0<=q/\q<(n:Int)
  ·have r:=I (λW=>bI q 0 ((n:Int)-1) W b.1 (by omega));by_cases h:0<=t/\t<48;obtain⟨d,C⟩:=zr (m rfl b h) (λW=>Nf t W h.1 (by omega));rotate_left;obtain⟨d,C⟩:=zr (l rfl b h) (λW=>Sh t W (λf=>h ⟨f.1,by omega⟩))
   all_goals
    clear j k l m b h;go_enter func63,ntmps63;go_wp2_with fail;refine(F _ e).m ?_;rintro a p ⟨rfl,c⟩;obtain⟨u,v,x,y⟩:=B p c;go_wp2_with fail;refine(r _).m ?_;rintro a H ⟨rfl,A⟩;obtain rfl:=A.symm;clear u v x y;go_wp2_with fail;refine(C _).m ?_;rintro a R ⟨rfl,D⟩;obtain rfl:=D.symm;go_wp2;go_ret;exact⟨aL d.symm,e.r c⟩
  obtain⟨d,r⟩:=zr (k rfl b) (λW=>dH q 0 ((n:Int)-1) W (λf=>b ⟨f.1,by omega⟩));clear j k l m b;go_enter func63,ntmps63;go_wp2_with fail;refine(F _ e).m ?_;rintro a p ⟨rfl,c⟩;obtain⟨u,v,x,y⟩:=B p c;go_wp2_with fail;refine(r _).m ?_;rintro a H ⟨rfl,A⟩;obtain rfl:=A.symm;clear u v x y;go_wp2;go_ret;exact⟨aL d.symm,e.r c⟩
 have d:=I (j o);have b:=neT o;clear j k l m o;go_enter func63,ntmps63;go_wp2_with fail;refine(F _ e).m ?_;rintro a p ⟨rfl,c⟩;go_wp2;go_ret;exact⟨aL d.symm,e.r c⟩
theorem aCe (w:y4) (s:aG) (r:aF) (d b c:y5):∃ a:y4,(w.alloc (zt #[s.G,s.H,d,b] 34)).alloc (zt #[r.B,r.D,r.C,r.E,c] 77)=a/\d7 w a/\(∀ W,d7 a W->(W ⟨w,0,J⟩=M (Y Z s.G)/\W ⟨w,1,J⟩=M (Y Z s.H)/\W ⟨w,2,J⟩=M d/\W ⟨w,3,J⟩=M b))/\
  (∀ W,d7 a W->(W ⟨w+1,0,J⟩=M (Y Z r.B)/\W ⟨w+1,1,J⟩=M (Y Z r.D)/\W ⟨w+1,2,J⟩=M (Y Z r.C)/\W ⟨w+1,3,J⟩=M (Y Z r.E)/\W ⟨w+1,4,J⟩=M c))/\a.heap.size=w.heap.size+2:=by
 refine⟨_,rfl,((b8 w).a _).a _,λW a=>dY (((b8 _).a _).r a),λW a=>?_,by simp⟩;have:=eS a;rwa [aHb] at this
theorem tK (w:y4) (h t D:y5) (s:aG) (r:aF) (C:aK w h s.K) (hb:aS w t s.F) (K:aM w D r.A) :
  y8 prog 141 #[.agg #[s.G,s.H,h,t],.agg #[r.B,r.D,r.C,r.E,D]] w λd a=>d=zv (Y Z (nO s r))/\d7 w a:=by
 obtain⟨F,N⟩:=zr (λ(W:y4) (f:d7 w W)=>eU W h t s (C.m f) (hb.m f)) (λ(W:y4) (f:d7 w W)=>Cw W h D s.K r (C.m f) (K.m f));obtain⟨wb,T,R,Q,P,a0⟩:=aCe w s r h t D;obtain⟨b,G,E,H⟩:=zp R Q P T;clear R Q P T;obtain⟨i,j,k,l⟩:=zp (Dj (s:=s) (r:=r)) (Di (s:=s) (r:=r)) (zJ (s:=s) (r:=r)) (zI (s:=s) (r:=r));obtain⟨qa,qc,rfl,_,_,_⟩:=C.i;obtain⟨ba,bc,rfl,_,_,_⟩:=hb.i;obtain⟨pa,pc,rfl,_,_,_⟩:=K.i;clear C hb K;generalize nO s r=X at *;generalize aI s=V at *;generalize fZ s.K r=U at *;generalize s.K.length=n at *;generalize s.F.length=a1 at *;generalize r.A.length=pn at *;by_cases A:V=0
 ·subst A;by_cases B:U=0
  ·subst B;by_cases S:r.D<s.G;have c:=I (k rfl rfl S);rotate_left;have c:=I (l rfl rfl S)
   all_goals
    clear i j k l;go_enter func141,ntmps141;go_wp2_with fail;rw[H.o];refine(F _ b).m ?_;rintro d e ⟨rfl,a⟩;obtain⟨m,o,p,q⟩:=G e a;obtain⟨u,v,x,y,z⟩:=E e a;go_wp2_with fail;refine(N _ (b.r a)).m ?_;rintro d L ⟨rfl,g⟩;clear m o p q u v x y z;obtain⟨m,o,p,q⟩:=G L (a.r g);obtain⟨u,v,x,y,z⟩:=E L (a.r g);go_wp2;go_ret;exact⟨aL c.symm,b.r (a.r g)⟩
  have c:=I (j rfl B);have S:=neT B;clear i j k l B;go_enter func141,ntmps141;go_wp2_with fail;rw[H.o];refine(F _ b).m ?_;rintro d e ⟨rfl,a⟩;obtain⟨m,o,p,q⟩:=G e a;obtain⟨u,v,x,y,z⟩:=E e a;go_wp2_with fail;refine(N _ (b.r a)).m ?_;rintro d L ⟨rfl,g⟩;clear m o p q u v x y z;go_wp2;go_ret;exact⟨aL c.symm,b.r (a.r g)⟩
 have c:=I (i A);have S:=neT A;clear i j k l A;go_enter func141,ntmps141;go_wp2_with fail;rw[H.o];refine(F _ b).m ?_;rintro d e ⟨rfl,a⟩;go_wp2;go_ret;exact⟨aL c.symm,b.r a⟩
theorem eR {s:aG} (a:aI s=0):cQ s.K/\s.F.length<=12/\∀ b∈s.F,bU s.K b:=by
 obtain⟨d,_,b,c⟩:=dV (cD (bS a).1).1;exact⟨d,b,c⟩
theorem Fy {s:aG} (a:aI s=0) {k:Nat} (d:k<s.K.length):kL (aY (eQ s.K s.F (k:Int))):=by
 obtain⟨e,b,c⟩:=eR a;exact zO λf _=>Mb e c b d f
theorem Vk (W:y4) (u:y5) (x:Nat->Int) (t:Nat) (b:t<48) (c:aR W u (aY x)) :
  y8 prog 96 #[u,Y Z (t:Int)] W λa d=>a=zv (Y Z (x t))/\d7 W d:=by
 have:=aG8 W u _ c (eO _) (t:Int) (by omega) (by omega);rwa [aGK,gF b] at this
theorem aEL (w:y4) (d b:y5) (s:aG) (q t:Int) (e:aK w d s.K) (hb:aS w b s.F) :
  y8 prog 46 #[.agg #[s.G,s.H,d,b],q,t] w (qW w (kZ s q t)):=by
 obtain⟨o,F,g⟩:=zq (λ(W:y4) (i:d7 w W)=>Tg W d b s q t (e.m i) (hb.m i)) (λ(W:y4) (U:d7 (w.alloc (zt #[s.G,s.H,d,b] 34)) W)=>dY U) ((b8 w).a (zt #[s.G,s.H,d,b] 34));by_cases c:jI s q t=0
 ·have l:=I (Em c);rw[c] at o;obtain⟨y,⟨g1,g2⟩,t1,t2⟩:=Th c;clear c;obtain⟨k,v,x⟩:=eR y;obtain⟨a,rfl⟩:∃ a:Nat,q=(a:Int):=⟨q.toNat,by omega⟩;obtain⟨u,rfl⟩:∃ u:Nat,t=(u:Int):=⟨t.toNat,by omega⟩;simp only[aGK] at l;have G:=I (λ(W:y4) (i:d7 w W)=>show y8 prog 97 #[d,b] W (λh A=>∃ f,h=zv f/\wD A f (tE s.K s.F)/\d7 W A) from Ia W d b s.K s.F (e.m i) (hb.m i) k.pars k.n5 x v k.n1);have R:(tE s.K s.F).length=s.K.length:=by simp[tE]
  have S:a<s.K.length:=by omega
  obtain⟨E,D⟩:=zr (by simp[tE,S]:(tE s.K s.F)[a]?=M (aY (aU s.K s.F a))) (λ(W:y4) (f:y5) (m:aR W f (aY (aU s.K s.F a)))=>Vk W f _ u (by omega) m);obtain⟨qa,qc,rfl,_,_,T⟩:=e.i;obtain⟨P,Q,rfl,_,_,_⟩:=hb.i;have a1:=k.n5;clear e hb y k v x t1 t2;generalize s.K.length=n at *;generalize s.F.length=a0 at *;go_enter func46,ntmps46;go_wp2_with fail;refine(o _ g).m ?_;rintro h B ⟨rfl,j⟩;obtain⟨H,K,L,N⟩:=F B j;go_wp2_with fail;refine(G _ (g.r j)).m ?_;rintro h w3 ⟨f,rfl,m,V⟩;obtain⟨ua,uc,rfl,_,_,_,r⟩:=Yj m;rw[R] at r ⊢;obtain⟨ub,uo,rfl,a2,z⟩:=r (by omega);obtain⟨fv,c2,p⟩:=z a _ E;obtain⟨fa,fc,rfl,_,_,_⟩:=p.i;have C:=I (D w3 _ p);clear m r z p H K L N;generalize (aY (aU s.K s.F a)).length=fn at *;go_wp2_with fail;refine C.m ?_;rintro h w4 ⟨rfl,X⟩;go_wp2;go_ret2;exact bX l (g.r (j.r (V.r X)))
 have l:=I (Ht c);have f:=neT c;obtain⟨qa,qc,rfl,_,_,T⟩:=e.i;obtain⟨P,Q,rfl,_,_,_⟩:=hb.i;clear e hb c;generalize jI s q t=a at *;generalize s.K.length=n at *;generalize s.F.length=a0 at *;go_enter func46,ntmps46;go_wp2_with fail;refine(o _ g).m ?_;rintro h B ⟨rfl,j⟩;go_wp2;go_ret2;exact bX l (g.r j)
theorem aEH (w:y4) (d b:y5) (s:aG) (q t:Int) (c:aK w d s.K) (hb:aS w b s.F) :
  y8 prog 47 #[.agg #[s.G,s.H,d,b],q,t] w (qW w (kY s q t)):=by
 obtain⟨j,z,e⟩:=zq (λ(W:y4) (f:d7 w W)=>Tg W d b s q t (c.m f) (hb.m f)) (λ(W:y4) (N:d7 (w.alloc (zt #[s.G,s.H,d,b] 34)) W)=>dY N) ((b8 w).a (zt #[s.G,s.H,d,b] 34));by_cases a:jI s q t=0
 ·have i:=I (Dq a);rw[a] at j;obtain⟨r,⟨H,K⟩,T,U⟩:=Th a;clear a;obtain⟨u,o,p⟩:=eR r;obtain⟨l,rfl⟩:∃ l:Nat,t=(l:Int):=⟨t.toNat,by omega⟩;simp only[aGK] at i;obtain⟨A,y⟩:=zr (λ(W:y4) (f:d7 w W)=>Ca W d b s.K s.F q (c.m f) (hb.m f) u p o H K) (λ(W:y4) (m:y5) (g:aR W m (aY (eQ s.K s.F q)))=>Vk W m _ l (by omega) g);obtain⟨R,S,rfl,_,_,L⟩:=c.i;obtain⟨F,G,rfl,_,_,_⟩:=hb.i;clear c hb r u o p T U;generalize s.K.length=n at *;generalize s.F.length=X at *;go_enter func47,ntmps47;go_wp2_with fail;refine(j _ e).m ?_;rintro k v ⟨rfl,h⟩;obtain⟨B,C,D,E⟩:=z v h;go_wp2_with fail;refine(A _ (e.r h)).m ?_;rintro k V ⟨m,rfl,g,P⟩;obtain⟨ua,uc,rfl,_,_,_⟩:=g.i;have x:=I (y V _ g);clear g B C D E;generalize (aY (eQ s.K s.F q)).length=fn at *;go_wp2_with fail;refine x.m ?_;rintro k w4 ⟨rfl,Q⟩;go_wp2;go_ret2;exact bX i (e.r (h.r (P.r Q)))
 have i:=I (Gm a);have l:=neT a;obtain⟨R,S,rfl,_,_,L⟩:=c.i;obtain⟨F,G,rfl,_,_,_⟩:=hb.i;clear c hb a;generalize jI s q t=g at *;generalize s.K.length=n at *;generalize s.F.length=X at *;go_enter func47,ntmps47;go_wp2_with fail;refine(j _ e).m ?_;rintro k v ⟨rfl,h⟩;go_wp2;go_ret2;exact bX i (e.r h)
theorem aBw (w:y4) (b a:y5) (s:aG) (k i:Nat) (c:aK w b s.K) (hb:aS w a s.F) (l:aI s=0) :
  y8 prog 64 #[.agg #[s.G,s.H,b,a],Y Z (k:Int),Y Z (i:Int)] w λf d=>f=zv (Y Z (aU s.K s.F k i))/\d7 w d:=by
 obtain⟨d,h,j⟩:=eR l;obtain⟨o,m,e⟩:=zq (λ(W:y4) (g:d7 w W)=>Fo W b a s.K s.F k i (c.m g) (hb.m g) d.pars d.n5 j h) (λ(W:y4) (u:d7 (w.alloc (zt #[s.G,s.H,b,a] 34)) W)=>dY u) ((b8 w).a (zt #[s.G,s.H,b,a] 34));obtain⟨A,B,rfl,_,_,z⟩:=c.i;obtain⟨x,y,rfl,_,_,_⟩:=hb.i;clear c hb l d h j;generalize s.K.length=n at *;generalize s.F.length=D at *;obtain⟨p,q,r,t⟩:=m _ (b8 _);go_enter func64,ntmps64;go_wp2_with fail;refine(o _ e).m ?_;rintro f C ⟨rfl,v⟩;clear p q r t;go_wp2;go_ret;exact⟨rfl,e.r v⟩
theorem aBm (w:y4) (b a:y5) (s:aG) (k i:Nat) (j:k<s.K.length) (v:i<48) (c:aK w b s.K) (hb:aS w a s.F) (l:aI s=0) :
  y8 prog 65 #[.agg #[s.G,s.H,b,a],Y Z (k:Int),Y Z (i:Int)] w λe d=>e=zv (Y Z (eQ s.K s.F (k:Int) i))/\d7 w d:=by
 obtain⟨m,g,h⟩:=eR l;obtain⟨p,o,d⟩:=zq (λ(W:y4) (f:d7 w W)=>wU W b a s.K s.F k j (c.m f) (hb.m f) m h g) (λ(W:y4) (x:d7 (w.alloc (zt #[s.G,s.H,b,a] 34)) W)=>dY x) ((b8 w).a (zt #[s.G,s.H,b,a] 34));obtain⟨F,G,rfl,_,_,E⟩:=c.i;obtain⟨A,B,rfl,_,_,_⟩:=hb.i;clear c hb l m g h j;generalize s.K.length=n at *;generalize s.F.length=K at *;generalize eQ s.K s.F (k:Int)=z at *;obtain⟨q,r,t,u⟩:=o _ (b8 _);have D:(i:Int)<48:=by omega
 have C:=λw=>sZ z i v w;go_enter func65,ntmps65
 go_wp2_with fail;refine(p _ d).m ?_;rintro e H ⟨rfl,y⟩;clear q r t u;go_wp2;go_ret;exact⟨rfl,d.r y⟩
theorem aAF {s:aG} {r:aF} (e:nO s r=0):aI s=0/\bO r/\0<=r.B/\r.B<s.K.length/\kL (aY (eQ s.K s.F r.B))/\¬ r.D<s.G:=by
 obtain⟨a,h,f⟩:=Gi e;obtain⟨_,i,c,d⟩:=Ga h;obtain⟨b,g⟩:∃ b:Nat,r.B=b:=⟨r.B.toNat,by omega⟩;refine⟨a,i,c,d,?_,f⟩;rw[g];exact Fy a (by omega)
theorem qL {W:y4} {b o:Nat} {v:y5} (c:W ⟨b,o,J⟩=M v):W.setCell ⟨b,o,J⟩ v=W:=by
 have g:=aGp W _ c;unfold aHP;have e:(W.heap.modify b λ| .cells a elem frozen=>zt (if(none:Option Nat).isSome then a else a.setIfInBounds o v) elem frozen|o=>o)=W.heap:=by
  apply aHT
  ·simp
  intro q m n;rw[Array.getElem_modify];split
  ·rename_i h
   subst h;unfold World.cell? at c;rw[aGO g] at c;cases i:W.heap[b] with
   | cells a elem l=>
    rw[i] at c;have d:a[o]?=M v:=by simpa using c
    have k:a.setIfInBounds o v=a:=by
     apply aHT
     ·simp
     intro r p f;rw[Array.getElem_setIfInBounds];split
     ·rename_i j
      subst j;rw[aGO f] at d;exact(b7 d).symm
     rfl
    simp[k]
   | _=>simp_all
  rfl
 exact congrArg (λd=>{ W with heap:=d }) e
theorem Gv {α:Type}:∀ (css:List (List α)),(∀ cs∈css,cs.length=7)->∀ (k j:Nat) (cs:List α) (v:α),css[k]?=M cs->j<7->css.flatten.set (k*7+j) v=(css.set k (cs.set j v)).flatten
 | [],_,k,j,cs,v,h,_=>by simp at h
 | c::css,h7,k,j,cs,v,h,hj=>by
  have b:=h7 c (aHv ..);cases k with
  | zero=>
   cases h;rw[aGL,aGx,aHH,List.set_append_left _ _ (by omega)];rfl
  | succ k=>
   rw[aHH,List.set_append_right _ _ (by omega),b,show (k+1)*7+j-7=k*7+j by omega,Gv css (λa d=>h7 a (aGc _ d)) k j cs v h hj];rfl
theorem Ag {W:y4} {base T b n g cap o:Nat} {xs:List y5} {v:y5} (a:W.ownsRow base T b (O (M ⟨g,0,J⟩) n cap) n xs) (r:o<n*b):(W.setCell ⟨g,o,J⟩ v).ownsRow base T b (O (M ⟨g,0,J⟩) n cap) n (xs.set o v):=by
 obtain⟨d,e⟩:=a;refine⟨by simpa using d,?_⟩;rcases e with ⟨a,_⟩|⟨q,p,c,h,f,i,k,j,l,m⟩
 ·cases a
 cases h;refine .inr ⟨g,cap,c.setIfInBounds o v,rfl,f,?_,k,j,by simpa using l,?_⟩
 ·exact x6 W g o c T v i
 rw[aHU,List.take_set,m]
theorem oU {α:Type} {f g:α->Int} {W W':y4} {v:y5} {xs:List α} {row:Option Nat} (d:SV 2 (E2 f g) W v xs) (i:W.grownBy W' row) (q:yM v row):SV 2 (E2 f g) W' v xs:=by
 rcases d with d|⟨b,u,j,rfl,n,o,s,e,p⟩
 ·exact .inl d
 refine .inr ⟨b,u,j,rfl,n,o,s,aGs e i.size,λt w r=>?_⟩;have h:∀ c,W' ⟨b,c,J⟩=W ⟨b,c,J⟩:=λc=>aHm (a:=⟨b,c,J⟩) (i.block b e (q _ _ _ rfl));obtain⟨k,l,m⟩:=p t w r;exact⟨by rw[h];exact k,by rw[h];exact l,m⟩
theorem Km {α:Type} {f g:α->Int} {W:y4} {v:y5} {xs:List α} (b:SV 2 (E2 f g) W v xs) (h:xs≠[]):∀ a n c,v=O (M a) n c->a.block<W.heap.size:=by
 rcases b with ⟨b,_⟩|⟨i,p,j,rfl,k,l,o,e,m⟩
 ·exact absurd b h
 intro a n c d;cases d;exact e
def oJ (bs:List Nat) (css:List (List y5)):Prop:=∀ a∈css,∀ b∈a,bM bs b
theorem fC (bs:List Nat) (k:IntKind) (n:Int):bM bs (.int k n):=λa n b a=>by cases a
theorem gY {W W':y4} {cs:List y5} {x:aH} {r:Nat} (h:fW W cs x) (d:W.grownBy W' (M r)) (c:∀ a∈cs,bM [r] a):fW W' cs x:=by
 obtain⟨u,e,rfl,⟨t,rfl,k,m,o,p,q⟩,i,s⟩:=h;have b:∀ a,bM [r] a->yM a (M r):=λa l a n f g j=>l a n f g (aHf.2 (b7 j));exact⟨_,e,rfl,⟨t,rfl,oU k d (b _ (c _ (by simp))),m,o,p,q⟩,oU i d (b _ (c _ (by simp))),s⟩
theorem qU {W W':y4} {css:List (List y5)} {b:List aH} {r:Nat} (c:fP W css b) (g:W.grownBy W' (M r)) (f:oJ [r] css):fP W' css b:=
 ⟨c.len,λh a i d e=>gY (c.each h a i d e) g (f a (aGC d))⟩
theorem lR {W:y4} {css:List (List y5)} {b:List aH} (h:fP W css b) (r:∀ e∈b,e.P.A≠[]/\e.L≠[]):∀ g∈css,∀ m∈g,∀ c n d,m=O (M c) n d->c.block<W.heap.size:=by
 intro g p m j;obtain⟨k,i⟩:=aHK.1 p;have q:=(aGw.1 i).1;obtain⟨e,l⟩:=aV (f:=b) (k:=k) (by rw[<- h.len];exact q);obtain⟨t,u⟩:=r e (aGC l);obtain⟨C,v,rfl,⟨B,rfl,s,w,x,y,z⟩,o,A⟩:=h.each k g e i l;simp only[aGd,aH9,aH1,aHa,or_false] at j;rcases j with rfl|rfl|rfl|rfl|rfl|rfl|rfl
 ·intro c n d a;cases a
 ·intro c n d a;cases a
 ·intro c n d a;cases a
 ·intro c n d a;cases a
 ·intro c n d a;cases a
 ·exact Km s t
 exact Km o u
theorem Oi {W:y4} {css:List (List y5)} {b:List aH} {k:Nat} {cs:List y5} {x:aH} (c:fP W css b) (f:b[k]?=M x) (i:fW W cs x):fP W (css.set k cs) b:=by
 refine⟨by rw[List.length_set,c.len],λg h l a d=>?_⟩;by_cases e:k=g
 ·subst e;have j:k<css.length:=by rw[c.len];exact(aGw.1 f).1
  rw[aHy j] at a;rw[f] at d;cases a;cases d;exact i
 rw[aHz e] at a;exact c.each g h l a d
theorem Bw {bs:List Nat} {css:List (List y5)} {k:Nat} {cs:List y5} (e:oJ bs css) (f:∀ a∈cs,bM bs a):oJ bs (css.set k cs):=λd g a c=>by
 rcases List.mem_or_eq_of_mem_set g with b|b
 ·exact e d b a c
 subst b;exact f a c
def fH (bs:List Nat) (base:Nat) (W:y4) (v:y5) (b:List aH):Prop:=
 ∃ a,W.ownsRow base 80 7 v b.length a.flatten/\fP W a b/\oJ bs a/\∀ c,v.ownBlock=M c->oJ [c] a
theorem fH.v {bs:List Nat} {base:Nat} {W:y4} {v:y5} {b:List aH} (a:fH bs base W v b) (d:b.length<=12):aS W v b:=by
 obtain⟨f,c,e,_⟩:=a;exact Pz c e d
theorem fH.e {bs:List Nat} {base:Nat} {W W':y4} {v:y5} {b:List aH} (d:fH bs base W v b) (a:d7 W W'):fH bs base W' v b:=by
 obtain⟨c,e,f,g,h⟩:=d;exact⟨c,aJ e a,f.m a,g,h⟩
theorem fH.kept {bs:List Nat} {base r:Nat} {W W':y4} {v:y5} {b:List aH} (i:fH bs base W v b) (c:W.grownBy W' (M r)) (p:r∈bs) (hb:r<base):fH bs base W' v b:=by
 obtain⟨g,j,k,a,l⟩:=i;exact⟨g,tC j c hb,qU k c (λf m s q d n e h o=>a f m s q d n e h (by rw[aHf.1 o];exact p)),a,l⟩
theorem fH.cells {bs:List Nat} {base g z cap:Nat} {W:y4} {b:List aH} {k:Nat} {x:aH} (j:fH bs base W (O (M ⟨g,0,J⟩) z cap) b) (E:b.length=z) (p:b[k]?=M x) :
  ∃ e d,aM W e x.P.A/\bF W d x.L/\W ⟨g,k*7,J⟩=M (Y Z x.Id)/\W ⟨g,k*7+1,J⟩=M (Y Z x.P.B)/\W ⟨g,k*7+2,J⟩=M (Y Z x.P.D)/\W ⟨g,k*7+3,J⟩=M (Y Z x.P.C)/\W ⟨g,k*7+4,J⟩=M (Y Z x.P.E)/\W ⟨g,k*7+5,J⟩=M e/\W ⟨g,k*7+6,J⟩=M d/\g<W.heap.size/\base<=g/\(∀ n,W.frozen? ⟨g,n,J⟩=false):=by
 obtain⟨i,l,m,_⟩:=j;have u:=(aGw.1 p).1;obtain⟨q,o⟩:=aV (f:=i) (k:=k) (by rw[m.len];exact u);obtain⟨F,d,rfl,⟨e,rfl,y,_⟩,s,_⟩:=m.each k q x o p;have a:∀ c h,c<7->([Y Z x.Id,Y Z x.P.B,Y Z x.P.D,Y Z x.P.C,Y Z x.P.E,e,d]:List y5)[c]?=M h->W ⟨g,k*7+c,J⟩=M h:=λc h t A=>by
  have r:i.flatten[k*7+c]?=M h:=by rw[Nx i m.seven k c t,o];exact A
  have:=l.cells (g:=g) rfl (k*7+c) h r;rw[uS] at this;rwa [aGx] at this
 obtain⟨v,w⟩:=l.lt g rfl;refine⟨e,d,y,s,a 0 _ (by omega) rfl,a 1 _ (by omega) rfl,a 2 _ (by omega) rfl,a 3 _ (by omega) rfl,a 4 _ (by omega) rfl,a 5 _ (by omega) rfl,a 6 _ (by omega) rfl,w,v,λn=>?_⟩;rcases l.2 with ⟨j,_⟩|⟨D,B,C,c,_,r,_⟩
 ·cases j
 cases c;exact x4 W g n _ _ r
theorem fH.setP {bs:List Nat} {base g z cap:Nat} {W:y4} {b:List aH} {k:Nat} {x:aH} {u:y5} (F:fH bs base W (O (M ⟨g,0,J⟩) z cap) b) (S:b.length=z) (m:b[k]?=M x) (R:aM W u x.P.A) (y:bM (g::bs) u) :
  fH bs base (W.setCell ⟨g,k*7+5,J⟩ u) (O (M ⟨g,0,J⟩) z cap) b:=by
 obtain⟨a,q,h,r,G⟩:=F;have Q:=(aGw.1 m).1;obtain⟨D,l⟩:=aV (f:=a) (k:=k) (by rw[h.len];exact Q);obtain⟨qs,c,rfl,⟨pv,rfl,hp,T,U,V,X⟩,L,i5⟩:=h.each k D x l m;have A:=aGC l;have d:=Gv a h.seven k 5 _ u l (by omega);have N:=aN W g (k*7+5) u;have s:=G g rfl;have B:bM [g] u:=λi n j d p=>y i n j d (by rw[aHf.1 p];exact aHv ..);have C:bM bs u:=λi n j d p=>y i n j d (aGc _ p);have t:oJ [g] (a.set k [Y Z x.Id,Y Z x.P.B,Y Z x.P.D,Y Z x.P.C,Y Z x.P.E,u,c]):=Bw s (λw e=>by
  simp only[aH1,aHa,or_false] at e;rcases e with rfl|rfl|rfl|rfl|rfl|rfl|rfl
  ·exact fC _ _ _
  ·exact fC _ _ _
  ·exact fC _ _ _
  ·exact fC _ _ _
  ·exact fC _ _ _
  ·exact B
  exact s _ A _ (by simp))
 have H:oJ bs (a.set k [Y Z x.Id,Y Z x.P.B,Y Z x.P.D,Y Z x.P.C,Y Z x.P.E,u,c]):=Bw r (λw e=>by
  simp only[aH1,aHa,or_false] at e;rcases e with rfl|rfl|rfl|rfl|rfl|rfl|rfl
  ·exact fC _ _ _
  ·exact fC _ _ _
  ·exact fC _ _ _
  ·exact fC _ _ _
  ·exact fC _ _ _
  ·exact C
  exact r _ A _ (by simp))
 have K:fP W (a.set k [Y Z x.Id,Y Z x.P.B,Y Z x.P.D,Y Z x.P.C,Y Z x.P.E,u,c]) b:=Oi h m ⟨_,c,rfl,⟨u,rfl,R,T,U,V,X⟩,L,i5⟩;refine⟨a.set k [Y Z x.Id,Y Z x.P.B,Y Z x.P.D,Y Z x.P.C,Y Z x.P.E,u,c],?_,qU K N t,H,λE P=>?_⟩
 ·rw[S] at q ⊢;have:=Ag (o:=k*7+5) (v:=u) q (by omega);rw[d] at this;exact this
 obtain rfl:g=E:=by simpa[aHR] using P
 exact t
theorem fH.setB {bs:List Nat} {base g z cap:Nat} {W:y4} {b:List aH} {k:Nat} {x:aH} {u:y5} (F:fH bs base W (O (M ⟨g,0,J⟩) z cap) b) (X:b.length=z) (m:b[k]?=M x) (V:bF W u x.L) (t:bM (g::bs) u) :
  fH bs base (W.setCell ⟨g,k*7+6,J⟩ u) (O (M ⟨g,0,J⟩) z cap) b:=by
 obtain⟨a,q,e,G,H⟩:=F;have S:=(aGw.1 m).1;obtain⟨D,l⟩:=aV (f:=a) (k:=k) (by rw[e.len];exact S);obtain⟨qs,bv,rfl,⟨h,rfl,U,i1,i2,i3,i4⟩,hb,i5⟩:=e.each k D x l m;have T:=aGC l;have c:=Gv a e.seven k 6 _ u l (by omega);have Q:=aN W g (k*7+6) u;have K:=H g rfl;have B:bM [g] u:=λi n j c p=>t i n j c (by rw[aHf.1 p];exact aHv ..);have C:bM bs u:=λi n j c p=>t i n j c (aGc _ p);have r:∀ d,oJ d a->bM d u->oJ d (a.set k [Y Z x.Id,Y Z x.P.B,Y Z x.P.D,Y Z x.P.C,Y Z x.P.E,h,u]):=λd y P=>Bw y (λw A=>by
  simp only[aH1,aHa,or_false] at A;rcases A with rfl|rfl|rfl|rfl|rfl|rfl|rfl
  ·exact fC _ _ _
  ·exact fC _ _ _
  ·exact fC _ _ _
  ·exact fC _ _ _
  ·exact fC _ _ _
  ·exact y _ T _ (by simp)
  exact P)
 have s:=r [g] K B;have L:=r bs G C;have N:fP W (a.set k [Y Z x.Id,Y Z x.P.B,Y Z x.P.D,Y Z x.P.C,Y Z x.P.E,h,u]) b:=Oi e m ⟨_,u,rfl,⟨h,rfl,U,i1,i2,i3,i4⟩,V,i5⟩;refine⟨a.set k [Y Z x.Id,Y Z x.P.B,Y Z x.P.D,Y Z x.P.C,Y Z x.P.E,h,u],?_,qU N Q s,L,λE R=>?_⟩
 ·rw[X] at q ⊢;have:=Ag (o:=k*7+6) (v:=u) q (by omega);rw[c] at this;exact this
 obtain rfl:g=E:=by simpa[aHR] using R
 exact s
theorem fH.less {bs:List Nat} {base:Nat} {W:y4} {v:y5} {b:List aH} (c:fH bs base W v b):fH [] base W v b:=by
 obtain⟨a,d,e,k,f⟩:=c;exact⟨a,d,e,λg l o m h n i j g=>(by cases g),f⟩
theorem info110:(prog.info? 110).map (λa=>(a.zero,a.size,a.bytes))=M (M (.agg #[Y Z 0,Y Z 0]),2,16):=by kernel_rfl
theorem Pl (w:y4) (v:y5) (f:List Piece) (o:aM w v f) (A:1<=f.length) (S:f.length<=3) :
  y8 prog 196 #[v] w λe c=>∃ a b,e=zv (O (M ⟨a,0,J⟩) f.length b)/\w.heap.size<=a/\aM c (O (M ⟨a,0,J⟩) f.length b) f/\d7 w c:=by
 obtain⟨E,F,G,H,K⟩:=s8 info110;obtain⟨i,r,b,rfl,_,_,Q,d⟩:=fN o A;have u:=I (oW d);have s:=I (show ∀ c∈f,I64 c.Len/\I64 c.N from λc D=>by
  obtain⟨q,g⟩:=aHK.1 D;obtain⟨_,_,h,j⟩:=d q c g;exact⟨h,j⟩)
 have t:=I (gX Piece.Len Piece.N f);have l:=mC w 110 2 (by omega);clear o d;generalize k:f.length=n at *;have h:=I k;clear k;have R:∀ W,Sem.run prog (binOp .eql 75 (O (M ⟨i,r,J⟩) n b) (O J 0 0)) W=.ok (zx false) W:=λW=>rfl;go_enter func196,ntmps196
 go_wp2_with (at_builtin;refine r6 _ rfl _ _ 75 rfl w 110 E _ 2 16 underlying75 F G H K rfl (by decide) _ _ _ rfl l ⟨i,r,J⟩ n b (bH Piece.Len Piece.N f) rfl t (λL N B=>jZ ((b8 w).a _) (u L N B)) (rH f) (by unfold o0;omega) (by omega) (by simp) ?_);intro T P m j C;obtain⟨c,x⟩:=zr m (((b8 w).a (zt #[] 110)).gr j (λq g=>by cases g;exact aGi _));clear m j C l;obtain⟨a,y,p⟩:=kO c (by omega)
 try rw[aGx] at p
 subst p;go_wp2;go_ret;refine⟨a,y,rfl,bN c a rfl,bL (base:=w.heap.size) (e:=110) ?_ s (by rw[h.o];omega),x⟩;have z:=c.o;rw[h.o];simpa using z
theorem Ql (w:y4) (v:y5) (f:List bK) (p:bF w v f) (B:1<=f.length) (T:f.length<=3) :
  y8 prog 158 #[v] w λe c=>∃ a b,e=zv (O (M ⟨a,0,J⟩) f.length b)/\w.heap.size<=a/\bF c (O (M ⟨a,0,J⟩) f.length b) f/\d7 w c:=by
 obtain⟨F,G,H,K,L⟩:=s8 info113;obtain⟨V,b,rfl,_,_,_,j⟩:=mN p;obtain⟨i,s,rfl,R,d⟩:=j B;have x:=I (oW d);have t:=I (show ∀ c∈f,I64 c.Piece/\I64 c.At from λc E=>by
  obtain⟨r,g⟩:=aHK.1 E;obtain⟨_,_,h,k⟩:=d r c g;exact⟨h,k⟩)
 have u:=I (gX bK.Piece bK.At f);have m:=mC w 113 2 (by omega);clear p d j;generalize l:f.length=n at *;have h:=I l;clear l;have S:∀ W,Sem.run prog (binOp .eql 78 (O (M ⟨i,s,J⟩) n b) (O J 0 0)) W=.ok (zx false) W:=λW=>rfl;go_enter func158,ntmps158
 go_wp2_with (at_builtin;refine r6 _ rfl _ _ 78 rfl w 113 F _ 2 16 underlying78 G H K L rfl (by decide) _ _ _ rfl m ⟨i,s,J⟩ n b (bH bK.Piece bK.At f) rfl u (λN P C=>jZ ((b8 w).a _) (x N P C)) (rH f) (by unfold o0;omega) (by omega) (by simp) ?_);intro U Q o k D;obtain⟨c,y⟩:=zr o (((b8 w).a (zt #[] 113)).gr k (λr g=>by cases g;exact aGi _));clear o k D m;obtain⟨a,z,q⟩:=kO c (by omega)
 try rw[aGx] at q
 subst q;go_wp2;go_ret;refine⟨a,z,rfl,bN c a rfl,bL (base:=w.heap.size) (e:=113) ?_ t (by rw[h.o];omega),y⟩;have A:=c.o;rw[h.o];simpa using A
def Am (b:List aH):Prop:=∀ a∈b,(a.P.A≠[]/\a.L≠[])/\(1<=a.P.A.length/\a.P.A.length<=3)/\1<=a.L.length/\a.L.length<=3
theorem Qk (bs:List Nat) (w0 w:y4) (v:y5) (b:List aH) (g:aS w0 v b) (o:d7 w0 w) (a5:b.length<=12) (A:Am b) (y:∀ a∈bs,w0<=a) :
  y8 prog 157 #[v] w λd a=>∃ c,d=zv c/\fH bs w a c b/\d7 w a:=by
 obtain⟨ib,a0,a1,a2,a3⟩:=s8 info80;obtain⟨e,j,rfl,_,_,_⟩:=g.i;cases e with
 | none=>
  have i:b=[]:=by
   rcases g with ⟨a,_⟩|⟨f,k,h,d,_⟩
   ·exact a
   cases d
  subst i;clear g;rw[aGu];have R:∀ W,Sem.run prog (binOp .eql 32 (O J 0 j) (O J 0 0)) W=.ok (zx true) W:=λW=>rfl;go_enter func157,ntmps157
  go_wp2;go_ret;exact⟨_,rfl,⟨[],aGQ _ _ _ _,⟨rfl,λk f F a=>by simp at a⟩,λf a=>by simp at a,λx a=>by cases a⟩,b8 w⟩
 | some t=>
  obtain⟨u,i,hlen,C⟩:=aEp g rfl;obtain⟨L,K,N,H,q,G⟩:=zl C hlen i.one i (lR i (λF X=>(A F X).1)) y;have D:=mC w 80 7 (by omega);clear g i hlen C A y;generalize B:b.length=n at *;have P:=I B;clear B;have R:∀ W,Sem.run prog (binOp .eql 32 (O (M t) n j) (O J 0 0)) W=.ok (zx false) W:=λW=>rfl;go_enter func157,ntmps157
  go_wp2_with (at_builtin;refine r6 _ rfl _ _ 32 rfl w 80 ib _ 7 88 underlying32 a0 a1 a2 a3 rfl (by decide) _ _ _ rfl D t n j u.flatten rfl K (λa4 c T=>jZ (o.a _) (L a4 c T)) N (by unfold o0;omega) (by omega) (by simp) ?_);intro v2 W2 E z V;obtain⟨r,s⟩:=zr E (((b8 w).a (zt #[] 80)).gr z (λk U=>by cases U;exact aGi _));clear E z V D;go_wp2;go_ret;refine⟨_,rfl,⟨u,?_,H.m (o.r s),λf k c m e p h d l=>?_,λx S f k c m e p h d l=>?_⟩,s⟩
  ·have a:=r.o;rw[P.o];simpa using a
  ·have a:=q f k c m e p h d;have Q:=G _ l;omega
  have a:=q f k c m e p h d;have Q:=bN r x S;have x:=o.size;rw[aHf] at l;omega
theorem size77:(prog.info? 77).map (·.size)=M 5:=by kernel_rfl
theorem Ov (w:y4) (k:y5) (r:aF) (j:aM w k r.A) (A:1<=r.A.length) (B:r.A.length<=3) :
  y8 prog 143 #[.agg #[r.B,r.D,r.C,r.E,k]] w λs c=>∃ a b,s=zv (.agg #[r.B,r.D,r.C,r.E,O (M ⟨a,0,J⟩) r.A.length b])/\w.heap.size<=a/\aM c (O (M ⟨a,0,J⟩) r.A.length b) r.A/\d7 w c:=by
 have l:=I (λ(W:y4) (e:d7 w W)=>Pl W k r.A (j.m e) A B);obtain⟨g,h,rfl,_,_,_⟩:=j.i;clear j;generalize C:r.A.length=c at *;clear C;go_enter func143,ntmps143;obtain⟨u,q,p⟩:=zq (y7 (w.alloc (zt #[r.B,r.D,r.C,r.E,O g c h] 77)) (zt #[Y Z 0,Y Z 0,Y Z 0,Y Z 0,O J 0 0] 77)) (((b8 w).a (zt #[r.B,r.D,r.C,r.E,O g c h] 77)).a (zt #[Y Z 0,Y Z 0,Y Z 0,Y Z 0,O J 0 0] 77)) (λ(W:y4) (e:d7 ((w.alloc (zt #[r.B,r.D,r.C,r.E,O g c h] 77)).alloc (zt #[Y Z 0,Y Z 0,Y Z 0,Y Z 0,O J 0 0] 77)) W)=>eS (((b8 _).a _).r e));go_wp2_with fail;refine(l _ q).m ?_;rintro s d ⟨a,b,rfl,i,t,f⟩;obtain⟨D,E,F,G,H⟩:=p d f;simp only[aHb] at i;have N:w.heap.size+1<d.heap.size:=by have:=f.size;simp at this;omega
 have L:w.heap.size<d.heap.size:=by omega
 have m:d.heap[w.heap.size]?=M (zt #[r.B,r.D,r.C,r.E,O g c h] 77 (0,0)):=(f.block _ (by simp;omega)).trans ((((b8 _).a _).block _ (by simp)).trans (y7 w _));have n:d.heap[w.heap.size+1]?=M (zt #[Y Z 0,Y Z 0,Y Z 0,Y Z 0,O J 0 0] 77 (0,0)):=by
  have e:=u.o;rw[aHb] at e;exact(f.block (w+1) (by simp)).trans e
 have K:=x4 d w 4 _ _ m;obtain⟨o,x,z⟩:=zq (show (d.setCell ⟨w,4,J⟩ (O (M ⟨a,0,J⟩) c b)).heap[w.heap.size+1]?=M (zt #[Y Z 0,Y Z 0,Y Z 0,Y Z 0,O J 0 0] 77 (0,0)) from (x7 d ⟨w,4,J⟩ _ _ (by show w.heap.size+1≠w.heap.size;omega)).trans n) (pI (pI t (aN d w 4 (O (M ⟨a,0,J⟩) c b)) (by omega)) (aQ (d.setCell ⟨w,4,J⟩ (O (M ⟨a,0,J⟩) c b)) (w+1) #[r.B,r.D,r.C,r.E,O (M ⟨a,0,J⟩) c b]) (by omega)) (show d7 w ((d.setCell ⟨w,4,J⟩ (O (M ⟨a,0,J⟩) c b)).setRow (w+1) #[r.B,r.D,r.C,r.E,O (M ⟨a,0,J⟩) c b]) from ((q.r f).se (aGi _) _).sr (by omega) _);obtain⟨y,v⟩:=zr (x5 _ (w+1) _ #[r.B,r.D,r.C,r.E,O (M ⟨a,0,J⟩) c b] _ _ o) i;clear f t m n i l p;go_wp2_with (refine y9 rfl 77 _ _ rfl (w+1) #[r.B,r.D,r.C,r.E,O (M ⟨a,0,J⟩) c b] rfl rfl 77 _ o size77 rfl (by simp[aGr]) ?_);exact v6 (j6 rfl _ _ (w+1) 77 #[r.B,r.D,r.C,r.E,O (M ⟨a,0,J⟩) c b] (0,0) _ rfl y underlying77 rfl size77) rfl ⟨a,b,rfl,by have:=v.o;omega,x,z⟩
theorem iM.more {bs:List Nat} {W:y4} {g r:Nat} {l:List Queue} (a:iM bs W g l) (p:∀ b∈l,b.Cap≠[]) (y:W<=r):iM (r::bs) W g l:=by
 obtain⟨u,m,n⟩:=a;refine⟨u,m,λs b e=>?_⟩;obtain⟨f,h,i,j,w,k,c,q⟩:=n s b e;obtain⟨b2,t,v,rfl,x,_⟩:=cZ c (p b (aGC e));refine⟨f,h,i,j,_,k,c,iD (λo=>?_)⟩;have d:=q ⟨b2,t,J⟩ _ _ rfl;rcases aH1.1 o with a|a
 ·exact d (by show b2∈g::bs;rw[a];exact aHv ..)
 rcases aH1.1 a with a|a
 ·omega
 exact d (aGc _ a)
theorem sD {l:List Queue} (e:cQ l):∀ a∈l,a.Cap≠[]:=λa c b=>by
 obtain⟨d,a⟩:=aHK.1 c;have:=(e.caps d (aGw.1 a).1).1.1;rw[(fS a).2.2,b] at this;exact this
theorem tY {l:List Queue} {b:List aH} (e:∀ a∈b,bU l a):Am b:=λa f=>by
 obtain⟨d,h⟩:=(e a f).req.many;obtain⟨c,g⟩:=(e a f).many;exact⟨⟨λa=>by rw[a] at d;exact absurd d (by decide),λa=>by rw[a] at c;exact absurd c (by decide)⟩,⟨d,h⟩,⟨c,g⟩⟩
structure Kb (w:y4) (base g cap:Nat) (va:Option Addr) (vc:Nat) (s:aG) (k:Nat) (W:y4):Prop where
 box:W.heap[w.heap.size]?=M (zt #[s.G,s.H,O (M ⟨g,0,J⟩) s.K.length cap,O va s.F.length vc] 34 (0,0))
 res:W.heap[w.heap.size+1]?=M (zt #[Y Z 0,Y Z 0,O J 0 0,O J 0 0] 34 (0,0))
 own:fH [w.heap.size,w.heap.size+1] base W (O va s.F.length vc) s.F
 row:iM [w.heap.size,w.heap.size+1] W g s.K
 apart:∀ r,(O va s.F.length vc).ownBlock=M r->g≠r/\iM [r,w.heap.size,w.heap.size+1] W g s.K
 size:base<=W
 low:w+2<=base
 e:d7 w W
 gb:g<base
 nq:gE 3 2 s.K.length w W g
 nb:∀ r,(O va s.F.length vc).ownBlock=M r->gE 7 5 k base W r/\gE 7 6 k base W r
theorem Kb.later {w W W':y4} {base g cap e k:Nat} {va:Option Addr} {s:aG} (a:Kb w base g cap va e s k W) (b:d7 W W'):Kb w base g cap va e s k W':=by
 have f:w.heap.size+1<W.heap.size:=by have:=a.low;have:=a.size;omega
 exact⟨(b.block _ (by omega)).trans a.box,(b.block _ f).trans a.res,a.own.e b,a.row.e b,λd c=>⟨(a.apart d c).1,(a.apart d c).2.e b⟩,aGR a.size b.size,a.low,a.e.r b,a.gb,a.nq.e b,λd c=>⟨(a.nb d c).1.e b,(a.nb d c).2.e b⟩⟩
theorem Kb.kept {w W W':y4} {base g cap n r k l:Nat} {b:Addr} {s:aG} (a:Kb w base g cap (M b) n s k W) (i:b.block=r) (hb:base<=r) (d:W.grownBy W' (M r)) (m:d7 w W') (u:fH [w.heap.size,w.heap.size+1] base W' (O (M b) s.F.length n) s.F) (t:gE 7 5 l base W' r/\gE 7 6 l base W' r):Kb w base g cap (M b) n s l W':=by
 have q:w.heap.size+1<W.heap.size:=by have:=a.low;have:=a.size;omega
 have v:=a.low;obtain⟨f,p⟩:=a.apart r (by show M b.block=M r;rw[i]);have o:=p.kept d (aHv ..) f;refine⟨(d.block _ (by omega) (λh=>by cases h;omega)).trans a.box,(d.block _ q (λh=>by cases h;omega)).trans a.res,u,o.less (λc m=>aGc _ m),λe j=>?_,aGR a.size d.size,a.low,m,a.gb,a.nq.kept d f,λe j=>?_⟩
 ·obtain rfl:r=e:=by have c:M b.block=M e:=j;rw[i] at c;exact b7 c
  exact⟨f,o⟩
 obtain rfl:r=e:=by have c:M b.block=M e:=j;rw[i] at c;exact b7 c
 exact t
theorem aFk (w:y4) (tv bv:y5) (s:aG) (hl:aK w tv s.K) (hb:aS w bv s.F) (ok:cQ s.K) (bh:s.F.length<=12) (aw:∀ a∈s.F,bU s.K a) :
  y8 prog 100 #[.agg #[s.G,s.H,tv,bv]] w λF c=>∃ base e n j g,F=zv (.agg #[s.G,s.H,O (M ⟨e,0,J⟩) s.K.length n,O j s.F.length g])/\s.K.length<=n/\n<=9223372036854775807/\w.heap.size<=e/\w.heap.size<=base/\base<=c.heap.size/\
   iM [] c e s.K/\(∀ d,(O j s.F.length g).ownBlock=M d->e≠d/\iM [d] c e s.K/\gE 7 5 s.F.length base c d/\gE 7 6 s.F.length base c d)/\fH [] base c (O j s.F.length g) s.F/\e<base/\gE 3 2 s.K.length w c e/\d7 w c:=by
 have OT:=I (λ(W:y4) (i:d7 w W) (hs:w.heap.size+1<W.heap.size)=>wI [w.heap.size,w.heap.size+1] w W tv s.K hl i ok (λd p=>by
  simp only[aH1,aHa,or_false] at p;omega))
 have aa:=tY aw;have CB:=I (λ(W:y4) (i:d7 w W)=>Qk [w.heap.size,w.heap.size+1] w W bv s.F hb i bh aa (λd p=>by
  simp only[aH1,aHa,or_false] at p;omega))
 obtain⟨ba,ae⟩:=zr (λ(k:Nat) (a:aH) (i:s.F[k]?=M a)=>aa a (aGC i)) (sD ok);have ca:=ok.n5;obtain⟨qa,qc,rfl,_,_,_⟩:=hl.i;obtain⟨U,V,rfl,_,_,_⟩:=hb.i;clear hl hb ok aw aa;go_enter func100,ntmps100;obtain⟨a7,H0,H1⟩:=zq (((b8 w).a (zt #[s.G,s.H,O qa s.K.length qc,O U s.F.length V] 34)).a (zt #[Y Z 0,Y Z 0,O J 0 0,O J 0 0] 34)) (y7 w (zt #[s.G,s.H,O qa s.K.length qc,O U s.F.length V] 34)) (y7 (w.alloc (zt #[s.G,s.H,O qa s.K.length qc,O U s.F.length V] 34)) (zt #[Y Z 0,Y Z 0,O J 0 0,O J 0 0] 34));go_wp2_with fail;refine(OT _ a7 (by simp)).m ?_;rintro F m ⟨e,n,rfl,bj,bk,hg,ay,ab,H⟩;rw[aHb,aHb] at ab;simp only[aHb] at hg;have cb:w.heap.size+1<m.heap.size:=by have:=H.size;simp at this;omega
 have a3:m.heap[w.heap.size]?=M (zt #[s.G,s.H,O qa s.K.length qc,O U s.F.length V] 34 (0,0)):=(H.block _ (by simp;omega)).trans ((((b8 _).a _).block _ (by simp)).trans H0);have az:m.heap[w.heap.size+1]?=M (zt #[Y Z 0,Y Z 0,O J 0 0,O J 0 0] 34 (0,0)):=by
  have i:=H1.o;rw[aHb] at i;exact(H.block (w+1) (by simp)).trans i
 have ai:=I (a7.r H);have ak:=x6 m w 2 _ _ (O (M ⟨e,0,J⟩) s.K.length n) a3;have b0:=(x7 m ⟨w,2,J⟩ (w+1) (O (M ⟨e,0,J⟩) s.K.length n) (by show w.heap.size+1≠w.heap.size;omega)).trans az;obtain⟨a1,a8,bd⟩:=zq (ay.kept (aN m w 2 (O (M ⟨e,0,J⟩) s.K.length n)) (aHv ..) (by omega)) (ai.se (aGi _) (o:=2) (O (M ⟨e,0,J⟩) s.K.length n)) ((ab.less (aGi _) (b2:=w.heap.size) (by omega)).kept (aN m w 2 (O (M ⟨e,0,J⟩) s.K.length n)) (by omega));have c2:=y6 m w 2 _ _ _ a3;have f2:=x4 m w 2 _ _ a3;have Q:(m.setCell ⟨w,2,J⟩ (O (M ⟨e,0,J⟩) s.K.length n)).heap.size=m.heap.size:=by simp[aHP]
 obtain⟨a6,ag,HG⟩:=zq ak b0 hg;clear H ay a3 az ak b0 hg a7 H0 H1 ab;have C:(m.setCell ⟨w,2,J⟩ (O (M ⟨e,0,J⟩) s.K.length n)) ⟨w,3,J⟩=M (O U s.F.length V):=y6 _ w 3 _ _ _ a6;go_wp2_with fail;refine(CB _ a8).m ?_;rintro F A ⟨bz,rfl,hv,x⟩;obtain⟨j,g,bx,b4⟩:∃ j g,bz=O j s.F.length g/\(1<=s.F.length->∃ c,j=M ⟨c,0,J⟩):=by
  obtain⟨a2,v,_⟩:=hv;rcases v.2 with ⟨i,q⟩|⟨c,h,_,i,_⟩
  ·exact⟨J,0,by rw[i,q],λv=>by omega⟩
  exact⟨_,h,i,λ_=>⟨c,rfl⟩⟩
 subst bx;have bu:m.heap.size<=A.heap.size:=by rw[<- Q];exact x.size
 have P:=(x.block w (by rw[Q];omega)).trans a6;have b1:=(x.block (w+1) (by rw[Q];omega)).trans ag;have f4:=x4 A w 3 _ _ P;have c4:A ⟨w,3,J⟩=M (O U s.F.length V):=y6 _ w 3 _ _ _ P;have bn:e<m.heap.size:=by
  obtain⟨h,v,_⟩:=a1.o;have:=v.lt;omega
 have b6:Hid (Kb w m e n j g s 0 (A.setCell ⟨w,3,J⟩ (O j s.F.length g))):=I (by
  have t:=aN A w 3 (O j s.F.length g);have bm:=HG.o;refine⟨x6 A w 3 _ _ _ P,(x7 A ⟨w,3,J⟩ (w+1) _ (by show w.heap.size+1≠w.heap.size;omega)).trans b1,?_,((a1.e x).kept t (aHv ..) (by omega)),λd p=>?_,by simpa[aHP] using bu,by omega,(a8.r x).se (aGi _) _,bn,(bd.e x).kept t (by omega),λd p=>?_⟩
  ·have i:=hv;rw[Q] at i;exact i.kept t (aHv ..) (by omega)
  ·obtain⟨a2,v,_⟩:=hv;have h:=bN v d p;rw[Q] at h;exact⟨by omega,((a1.more ae (by rw[Q];exact h)).e x).kept t (aGc _ (aHv ..)) (by omega)⟩
  obtain⟨a2,v,_⟩:=hv;have h:d<(A.setCell ⟨w,3,J⟩ (O j s.F.length g)).heap.size:=by
   have:=(v.lt d p).2;simpa[aHP] using this
  exact⟨gE.zero h,gE.zero h⟩)
 have be:=I b4;clear hv b4 x P b1 a6 ag a1 a8 ai c2 f2 C OT CB ae;go_wp2_with fail;have h5:(A.setCell ⟨w,3,J⟩ (O j s.F.length g)).heap.size=A.heap.size:=by simp[aHP]
 generalize A.setCell ⟨w,3,J⟩ (O j s.F.length g)=w5 at *;go_loopw [15] (λh wr=>∃ k:Nat,h=Y Z k/\k<=s.F.length/\Hid (Kb w m e n j g s k wr)) (λh _=>s.F.length-(intOf h).toNat);exact⟨0,rfl,by omega,b6⟩;obtain⟨k,rfl,hk,h⟩:=hrel;have am:=y6 wr w 3 _ _ _ h.box;have C:wr ⟨w,3,J⟩=M (O j s.F.length g):=am;clear am;by_cases bq:k<s.F.length
 ·have br:=z7 k s.F.length;obtain⟨a,a5⟩:=aV (f:=s.F) (k:=k) bq;obtain⟨c,bw⟩:=be (by omega);subst bw;obtain⟨bt,au,av⟩:=ba k a a5;obtain⟨pv,bQ,hp,al,d0,X,d2,d3,d4,d5,L,c6,ar,bl⟩:=h.own.cells rfl a5;have af:=I (λ(W:y4) (i:d7 wr W)=>Ov W pv a.P (hp.m i) au.1 au.2);obtain⟨pa,pc,rfl,_,_,_⟩:=hp.i;obtain⟨ia,ic,rfl,_,_,_⟩:=al.i;have T:=I a5;clear hp al a5 bt;go_wp2_with fail;refine v8 (S:=λW=>W ⟨w,3,J⟩=M (O (M ⟨c,0,J⟩) s.F.length g)) (by kernel_rfl) (by simpa using C) (λN=>?_);refine tkH 0 ?_;refine tkH 1 ?_;refine tkH 2 ?_;refine tkH 3 ?_;refine tkH 4 ?_;refine tkH 5 ?_;refine tkH 6 ?_;refine tkH 7 ?_;refine goH 8 λy q=>?_;simp only[zA,zB,zC];go_simp;refine q.out _ _ ?_ (λN=>?_)
  ·simpa using C
  clear q y;refine goH 9 λy q=>?_;simp only[zA,zB,zC];go_simp;refine(af _ (b8 wr).dr).m ?_;rintro F r ⟨z,D,rfl,ap,ax,H⟩;have B:=I (h.later ((b8 wr).dr.r H));have c1:wr<=z:=ap;clear d0 X d2 d3 d4 d5 L C bl af ap H;obtain⟨ce,bR,_,_,d0,X,d2,d3,d4,d5,L,c8,_,an⟩:=B.own.cells rfl T;have b3:r.there c (k*7+1) 5:=λE hj=>by
   refine⟨?_,an _⟩;rcases(by omega:E=0\/E=1\/E=2\/E=3\/E=4) with rfl|rfl|rfl|rfl|rfl
   ·show (r ⟨c,k*7+1,J⟩).isSome=true;rw[X];rfl
   ·show (r ⟨c,k*7+2,J⟩).isSome=true;rw[d2];rfl
   ·show (r ⟨c,k*7+3,J⟩).isSome=true;rw[d3];rfl
   ·show (r ⟨c,k*7+4,J⟩).isSome=true;rw[d4];rfl
   show (r ⟨c,k*7+5,J⟩).isSome=true;rw[d5];rfl
  have ah:=I b3;have hW:r.setCells c (k*7+1) [Y Z a.P.B,Y Z a.P.D,Y Z a.P.C,Y Z a.P.E,O (M ⟨z,0,J⟩) a.P.A.length D]=r.setCell ⟨c,k*7+5,J⟩ (O (M ⟨z,0,J⟩) a.P.A.length D):=by
   show ((((r.setCell ⟨c,k*7+1,J⟩ _).setCell ⟨c,k*7+2,J⟩ _).setCell ⟨c,k*7+3,J⟩ _).setCell ⟨c,k*7+4,J⟩ _).setCell ⟨c,k*7+5,J⟩ _=_;rw[qL X,qL d2,qL d3,qL d4]
  have HW:=I hW;have bo:=B.low;have a0:bM (c::[w.heap.size,w.heap.size+1]) (O (M ⟨z,0,J⟩) a.P.A.length D):=iD (λG=>by
   simp only[aH1,aHa,or_false] at G;omega)
  have a4:=B.nb c rfl;have bp:=B.size;have bi:=h.size;obtain⟨R,bb⟩:=zr (B.kept (l:=k) rfl ar (aN r c (k*7+5) (O (M ⟨z,0,J⟩) a.P.A.length D)) (B.e.se (by omega) _) (B.own.setP rfl T ax a0) ⟨(a4.1.other (λb5 hi F=>by omega) _),(a4.2.other (λb5 hi F=>by omega) _)⟩) (a4.1.set (by omega) d5 (u:=O (M ⟨z,0,J⟩) a.P.A.length D) (λbf n' c' e2=>by cases e2;show m<=z;omega));clear b3 hW a0 d0 X d2 d3 d4 d5 L an ax a4 bp bi;go_wp2_with fail;refine q.out _ _ (y6 r w 3 _ _ _ B.box) λN=>?_
  clear q y;refine tkH 10 ?_;refine tkH 11 ?_;refine goH 12 λy q=>?_;simp only[zA,zB,zC];rw[c7 (by rfl)];refine wp_store_mid 77 _ _ rfl c (k*7+1) #[a.P.B,a.P.D,a.P.C,a.P.E,O (M ⟨z,0,J⟩) a.P.A.length D] rfl rfl ah size77 (by simp[aGr]) ?_;rw[show r.setCells c (k*7+1) (#[a.P.B,a.P.D,a.P.C,a.P.E,O (M ⟨z,0,J⟩) a.P.A.length D]:Array y5).toList=r.setCell ⟨c,k*7+5,J⟩ (O (M ⟨z,0,J⟩) a.P.A.length D) from HW.o];refine q.out _ _ (y6 _ w 3 _ _ _ R.box) λN=>?_
  clear q y;refine dnH ?_;generalize r.setCell ⟨c,k*7+5,J⟩ (O (M ⟨z,0,J⟩) a.P.A.length D)=E at *;clear HW ah B;have C:E ⟨w,3,J⟩=M (O (M ⟨c,0,J⟩) s.F.length g):=y6 E w 3 _ _ _ R.box;obtain⟨cf,bg,_,a9,_,_,_,_,_,_,L,_,_,_⟩:=R.own.cells rfl T;have ad:=I (λ(W:y4) (i:d7 E W)=>Ql W bg a.L (a9.m i) av.1 av.2);obtain⟨cc,cd,rfl,_,_,_⟩:=a9.i;clear a9;go_wp2_with fail;refine v8 (S:=λW=>W ⟨w,3,J⟩=M (O (M ⟨c,0,J⟩) s.F.length g)) (by kernel_rfl) (by simpa using C) (λN=>?_);refine tkH 0 ?_;refine tkH 1 ?_;refine tkH 2 ?_;refine tkH 3 ?_;refine tkH 4 ?_;refine tkH 5 ?_;refine tkH 6 ?_;refine tkH 7 ?_;refine goH 8 λy q=>?_;simp only[zA,zB,zC];go_simp;refine q.out _ _ ?_ (λN=>?_)
  ·simpa using C
  clear q y;refine goH 9 λy q=>?_;simp only[zA,zB,zC];go_simp;refine(ad _ (b8 E).dr).m ?_;rintro F W4 ⟨g4,aj,rfl,aq,P,x⟩;obtain⟨K,bc⟩:=zr (R.later ((b8 E).dr.r x)) (bb.e ((b8 E).dr.r x));have c3:E<=g4:=aq;have c5:c<E.heap.size:=by
   obtain⟨_,_,_,_,_,_,_,_,_,_,_,i,_⟩:=R.own.cells rfl T;exact i
  have Q:=R.size;clear L C ad aq x;obtain⟨cg,c0,_,_,_,_,_,_,_,_,L,c9,_,ao⟩:=K.own.cells rfl T;have f6:=ao (k*7+6);have a0:bM (c::[w.heap.size,w.heap.size+1]) (O (M ⟨g4,0,J⟩) a.L.length aj):=iD (λG=>by
   simp only[aH1,aHa,or_false] at G;omega)
  have ac:=I (K.kept (l:=k+1) rfl ar (aN W4 c (k*7+6) (O (M ⟨g4,0,J⟩) a.L.length aj)) (K.e.se (by omega) _) (K.own.setB rfl T P a0) ⟨bc.other (λb5 hi F=>by omega) _,(K.nb c rfl).2.set (by omega) L (λbf n' c' e2=>by cases e2;show m<=g4;omega)⟩);go_wp2_with fail;refine q.out _ _ (y6 W4 w 3 _ _ _ K.box) λN=>?_
  clear q y;refine tkH 10 ?_;refine tkH 11 ?_;refine goH 12 λy q=>?_;simp only[zA,zB,zC];go_simp;refine q.out _ _ (y6 _ w 3 _ _ _ ac.box) λN=>?_
  clear q y;refine dnH ?_;clear a0 ao P K;go_wp2;go_roundw;exact⟨k+1,by go_num,by omega,ac⟩;simp[intOf];omega
 obtain rfl:k=s.F.length:=by omega
 have br:¬ (s.F.length:Int)<(s.F.length:Int):=by omega
 have z:=y6 wr w 0 _ _ _ h.box;have B:=y6 wr w 1 _ _ _ h.box;have D:=y6 wr w 2 _ _ _ h.box;have q0:wr ⟨w,0,J⟩=M (Y Z s.G):=z;have q1:wr ⟨w,1,J⟩=M (Y Z s.H):=B;have q2:wr ⟨w,2,J⟩=M (O (M ⟨e,0,J⟩) s.K.length n):=D;clear z B D;obtain⟨T,R⟩:=zr h.res (x5 wr (w+1) _ #[s.G,s.H,O (M ⟨e,0,J⟩) s.K.length n,O j s.F.length g] _ _ h.res);have t:=aQ wr (w+1) #[s.G,s.H,O (M ⟨e,0,J⟩) s.K.length n,O j s.F.length g];have bm:=HG.o;have bo:=h.low;have G:w.heap.size+1∈[w.heap.size,w.heap.size+1]:=aGc _ (aHv ..);obtain⟨L,N,y,X,a0,K,E,r⟩:=zi (h.own.kept t G (by omega)) (h.row.kept t G (by omega)) (λd p=>(⟨(h.apart d p).1,(h.apart d p).2.kept t (aGc _ G) (by omega)⟩:e≠d/\iM [d,w.heap.size,w.heap.size+1] _ e s.K)) (h.e.sr (b:=w+1) (by omega) #[s.G,s.H,O (M ⟨e,0,J⟩) s.K.length n,O j s.F.length g]) (aGR h.size t.size) (h.nq.kept t (by omega)) h.gb (λd p=>(⟨(h.nb d p).1.kept t (by obtain⟨a2,v,_⟩:=h.own;have:=bN v d p;omega),(h.nb d p).2.kept t (by obtain⟨a2,v,_⟩:=h.own;have:=bN v d p;omega)⟩:gE 7 5 s.F.length m _ d/\gE 7 6 s.F.length m _ d));clear t G;go_wp2_with (refine z6 (w+1) #[s.G,s.H,O (M ⟨e,0,J⟩) s.K.length n,O j s.F.length g] T ?_);exact v6 (j6 rfl _ _ (w+1) 34 #[s.G,s.H,O (M ⟨e,0,J⟩) s.K.length n,O j s.F.length g] (0,0) _ rfl R underlying34 rfl size34) rfl
  ⟨m,e,n,j,g,rfl,bj,bk,by omega,by omega,a0,N.less (λa q=>by cases q),λd p=>⟨(y d p).1,(y d p).2.less (λa q=>by rw[aHf.1 q];exact aHv ..),(r d p).1,(r d p).2⟩,L.less,E,K,X⟩
theorem xB {W:y4} {base b2 e b n:Nat} {v:y5} {xs:List y5} (g:W.ownsRow base e b v n xs) (hb:b2<=base):W.ownsRow b2 e b v n xs:=by
 obtain⟨h,a⟩:=g;refine⟨h,?_⟩;rcases a with a|⟨f,c,d,j,i,k⟩
 ·exact .inl a
 exact .inr ⟨f,c,d,j,aGR hb i,k⟩
theorem fH.low {bs:List Nat} {base b2:Nat} {W:y4} {v:y5} {b:List aH} (c:fH bs base W v b) (hb:b2<=base):fH bs b2 W v b:=by
 obtain⟨a,d,e,f,g⟩:=c;exact⟨a,xB d hb,e,f,g⟩
theorem fH.sub {bs cs:List Nat} {base:Nat} {W:y4} {v:y5} {b:List aH} (g:fH bs base W v b) (o:∀ a∈cs,a∈bs):fH cs base W v b:=by
 obtain⟨d,h,i,j,k⟩:=g;exact⟨d,h,i,λe l q p a n c f m=>j e l q p a n c f (o _ m),k⟩
theorem fH.fresh {bs cs:List Nat} {base B:Nat} {W:y4} {v:y5} {b:List aH} (u:fH bs base W v b) (C:∀ a,v.ownBlock=M a->gE 7 5 b.length B W a/\gE 7 6 b.length B W a) (p:∀ a∈cs,a<B):fH cs base W v b:=by
 obtain⟨h,i,e,P,x⟩:=u;refine⟨h,i,e,λc y U r l n m a q=>?_,x⟩;obtain⟨k,j⟩:=aHK.1 y;have A:=(aGw.1 j).1;obtain⟨d,E⟩:=aV (f:=b) (k:=k) (by rw[<- e.len];exact A);have R:=e.len;rcases i.2 with ⟨_,N⟩|⟨g,K,L,s,_⟩
 ·omega
 obtain⟨F,G⟩:=C g (by rw[s];rfl);subst s;obtain⟨T,t,rfl,⟨H,rfl,S,_⟩,Q,_⟩:=e.each k c d j E;have o:∀ c w,c<7->([Y Z d.Id,Y Z d.P.B,Y Z d.P.D,Y Z d.P.C,Y Z d.P.E,H,t]:List y5)[c]?=M w->W ⟨g,k*7+c,J⟩=M w:=λc w z D=>by
  have a:h.flatten[k*7+c]?=M w:=by rw[Nx h e.seven k c z,j];exact D
  have:=i.cells (g:=g) rfl (k*7+c) w a;rw[uS] at this;rwa [aGx] at this
 simp only[aGd,aH9,aH1,aHa,or_false] at r;rcases r with rfl|rfl|rfl|rfl|rfl|rfl|rfl
 ·cases a
 ·cases a
 ·cases a
 ·cases a
 ·cases a
 ·subst a;have:=F.2 k (by omega) l n m (o 5 _ (by omega) rfl);have:=p _ q;omega
 subst a;have:=G.2 k (by omega) l n m (o 6 _ (by omega) rfl);have:=p _ q;omega
theorem iM.fresh {bs cs:List Nat} {W:y4} {g B:Nat} {l:List Queue} (a:iM bs W g l) (v:gE 3 2 l.length B W g) (t:∀ b∈cs,b<B):iM (bs++cs) W g l:=by
 obtain⟨w,e,s⟩:=a;refine⟨w,e,λi x f=>?_⟩;obtain⟨j,k,o,q,p,d,r,h⟩:=s i x f;refine⟨j,k,o,q,p,d,r,λb n m c u=>?_⟩;rcases aH1.1 u with a|a
 ·exact h b n m c (by rw[a];exact aHv ..)
 rcases aGe.1 a with a|a
 ·exact h b n m c (aGc _ a)
 subst c;have:=v.2 i (aGw.1 f).1 b n m (e.cell d);have:=t _ a;omega
def cH (ex:List Nat) (B:Nat) (W:y4) (u v:y5) (l:List Queue) (b:List aH):Prop:=
 ∃ a c,u=O (M ⟨a,0,J⟩) l.length c/\l.length<=c/\c<=9223372036854775807/\l.length<=5/\b.length<=12/\B<=a/\a<W.heap.size/\a∉ex/\Am b/\(∀ c∈l,c.Cap≠[])/\
  fH (a::(ex++List.range B)) B W v b/\(∀ c,v.ownBlock=M c->a≠c/\c∉ex)/\iM (v.ownBlock.toList++(ex++List.range B)) W a l
theorem cH.tree {ex:List Nat} {B:Nat} {W:y4} {u v:y5} {l:List Queue} {b:List aH} (a:cH ex B W u v l b):aK W u l:=by
 obtain⟨h,g,rfl,c,d,e,_,_,_,_,_,_,_,_,f⟩:=a;exact f.v c d e
theorem cH.books {ex:List Nat} {B:Nat} {W:y4} {u v:y5} {l:List Queue} {b:List aH} (a:cH ex B W u v l b):aS W v b:=by
 obtain⟨f,e,rfl,g,h,i,c,_,_,_,_,_,d,_,j⟩:=a;exact d.v c
theorem cH.e {ex:List Nat} {B:Nat} {W W':y4} {u v:y5} {l:List Queue} {b:List aH} (e:cH ex B W u v l b) (a:d7 W W'):cH ex B W' u v l b:=by
 obtain⟨d,c,rfl,f,h,i,g,m,r,k,n,j,p,o,q⟩:=e;exact⟨d,c,rfl,f,h,i,g,m,aGs r a.size,k,n,j,p.e a,o,q.e a⟩
theorem mJ {B r:Nat} (a:r∈List.range B):r<B:=aGN.1 a
theorem cH.low {ex ex2:List Nat} {B B2:Nat} {W:y4} {u v:y5} {l:List Queue} {b:List aH} (a:cH ex B W u v l b) (hb:B2<=B) (e:∀ c∈ex2,c∈ex):cH ex2 B2 W u v l b:=by
 obtain⟨i,h,rfl,j,m,n,k,w,t,p,q,o,r,f,s⟩:=a;have g:∀ c,c∈ex2++List.range B2->c∈ex++List.range B:=λc d=>by
  rcases aGe.1 d with a|a
  ·exact aHV _ (e c a)
  exact aHW _ (aGN.2 (by have:=mJ a;omega))
 refine⟨i,h,rfl,j,m,n,k,by omega,t,λa=>p (e _ a),q,o,(r.low hb).sub (λc d=>?_),λc d=>⟨(f c d).1,λa=>(f c d).2 (e _ a)⟩,s.less (λc d=>?_)⟩
 ·rcases aH1.1 d with a|a
  ·rw[a];exact aHv ..
  exact aGc _ (g c a)
 rcases aGe.1 d with a|a
 ·exact aHV _ a
 exact aHW _ (g c a)
theorem cH.uform {ex:List Nat} {B:Nat} {W:y4} {u v:y5} {l:List Queue} {b:List aH} (d:cH ex B W u v l b):∃ a c,u=O (M ⟨a,0,J⟩) l.length c/\B<=a/\a<W.heap.size:=by
 obtain⟨a,c,rfl,g,i,j,h,e,f,_⟩:=d;exact⟨a,c,rfl,e,f⟩
theorem cH.vform {ex:List Nat} {B:Nat} {W:y4} {u v:y5} {l:List Queue} {b:List aH} (h:cH ex B W u v l b):∃ a f,v=O a b.length f/\∀ a,v.ownBlock=M a->B<=a/\a<W.heap.size:=by
 obtain⟨k,f,rfl,n,p,q,o,t,x,s,w,r,⟨j,e,_⟩,_⟩:=h;rcases e.2 with ⟨d,i⟩|⟨m,g,_,d,_⟩
 ·exact⟨J,0,by rw[d,i],λa c=>e.lt a c⟩
 exact⟨_,g,d,λa c=>e.lt a c⟩
theorem cH.vsome {ex:List Nat} {B:Nat} {W:y4} {u v:y5} {l:List Queue} {b:List aH} (h:cH ex B W u v l b) (k:1<=b.length):∃ a d,v=O (M ⟨a,0,J⟩) b.length d/\B<=a/\a<W.heap.size:=by
 obtain⟨a,d,rfl,_,n,o,m,r,t,q,s,p,⟨i,f,_⟩,_⟩:=h;rcases f.2 with ⟨c,j⟩|⟨e,g,_,c,_⟩
 ·omega
 exact⟨e,g,c,f.lt e (by rw[c];rfl)⟩
theorem cH.vne {ex:List Nat} {B:Nat} {W:y4} {u v:y5} {l:List Queue} {b:List aH} (d:cH ex B W u v l b):∀ a,v.ownBlock=M a->∀ c∈ex,a≠c:=by
 obtain⟨i,h,rfl,j,m,n,k,q,w,p,r,o,s,f,t⟩:=d;exact λa g c e c=>(f a g).2 (c▸e)
theorem fH.low_all {bs:List Nat} {base:Nat} {W:y4} {v:y5} {b:List aH} (a:fH bs base W v b) (p:Am b) {r:Nat} (u:W<=r):fH (r::bs) base W v b:=by
 obtain⟨k,l,g,m,o⟩:=a;refine⟨k,l,g,λe h j i c n d f q=>?_,o⟩;rcases aH1.1 q with a|a
 ·have:=lR g (λt s=>(p t s).1) e h j i c n d f;omega
 exact m e h j i c n d f a
theorem cH.box {ex:List Nat} {B r:Nat} {W:y4} {u v:y5} {l:List Queue} {b:List aH} (a:cH ex B W u v l b) (i:W<=r):cH (r::ex) B W u v l b:=by
 obtain⟨k,j,rfl,m,o,p,n,s,w,q,f,e,h,g,t⟩:=a;have x:∀ c,v.ownBlock=M c->c<W.heap.size:=λc d=>by
  obtain⟨z,y,_⟩:=h;exact(y.lt c d).2
 refine⟨k,j,rfl,m,o,p,n,s,w,λa=>?_,f,e,(h.low_all f i).sub (λc d=>?_),λc d=>⟨(g c d).1,λa=>?_⟩,(t.more e i).less (λc d=>?_)⟩
 ·rcases aH1.1 a with a|a
  ·omega
  exact q a
 ·rcases aH1.1 d with a|a
  ·rw[a];exact aGc _ (aHv ..)
  rcases aH1.1 a with a|a
  ·rw[a];exact aHv ..
  exact aGc _ (aGc _ a)
 ·rcases aH1.1 a with a|a
  ·have:=x c d;omega
  exact(g c d).2 a
 rcases aGe.1 d with a|a
 ·exact aGc _ (aHV _ a)
 rcases aH1.1 a with a|a
 ·rw[a];exact aHv ..
 exact aGc _ (aHW _ a)
theorem cH.under {ex:List Nat} {B r:Nat} {W:y4} {u v:y5} {l:List Queue} {b:List aH} (a:cH ex B W u v l b) (z:r<B):cH (r::ex) B W u v l b:=by
 obtain⟨i,h,rfl,j,m,n,k,q,w,p,s,o,f,e,t⟩:=a;have x:∀ c,v.ownBlock=M c->B<=c:=λc d=>by
  obtain⟨y,g,_⟩:=f;exact(g.lt c d).1
 have g:∀ c,c∈r::ex++List.range B->c∈ex++List.range B:=λc d=>by
  rcases aH1.1 d with a|a
  ·exact aHW _ (aGN.2 (by omega))
  exact a
 refine⟨i,h,rfl,j,m,n,k,q,w,λa=>?_,s,o,f.sub (λc d=>?_),λc d=>⟨(e c d).1,λa=>?_⟩,t.less (λc d=>?_)⟩
 ·rcases aH1.1 a with a|a
  ·omega
  exact p a
 ·rcases aH1.1 d with a|a
  ·rw[a];exact aHv ..
  exact aGc _ (g c a)
 ·rcases aH1.1 a with a|a
  ·have:=x c d;omega
  exact(e c d).2 a
 rcases aGe.1 d with a|a
 ·exact aHV _ a
 exact aHW _ (g c a)
theorem fH.keptR {bs:List Nat} {base r:Nat} {W W':y4} {v:y5} {b:List aH} (p:fH bs base W v b) (g:W.grownBy W' (M r)) (x:r∈bs) (z:∀ a,v.ownBlock=M a->a≠r):fH bs base W' v b:=by
 obtain⟨l,q,s,f,t⟩:=p;refine⟨l,?_,qU s g (λk c C y h n i a w=>f k c C y h n i a (by rw[aHf.1 w];exact x)),f,t⟩;obtain⟨B,e⟩:=q;refine⟨B,?_⟩;rcases e with e|⟨d,j,m,a,u,c,A⟩
 ·exact .inl e
 exact .inr ⟨d,j,m,a,u,by rw[g.block d (aGq.1 c).1 (λo=>z d (by rw[a];rfl) (b7 o))];exact c,A⟩
theorem cH.kept {ex:List Nat} {B r:Nat} {W W':y4} {u v:y5} {l:List Queue} {b:List aH} (i:cH ex B W u v l b) (d:W.grownBy W' (M r)) (a:r∈ex):cH ex B W' u v l b:=by
 obtain⟨h,g,rfl,j,m,n,k,p,x,e,s,o,t,f,w⟩:=i;exact⟨h,g,rfl,j,m,n,k,p,aGs x d.size,e,s,o,t.keptR d (aGc _ (aHV _ a)) (λy q c=>(f y q).2 (c▸a)),f,w.kept d (aHW _ (aHV _ a)) (λc=>e (c▸a))⟩
def StS (B:Nat) (W:y4) (u v:y5) (s:aG):Prop:=cH [] B W u v s.K s.F\/(s.K=[]/\s.F=[]/\u=O J 0 0/\v=O J 0 0)
theorem StS.tree {B:Nat} {W:y4} {u v:y5} {s:aG} (a:StS B W u v s):aK W u s.K:=by
 rcases a with a|⟨b,_,rfl,_⟩
 ·exact a.tree
 rw[b];exact SV.nil
theorem StS.books {B:Nat} {W:y4} {u v:y5} {s:aG} (a:StS B W u v s):aS W v s.F:=by
 rcases a with a|⟨_,b,_,rfl⟩
 ·exact a.books
 rw[b];exact SV.nil
theorem StS.e {B:Nat} {W W':y4} {u v:y5} {s:aG} (a:StS B W u v s) (b:d7 W W'):StS B W' u v s:=by
 rcases a with a|a
 ·exact .inl (a.e b)
 exact .inr a
theorem cH.st {ex:List Nat} {B B2:Nat} {W:y4} {u v:y5} {s:aG} (a:cH ex B W u v s.K s.F) (hb:B2<=B):StS B2 W u v s:=.inl (a.low hb (λb b=>by cases b))
theorem aC3 (w:y4) (f c:y5) (s:aG) (t:aK w f s.K) (hb:aS w c s.F) (e:cQ s.K) (i:s.F.length<=12) (k:∀ a∈s.F,bU s.K a) :
  y8 prog 100 #[.agg #[s.G,s.H,f,c]] w λh g=>∃ a b,h=zv (.agg #[s.G,s.H,a,b])/\cH [] w g a b s.K s.F/\d7 w g:=by
 refine(aFk w f c s t hb e i k).m ?_;rintro h g ⟨base,n,m,y,C,rfl,p,q,r,o,z,v,d,u,A,j,x⟩;refine⟨_,_,rfl,⟨n,m,rfl,p,q,e.n5,i,r,by omega,by simp,tY k,sD e,(u.fresh (λb a=>(d b a).2.2) (λb a=>?_)).low o,λb a=>⟨(d b a).1,by simp⟩,?_⟩,x⟩
 ·rcases aH1.1 a with a|a
  ·omega
  have:=mJ (B:=w.heap.size) (by simpa using a);omega
 cases y with
 | none=>exact v.fresh j (λb a=>mJ (by simpa using a))
 | some l=>exact(d l.block rfl).2.1.fresh j (λb a=>mJ (by simpa using a))
theorem Vi {W W':y4} {cs:List y5} {x:aH} {row:Option Nat} (i:fW W cs x) (e:W.grownBy W' row) (j:∀ b,row=M b->∀ a∈cs,bM [b] a):fW W' cs x:=by
 obtain⟨u,d,rfl,⟨f,rfl,m,p,q,r,s⟩,k,t⟩:=i;have c:∀ a∈(Y Z x.Id::([Y Z x.P.B,Y Z x.P.D,Y Z x.P.C,Y Z x.P.E,f]++[d]):List y5),yM a row:=λa o b n g h l=>j b.block l.symm a o b n g h (aHf.2 rfl);exact⟨_,d,rfl,⟨f,rfl,oU m e (c _ (by simp)),p,q,r,s⟩,oU k e (c _ (by simp)),t⟩
theorem fH.snoc {bs:List Nat} {base g n cap:Nat} {W W':y4} {v:y5} {b:List aH} {x:aH} {css:List (List y5)} {cs:List y5}
  (P:W.ownsRow base 80 7 v b.length css.flatten) (o:fP W css b) (z:oJ bs css) (A:∀ g,v.ownBlock=M g->oJ [g] css) (K:∀ d∈css,∀ a∈d,∀ c n f,a=O (M c) n f->c.block<W.heap.size)
  (C:fW W cs x) (r:∀ a∈cs,∀ c n f,a=O (M c) n f->c.block<W.heap.size/\c.block∉bs/\∀ h,v.ownBlock=M h->c.block≠h)
  (N:W'.ownsRow base 80 7 (O (M ⟨g,0,J⟩) n cap) n (css.flatten++cs)) (L:n=b.length+1) (D:W.grownBy W' v.ownBlock) (F:v.ownBlock=M g\/g=W.heap.size) :
  fH bs base W' (O (M ⟨g,0,J⟩) n cap) (b++[x]):=by
 subst L;have q:∀ d∈css++[cs],∀ a∈d,(∀ c n f,a=O (M c) n f->c.block<W.heap.size)/\bM bs a/\∀ h,v.ownBlock=M h->bM [h] a:=λd k a e=>by
  rcases aGe.1 k with i|i
  ·exact⟨K d i a e,z d i a e,λh p=>A h p d i a e⟩
  rw[aHf.1 i] at e;exact⟨λc n f j=>(r a e c n f j).1,λc n f j=>(r a e c n f j).2.1,λh p c n f j s=>(r a e c n f j).2.2 h p (aHf.1 s)⟩
 refine⟨css++[cs],by rw[aHS,aGb];simpa using N,⟨by rw[aGb,aGb,o.len];rfl,λt d w l m=>?_⟩,λd k a e=>(q d k a e).2.1,λy E d k a e=>?_⟩
 ·have B:fW W d w:=by
   by_cases u:t<b.length
   ·rw[aHI (by rw[o.len];exact u)] at l;rw[aHI u] at m;exact o.each t d w l m
   have H:=(aGw.1 m).1;have G:t=b.length:=by simp at H;omega
   subst G;rw[aHJ (by rw[o.len];omega),o.len] at l;rw[aHJ (by omega)] at m;simp at l m;subst l;subst m;exact C
  exact Vi B D (λh p a e=>(q d (aGC l) a e).2.2 h p)
 obtain rfl:g=y:=by simpa[aHR] using E
 rcases F with i|i
 ·exact(q d k a e).2.2 g i
 intro c n f j s;have:=(q d k a e).1 c n f j;have:=aHf.1 s;omega
theorem iM.grownR {bs:List Nat} {W W':y4} {g:Nat} {row:Option Nat} {l:List Queue} (n:iM bs W g l) (b:W.grownBy W' row) (c:∀ a,row=M a->a∈bs/\g≠a):iM bs W' g l:=by
 obtain⟨t,o,p⟩:=n;refine⟨t,o.kept b (λa=>(c g a.symm).2 rfl),λr u q=>?_⟩;obtain⟨e,f,h,j,i,a,m,d⟩:=p r u q;exact⟨e,f,h,j,i,a,fB m d b (λs k=>aGc _ (c s k).1),d⟩
theorem iM.newrow {W W':y4} {g g2:Nat} {v:y5} {l:List Queue} {bs:List Nat} (b:iM (v.ownBlock.toList++bs) W g l) (k:∀ a∈l,a.Cap≠[]) (f:W.grownBy W' v.ownBlock) (d:∀ r,v.ownBlock=M r->g≠r) (m:g<W.heap.size) (j:v.ownBlock=M g2\/g2=W.heap.size) :
  iM ([g2]++bs) W' g l/\g≠g2:=by
 have e:=b.grownR f (λr a=>⟨aHV _ (by rw[a];exact aHf.2 rfl),d r a⟩);rcases j with c|c
 ·rw[c] at e;exact⟨e,d g2 c⟩
 refine⟨?_,by omega⟩;have h:=b.more k (r:=g2) (by omega);have i:iM (g2::(v.ownBlock.toList++bs)) W' g l:=h.grownR f (λr a=>⟨aGc _ (aHV _ (by rw[a];exact aHf.2 rfl)),d r a⟩);exact i.less (λr a=>by
  rcases aGe.1 a with b|b
  ·rw[aHf.1 b];exact aHv ..
  exact aGc _ (aHW _ b))
def wL (x:aH):Prop:=(x.P.A≠[]/\x.L≠[])/\(1<=x.P.A.length/\x.P.A.length<=3)/\1<=x.L.length/\x.L.length<=3
theorem Yk {b:List aH} {x:aH} (c:Am b) (d:wL x):Am (b++[x]):=λf e=>by
 rcases aGe.1 e with a|a
 ·exact c f a
 rw[aHf.1 a];exact d
theorem cH.more {ex:List Nat} {B:Nat} {W:y4} {u v:y5} {l:List Queue} {b:List aH} (c:cH ex B W u v l b) (a0:b.length<12) :
  ∃ g:List (List y5),W.ownsRow B 80 7 v b.length g.flatten/\∀ (W1 W':y4) (g2 n cap:Nat) (cs:List y5) (x:aH),d7 W W1->fW W1 cs x->wL x->
   (∀ s∈cs,∀ a n f,s=O (M a) n f->a.block<W1.heap.size/\B<=a.block/\a.block∉ex/\(∀ d,u.ownBlock=M d->a.block≠d)/\∀ d,v.ownBlock=M d->a.block≠d)->
   W'.ownsRow B 80 7 (O (M ⟨g2,0,J⟩) n cap) n (g.flatten++cs)->n=b.length+1->W1.grownBy W' v.ownBlock->(v.ownBlock=M g2\/g2=W1.heap.size)->(∀ d∈ex,d<W1.heap.size)->
   cH ex B W' u (O (M ⟨g2,0,J⟩) n cap) l (b++[x]):=by
 obtain⟨p,cap,rfl,D,E,F,_,P,w,L,r,q,⟨g,y,z,o3,o4⟩,t,U⟩:=c;refine⟨g,y,λW1 W' g2 n cp cs x e H R G T S k m N=>?_⟩;have Q:∀ i∈g,∀ u∈i,∀ a n f,u=O (M a) n f->a.block<W1.heap.size:=λi K u X a n f j=>aGs (lR z (λx e=>(r x e).1) i K u X a n f j) e.size;obtain⟨A,C⟩:=(U.e e).newrow q k (λd o=>(t d o).1) (aGs w e.size) m;refine⟨p,cap,rfl,D,E,F,by rw[aGb];simp;omega,P,aGs (aGs w e.size) k.size,L,Yk r R,q,fH.snoc (aJ y e) (z.m e) o3 o4 Q H (λs V a n' f j=>?_) T S k m,λd o=>?_,A⟩
 ·obtain⟨p1,p2,p3,p4,p5⟩:=G s V a n' f j;refine⟨p1,λh=>?_,p5⟩;rcases aH1.1 h with c|c
  ·exact p4 p rfl c
  rcases aGe.1 c with c|c
  ·exact p3 c
  have:=mJ c;omega
 obtain rfl:g2=d:=by simpa[aHR] using o
 refine⟨C,λh=>?_⟩;rcases m with c|c
 ·exact(t g2 c).2 h
 have:=N g2 h;omega
theorem cH.ofTree {ex:List Nat} {B g cap:Nat} {W:y4} {l:List Queue} (b:iM (ex++List.range B) W g l) (e:l.length<=cap) (f:cap<=9223372036854775807) (c:cQ l) (h:B<=g) (i:g∉ex):cH ex B W (O (M ⟨g,0,J⟩) l.length cap) (O J 0 0) l []:=
 ⟨g,cap,rfl,e,f,c.n5,by simp,h,(by obtain⟨m,a,_⟩:=b;exact a.lt),i,λj a=>(by cases a),sD c,⟨[],aGQ _ _ _ _,⟨rfl,λd d j a=>(by simp at a)⟩,λd a=>(by cases a),λg a=>(by cases a)⟩,λk a=>(by cases a),b⟩
theorem Ft {ex:List Nat} {B e g2 n1 n2 c1 c2:Nat} {W W1:y4} {u v:y5} {x:aH} (q:B<=W) (i:W<=e) (j:W<=g2) (o:e<W1.heap.size) (p:g2<W1.heap.size) (k:∀ a∈ex,a<W.heap.size) (l:∀ a,u.ownBlock=M a->a<W.heap.size) (m:∀ a,v.ownBlock=M a->a<W.heap.size) :
  ∀ s∈([Y Z x.Id,Y Z x.P.B,Y Z x.P.D,Y Z x.P.C,Y Z x.P.E,O (M ⟨e,0,J⟩) n1 c1,O (M ⟨g2,0,J⟩) n2 c2]:List y5),∀ c n f,s=O (M c) n f->c.block<W1.heap.size/\B<=c.block/\c.block∉ex/\(∀ a,u.ownBlock=M a->c.block≠a)/\∀ a,v.ownBlock=M a->c.block≠a:=by
 have h:∀ b,W.heap.size<=b->b<W1.heap.size->b<W1.heap.size/\B<=b/\b∉ex/\(∀ a,u.ownBlock=M a->b≠a)/\∀ a,v.ownBlock=M a->b≠a:=λb d d=>
  ⟨d,by omega,λg=>by have:=k b g;omega,λa d=>by have:=l a d;omega,λa d=>by have:=m a d;omega⟩
 intro s g c n f d;simp only[aH1,aHa,or_false] at g;rcases g with rfl|rfl|rfl|rfl|rfl|rfl|rfl
 ·cases d
 ·cases d
 ·cases d
 ·cases d
 ·cases d
 ·cases d;exact h e i o
 cases d;exact h g2 j p
theorem Fr {α:Type} {f g:α->Int} {W:y4} {b n c:Nat} {xs:List α} (a:SV 2 (E2 f g) W (O (M ⟨b,0,J⟩) n c) xs) (d:xs≠[]):b<W.heap.size:=Km a d ⟨b,0,J⟩ n c rfl
theorem Dg (W:y4) (cs:List y5) (T:o8) (b:cs.length=7):∀ (j:Nat) a,cs[j]?=M a->(W.alloc (zt cs.toArray T)) ((⟨W,0,J⟩:Addr).add j)=M a:=
 (aDS W cs T b).cells (g:=W.heap.size) rfl
theorem gM {W W':y4} {row:Option Nat} {b o:Nat} {u:y5} (e:W.grownBy W' row) (c:W ⟨b,o,J⟩=M u) (hb:∀ d,row=M d->d≠b):W' ⟨b,o,J⟩=M u:=by
 rw[aHm (a:=⟨b,o,J⟩) (e.block b (aGp _ ⟨b,o,J⟩ c) (λd=>hb b d.symm rfl))];exact c
theorem eH {W:y4} {a b c d e f g:y5} {t:o8} {B:Nat} (h:W.heap[B]?=M (zt #[a,b,c,d,e,f,g] t (0,0))) :
  W ⟨B,0,J⟩=M a/\W ⟨B,1,J⟩=M b/\W ⟨B,2,J⟩=M c/\W ⟨B,3,J⟩=M d/\W ⟨B,4,J⟩=M e/\W ⟨B,5,J⟩=M f/\W ⟨B,6,J⟩=M g/\(∀ i,W.frozen? ⟨B,i,J⟩=false):=
 ⟨y6 W B 0 _ _ _ h,y6 W B 1 _ _ _ h,y6 W B 2 _ _ _ h,y6 W B 3 _ _ _ h,y6 W B 4 _ _ _ h,y6 W B 5 _ _ _ h,y6 W B 6 _ _ _ h,λi=>x4 W B i _ _ h⟩
theorem size80:(prog.info? 80).map (·.size)=M 7:=by kernel_rfl
theorem Cs {W:y4} {b:Nat} {c d e f a0 a1 a2 a3:y5} {T:o8} (a:W.heap[b]?=M (zt #[c,d,e,f] T (0,0))) :
  ((((W.setCell ⟨b,0,J⟩ a0).setCell ⟨b,1,J⟩ a1).setCell ⟨b,2,J⟩ a2).setCell ⟨b,3,J⟩ a3).heap[b]?=M (zt #[a0,a1,a2,a3] T (0,0)):=
 x6 _ b 3 _ _ _ (x6 _ b 2 _ _ _ (x6 _ b 1 _ _ _ (x6 _ b 0 _ _ _ a)))
theorem vP (W:y4) (b:Nat) (a0 a1 a2 a3:y5):W.grownBy ((((W.setCell ⟨b,0,J⟩ a0).setCell ⟨b,1,J⟩ a1).setCell ⟨b,2,J⟩ a2).setCell ⟨b,3,J⟩ a3) (M b):=
 bT (bT (bT (aN W b 0 a0) (aN _ b 1 a1)) (aN _ b 2 a2)) (aN _ b 3 a3)
def gQ:aG:=⟨0,0,[],[]⟩
def Mq (s:aG) (r:aF) (b:List bK):aG:=⟨s.G,s.H+1,s.K,s.F++[⟨s.H,r,b⟩]⟩
@[irreducible] noncomputable def aW (s:aG) (r:aF):aG × Int × Int:=
 if nO s r≠0 then(gQ,0,nO s r) else if s.F.length=12\/s.H=1048576 then(gQ,0,2) else if cA (kJ s r) r=[] then(gQ,0,8) else(Mq s r (cA (kJ s r) r),s.H,0)
theorem pJ {s:aG} {r:aF} (a:nO s r≠0):aW s r=(gQ,0,nO s r):=by unfold aW;rw[c7 a]
theorem vD {s:aG} {r:aF} (a:nO s r=0) (b:s.F.length=12\/s.H=1048576):aW s r=(gQ,0,2):=by unfold aW;rw[d8 (by simp[a]),c7 b]
theorem qK {s:aG} {r:aF} (a:nO s r=0) (b:¬ (s.F.length=12\/s.H=1048576)) (c:cA (kJ s r) r=[]):aW s r=(gQ,0,8):=by unfold aW;rw[d8 (by simp[a]),d8 b,c7 c]
theorem rD {s:aG} {r:aF} (a:nO s r=0) (b:¬ (s.F.length=12\/s.H=1048576)) (c:cA (kJ s r) r≠[]):aW s r=(Mq s r (cA (kJ s r) r),s.H,0):=by unfold aW;rw[d8 (by simp[a]),d8 b,d8 c]
def dF (w:y4) (x:aG × Int × Int) (e:Ending) (w':y4):Prop:=
 ∃ a b,e=zv (zw #[.agg #[x.1.G,x.1.H,a,b],x.2.1,x.2.2])/\StS w w' a b x.1/\d7 w w'
theorem nP {w w':y4} {x:aG × Int × Int} {s:aG} {n m:Int} {u v:y5} (a:x=(s,n,m)) (b:StS w w' u v s) (c:d7 w w'):dF w x (zv (zw #[.agg #[s.G,s.H,u,v],n,m])) w':=by
 subst a;exact⟨u,v,rfl,b,c⟩
theorem cV {w w':y4} {x:aG × Int × Int} {n m:Int} (a:x=(gQ,n,m)) (b:d7 w w'):dF w x (zv (zw #[.agg #[Y Z 0,Y Z 0,O J 0 0,O J 0 0],n,m])) w':=
 nP (s:=gQ) a (.inr ⟨rfl,rfl,rfl,rfl⟩) b
theorem bC {P:o9} {fn:Func} {p u1 u2:Tmp} {a:o8} (b:fn.results=#[.cell p a,.tmp u1,.tmp u2]) (tmps:Array y5) (w:y4) (g:Nat) (t:o8) (cs:Array y5) (fr:Nat × Nat) (d:TypeDesc)
  (h:tmps.getD p u5=zz (M ⟨g,0,J⟩)) (e:w.heap[g]?=M (zt cs t fr))
  (j:P.underlying a=M d) (c:(match d with|.struct _|.array _ _=>true|_=>false)=true) (f:(P.info? a).map (·.size)=M cs.size) :
  (results fn tmps).run P w=.ok (zw #[.agg cs,tmps.getD u1 u5,tmps.getD u2 u5]) w:=by
 have i:tmps[p]?.getD u5=zz (M ⟨g,0,J⟩):=by simpa using h
 simp[results,b,i,asAddr,run_loadVar_row w g t a cs fr d e j c f]
theorem jP (w:y4) (s:aG) (r:aF) (d b c:y5):∃ a:y4,((w.alloc (zt #[s.G,s.H,d,b] 34)).alloc (zt #[r.B,r.D,r.C,r.E,c] 77)).alloc (zt #[Y Z 0,Y Z 0,O J 0 0,O J 0 0] 34)=a/\d7 w a/\(∀ W,d7 a W->(W ⟨w,0,J⟩=M (Y Z s.G)/\W ⟨w,1,J⟩=M (Y Z s.H)/\W ⟨w,2,J⟩=M d/\W ⟨w,3,J⟩=M b))/\
  (∀ W,d7 a W->(W ⟨w+1,0,J⟩=M (Y Z r.B)/\W ⟨w+1,1,J⟩=M (Y Z r.D)/\W ⟨w+1,2,J⟩=M (Y Z r.C)/\W ⟨w+1,3,J⟩=M (Y Z r.E)/\W ⟨w+1,4,J⟩=M c))/\
  (∀ W,d7 a W->W.heap[w.heap.size+1+1]?=M (zt #[Y Z 0,Y Z 0,O J 0 0,O J 0 0] 34 (0,0)))/\a.heap.size=w.heap.size+3:=by
 refine⟨_,rfl,(((b8 w).a _).a _).a _,λW a=>dY ((((b8 _).a _).a _).r a),λW a=>?_,λW a=>?_,by simp⟩
 ·have:=eS (((b8 _).a _).r a);rwa [aHb] at this
 have e:=y7 ((w.alloc (zt #[s.G,s.H,d,b] 34)).alloc (zt #[r.B,r.D,r.C,r.E,c] 77)) (zt #[Y Z 0,Y Z 0,O J 0 0,O J 0 0] 34);simp only[aHb] at e;exact(a.block _ (by simp)).trans e
theorem aBe (w:y4) (d a c:y5) (s:aG) (r:aF) (g:aK w d s.K) (hb:aS w a s.F) (h:aM w c r.A) (f:nO s r≠0) :
  y8 prog 92 #[.agg #[s.G,s.H,d,a],.agg #[r.B,r.D,r.C,r.E,c]] w (dF w (aW s r)):=by
 have F:=I (λ(W:y4) (e:d7 w W)=>tK W d a c s r (g.m e) (hb.m e) (h.m e));obtain⟨Q,m,j,v,u,l,G⟩:=jP w s r d a c;obtain⟨k,z,x⟩:=zq j l m;clear j v u m l;have t:=I (pJ f);have E:=neT f;obtain⟨N,P,rfl,_,_,_⟩:=g.i;obtain⟨B,C,rfl,_,_,_⟩:=hb.i;obtain⟨H,K,rfl,_,_,_⟩:=h.i;clear g hb h f;generalize nO s r=A at *;generalize s.K.length=n at *;generalize s.F.length=R at *;generalize r.A.length=L at *;go_enter func92,ntmps92;go_wp2_with fail;rw[x.o];refine(F _ k).m ?_;rintro D p ⟨rfl,o⟩;obtain⟨i,y⟩:=zr (z p o) ((k.r o).sr (b:=w+1+1) (by omega) #[Y Z 0,Y Z 0,O J 0 0,O J 0 0]);have q:=I (x5 p (w+1+1) _ #[Y Z 0,Y Z 0,O J 0 0,O J 0 0] _ _ i);go_wp2_with (refine z6 (w+1+1) #[Y Z 0,Y Z 0,O J 0 0,O J 0 0] i ?_);exact v6 (bC (u1:=5) (u2:=6) rfl _ _ (w+1+1) 34 #[Y Z 0,Y Z 0,O J 0 0,O J 0 0] (0,0) _ rfl q underlying34 rfl size34) rfl (cV t y)
theorem Zy (w:y4) (d a c:y5) (s:aG) (r:aF) (g:aK w d s.K) (hb:aS w a s.F) (h:aM w c r.A) (f:nO s r=0) (C:s.F.length=12\/s.H=1048576) :
  y8 prog 92 #[.agg #[s.G,s.H,d,a],.agg #[r.B,r.D,r.C,r.E,c]] w (dF w (aW s r)):=by
 have F:=I (λ(W:y4) (e:d7 w W)=>tK W d a c s r (g.m e) (hb.m e) (h.m e));obtain⟨wb,q,m,l,x,p,S⟩:=jP w s r d a c;obtain⟨o,y,B,z⟩:=zp m l p q;clear m l x q p;have v:=I (vD f C);rw[f] at F;obtain⟨X,qc,rfl,_,_,_⟩:=g.i;obtain⟨P,Q,rfl,_,_,_⟩:=hb.i;obtain⟨T,U,rfl,_,_,_⟩:=h.i;clear g hb h f;generalize s.K.length=n at *;generalize s.F.length=G at *;generalize r.A.length=V at *;go_enter func92,ntmps92;go_wp2_with fail;rw[z.o];refine(F _ o).m ?_;rintro R j ⟨rfl,i⟩;obtain⟨H,K,L,N⟩:=y j i;obtain⟨k,A⟩:=zr (B j i) ((o.r i).sr (b:=w+1+1) (by omega) #[Y Z 0,Y Z 0,O J 0 0,O J 0 0]);have u:=I (x5 j (w+1+1) _ #[Y Z 0,Y Z 0,O J 0 0,O J 0 0] _ _ k);by_cases t:(G:Int)=12;have E:=eqT t;rotate_left;have D:s.H=1048576:=by omega
 have E:=eqF t;have t2:=eqT D
 all_goals
  go_wp2_with (refine z6 (w+1+1) #[Y Z 0,Y Z 0,O J 0 0,O J 0 0] k ?_);exact v6 (bC (u1:=5) (u2:=6) rfl _ _ (w+1+1) 34 #[Y Z 0,Y Z 0,O J 0 0,O J 0 0] (0,0) _ rfl u underlying34 rfl size34) rfl (cV v A)
theorem Zx (w:y4) (tv V U:y5) (s:aG) (r:aF) (hl:aK w tv s.K) (hb:aS w V s.F) (hp:aM w U r.A) (hI:I64 r.B/\I64 r.D/\I64 r.C/\I64 r.E) (h0:nO s r=0) (A:¬ (s.F.length=12\/s.H=1048576)) :
  y8 prog 92 #[.agg #[s.G,s.H,tv,V],.agg #[r.B,r.D,r.C,r.E,U]] w (dF w (aW s r)):=by
 have F:=I (λ(W:y4) (d:d7 w W)=>tK W tv V U s r (hl.m d) (hb.m d) (hp.m d));obtain⟨wb,bz,HX,bc,bb,bh,dk⟩:=jP w s r tv V U;obtain⟨bd,aj,ba,bg,cv⟩:=zm HX bc bb bh bz;clear HX bc bb bz bh;obtain⟨HN,HI⟩:=zr (qK h0 A) (rD h0 A);rw[h0] at F;obtain⟨hs,aq,g1,h,bl,_⟩:=aAF h0;obtain⟨ok,au,ax⟩:=eR hs;obtain⟨m1,m3⟩:=aq.many;obtain⟨_,ay,_⟩:=cD (bS hs).1;obtain⟨RI,PI,OW,OR⟩:=zp (λ(W:y4) (d:d7 w W)=>Ca W tv V s.K s.F r.B (hl.m d) (hb.m d) ok ax au g1 h) (λ(W:y4) (K:y5) (d:d7 w W) (hu:aR W K (aY (eQ s.K s.F r.B)))=>show y8 prog 142 #[K,.agg #[r.B,r.D,r.C,r.E,U]] W (rY W (cA (kJ s r) r)) from aEI W K U _ r hu (hp.m d) bl aq) (λ(W:y4) (d:d7 w W)=>aC3 W tv V s (hl.m d) (hb.m d) ok au ax) (λ(W:y4) (d:d7 w W)=>Ov W U r (hp.m d) m1 m3);have t1:=eqF (a:=(s.F.length:Int)) (b:=12) (λd=>A (.inl (by omega)));have t2:=eqF (a:=s.H) (b:=1048576) (λd=>A (.inr d));have di:0<=s.H/\s.H<1048576:=⟨ay.2.2.1,by have:=ay.2.2.2;have:s.H≠1048576:=λd=>A (.inr d);omega⟩;have d4:s.F.length<12:=by have:s.F.length≠12:=λd=>A (.inl d);omega
 obtain⟨co,b6,ah,ce⟩:=zp (And.intro m1 m3) (show r.A≠[] from λd=>by rw[d] at m1;exact absurd m1 (by decide)) hI (λd:cA (kJ s r) r≠[]=>(⟨g1,h,sM aq d⟩:bU s.K ⟨s.H,r,cA (kJ s r) r⟩).many.2);obtain⟨qa,qc,rfl,_,_,_⟩:=hl.i;obtain⟨cR,d0,rfl,_,_,_⟩:=hb.i;obtain⟨pa,pc,rfl,_,_,_⟩:=hp.i;clear hl hb hp h0 hs aq bl ok au ax A g1 h ay m1 m3 hI;generalize cA (kJ s r) r=y at *;generalize eQ s.K s.F r.B=db at *;generalize aW s r=sr at *;generalize bv:s.K.length=n at *;generalize bk:s.F.length=e at *;generalize bw:r.A.length=C at *;obtain⟨cq,af,cr⟩:=zq bv bk bw;clear bv bk bw;go_enter func92,ntmps92;go_wp2_with fail;rw[cv.o];refine(F _ bd).m ?_;rintro g w2 ⟨rfl,ac⟩;obtain⟨bQ,d3⟩:=zr (bd.r ac) ac;obtain⟨a0,a1,a2,a3⟩:=aj w2 ac;obtain⟨c0,c1,c2,c3,c4⟩:=ba w2 ac;clear ac;go_wp2_with fail
 go_region_held3 (λt=>(t ⟨w,2,J⟩=M (O qa n qc)/\t ⟨w,3,J⟩=M (O cR e d0)/\t ⟨w+1,0,J⟩=M (Y Z r.B)/\t ⟨w+1,1,J⟩=M (Y Z r.D)/\t ⟨w+1,2,J⟩=M (Y Z r.C)/\t ⟨w+1,3,J⟩=M (Y Z r.E)/\t ⟨w+1,4,J⟩=M (O pa C pc)))
  (first
   | go_keep
   | (
     go_split_ands
     exact⟨c.c (by assumption),c.c (by assumption),c.c (by assumption),c.c (by assumption),c.c (by assumption),c.c (by assumption),c.c (by assumption)⟩))
  (first
   | (go_at_call 98;refine(RI _ bQ.dr).m ?_;rintro g k ⟨K,rfl,hu,c⟩;obtain⟨p,q,rfl,_,_,_⟩:=hu.i;have j:=I hu;have a5:=I (bQ.dr.r c);have aa:=I (d3.dr.r c);clear hu;generalize (aY db).length=l at *)
   | (go_at_call 142;refine(PI _ _ a5 j).m ?_;rintro g W2 ⟨u,rfl,i,f,c⟩;have HV:=I i;have ai:=I f;have al:=I (a5.r c);have a9:=I (aa.r c);clear i f))
 clear a0 a1 a2 a3 c0 c1 c2 c3 c4;by_cases X:y=[]
 ·obtain rfl:=ai.1 X;have HR:=I (HN X);clear HN HI HV ai;have he:∀ W,Sem.run prog (binOp .eql 78 (O J 0 0) (O J 0 0)) W=.ok (zx true) W:=λW=>rfl;obtain⟨c,i⟩:=zr (bg W2 a9) (al.sr (b:=w+1+1) (by omega) #[Y Z 0,Y Z 0,O J 0 0,O J 0 0]);have f:=I (x5 W2 (w+1+1) _ #[Y Z 0,Y Z 0,O J 0 0,O J 0 0] _ _ c)
  go_wp2_with (refine z6 (w+1+1) #[Y Z 0,Y Z 0,O J 0 0,O J 0 0] c ?_);exact v6 (bC (u1:=5) (u2:=6) rfl _ _ (w+1+1) 34 #[Y Z 0,Y Z 0,O J 0 0,O J 0 0] (0,0) _ rfl f underlying34 rfl size34) rfl (cV HR i)
 have HR:=I (HI X);obtain⟨va,L,rfl,dm,dn,dp,bx⟩:=mN HV;have c6:1<=y.length:=aHX.2 X;obtain⟨k,N,rfl,dl,hE⟩:=bx c6;obtain⟨cc,b4⟩:=zr (ai.2 _ _ _ rfl) X;clear HN HI ai bx hE X;generalize c8:y.length=m at *;have Hm:=I c8;clear c8;have he:∀ W,Sem.run prog (binOp .eql 78 (O (M ⟨k,N,J⟩) m L) (O J 0 0)) W=.ok (zx false) W:=λW=>rfl;obtain⟨a0,a1,a2,a3⟩:=aj W2 a9
 go_wp2_with fail;refine(OW _ al).m ?_;rintro g c ⟨u7,v7,rfl,a4,ad⟩;clear a0 a1 a2 a3;obtain⟨j,q,rfl,bm,bp⟩:=a4.uform;obtain⟨G,H,rfl,b0⟩:=a4.vform;rw[af.o] at a4 b0 ⊢;rw[cq.o] at a4 ⊢;obtain⟨cz,cE,a8,cd⟩:=zp (al.r ad) (a9.r ad) b0 (And.intro bm bp);obtain⟨l,an⟩:∃ l,(c.alloc (zt #[Y Z 0,Y Z 0,O J 0 0,O J 0 0] 34)).setRow c #[s.G,s.H,O (M ⟨j,0,J⟩) n q,O G e H]=l:=⟨_,rfl⟩;have ae:d7 c l:=an▸((b8 c).a _).sr (b:=c) (aGi _) _;have ab:l.heap[c.heap.size]?=M (zt #[s.G,s.H,O (M ⟨j,0,J⟩) n q,O G e H] 34 (0,0)):=an▸x5 (c.alloc _) c _ _ _ _ (y7 c _);obtain⟨cu,be,am,cl,b2,ar,cs,ak⟩:=zi an (cz.r ae) (cE.r ae) ((((a4.under (r:=w+1+1) (by have:=a9.size;omega)).low (B2:=w.heap.size) al.size (λr hr=>hr)).box (aGi _)).e ae) ab (show c.heap.size<l.heap.size from (aGq.1 ab).1) ((HV.o:bF W2 _ y).m (ad.r ae)) (And.intro a9.size ad.size);clear ad ae ab an a4 b0 bm bp;go_wp2_with (refine z6 c #[s.G,s.H,O (M ⟨j,0,J⟩) n q,O G e H] (y7 c _) ?_);rw[cu.o];obtain⟨ib,d5,d6,d9,da⟩:=s8 info80;have e3:l ⟨c,3,J⟩=M (O G e H):=y6 _ _ 3 _ _ _ b2;obtain⟨a0,a1,a2,a3⟩:=aj l am;obtain⟨c0,c1,c2,c3,c4⟩:=ba l am;obtain⟨d1,o1,br⟩:=cl.more (by rw[af.o];exact d4);rw[af.o] at o1;obtain⟨ch,cf⟩:=zr o1 br;clear o1 br;have az:∀ a6,(O G e H).ownBlock=M a6->w.heap.size+1+1<a6:=λa6 hk=>by have:=(a8 a6 hk).1;have:=ak.1;omega
 refine cN 11 (λW=>W ⟨c,3,J⟩=M (O G e H)/\W ⟨w,1,J⟩=M (Y Z s.H)/\W ⟨w+1,0,J⟩=M (Y Z r.B)/\W ⟨w+1,1,J⟩=M (Y Z r.D)/\W ⟨w+1,2,J⟩=M (Y Z r.C)/\W ⟨w+1,3,J⟩=M (Y Z r.E)/\W ⟨w+1,4,J⟩=M (O pa C pc)) (by kernel_rfl) ⟨e3,a1,c0,c1,c2,c3,c4⟩ (λR=>?_);clear e3 a0 a1 a2 a3 c0 c1 c2 c3 c4;refine tkT 0 ?_;refine tkT 1 ?_;refine tkT 2 ?_;refine tkT 3 ?_;refine tkT 4 ?_;refine tkT 6 ?_;refine goT 5 λP x=>?_;simp only[zA,zB,zC];go_simp;refine(OR _ be.dr).m ?_;rintro g v ⟨i,Q,rfl,d2,bu,E⟩
 go_wp2_with fail;refine x.out _ _ ?_ (λR=>?_)
 ·(obtain⟨T,u,S,k3,k4,k5,k6⟩:=R;exact⟨E.c T,E.c u,E.c S,E.c k3,E.c k4,E.c k5,E.c k6⟩)
 clear x P;refine tkT 7 ?_;refine goT 8 λP x=>?_;simp only[zA,zB,zC];go_simp;refine x.out _ _ ?_ (λR=>?_)
 ·(obtain⟨T,u,S,k3,k4,k5,k6⟩:=R;have f:=(b8 v).a (zt #[s.H,r.B,r.D,r.C,r.E,O (M ⟨i,0,J⟩) C Q,O (M ⟨k,N,J⟩) m L] 80);exact⟨f.c T,f.c u,f.c S,f.c k3,f.c k4,f.c k5,f.c k6⟩)
 clear x P;have c5:d7 l v:=(b8 l).dr.r E;have av:=c5.a (zt #[s.H,r.B,r.D,r.C,r.E,O (M ⟨i,0,J⟩) C Q,O (M ⟨k,N,J⟩) m L] 80);have dj:c.heap.size<v.heap.size:=aGs ar c5.size;obtain⟨bf,cn,ct,a7,cg⟩:=zm (be.r av) (bu.m ((b8 v).a (zt #[s.H,r.B,r.D,r.C,r.E,O (M ⟨i,0,J⟩) C Q,O (M ⟨k,N,J⟩) m L] 80))) ((cs.o:bF l _ y).m av) av (Dg v [Y Z s.H,Y Z r.B,Y Z r.D,Y Z r.C,Y Z r.E,O (M ⟨i,0,J⟩) C Q,O (M ⟨k,N,J⟩) m L] 80 rfl);refine goT 9 λP x=>?_;simp only[zA,zB,zC];rw[c7 (by rfl)];refine wp_append_lies _ _ _ _ (by rfl) w 80 ib _ 7 88 underlying32 d5 d6 d9 da rfl (by decide) (O G e H) e d1.flatten (by rfl) (aJ ch a7) ⟨v,0,J⟩ 1 1 [Y Z s.H,Y Z r.B,Y Z r.D,Y Z r.C,Y Z r.E,O (M ⟨i,0,J⟩) C Q,O (M ⟨k,N,J⟩) m L] (by rfl) (by rfl) cg (by simp[aGr]) (by omega) (by unfold o0;omega) (by omega) bf.size (v+1) (by simp) ?_;intro h p z bt ap bq dh;have D:∀ (b:Nat) (o:Nat) (K:y5),(v.alloc (zt #[s.H,r.B,r.D,r.C,r.E,O (M ⟨i,0,J⟩) C Q,O (M ⟨k,N,J⟩) m L] 80)) ⟨b,o,J⟩=M K->(b<=w+1\/b=c.heap.size)->z ⟨b,o,J⟩=M K:=λb o K d hb=>by
  rw[aHm (a:=⟨b,o,J⟩) (ap.block b (aGp _ ⟨b,o,J⟩ d) (λg=>by have A:=az b g.symm;have B:=(a8 b g.symm).2;omega))];exact d
 refine x.out _ _ ?_ (λR=>?_)
 ·(obtain⟨T,u,S,k3,k4,k5,k6⟩:=R;exact⟨D _ _ _ T (.inr rfl),D _ _ _ u (.inl (by omega)),D _ _ _ S (.inl (by omega)),D _ _ _ k3 (.inl (by omega)),D _ _ _ k4 (.inl (by omega)),D _ _ _ k5 (.inl (by omega)),D _ _ _ k6 (.inl (by omega))⟩)
 clear x P;have aw:z.heap[c.heap.size]?=M (zt #[s.G,s.H,O (M ⟨j,0,J⟩) n q,O G e H] 34 (0,0)):=
  (ap.block c (by simp;omega) (λg=>by have B:=(a8 _ g.symm).2;omega)).trans ((a7.block _ ar).trans b2)
 have f3:=x4 z c 3 _ _ aw;obtain⟨b1,b5,ag,b3⟩:=zp aw bt ap bq;clear bt ap bq D aw;refine tkT 10 ?_;refine laT λP x=>?_;simp only[zA,zB,zC];obtain⟨T,_⟩:=R;go_simp;refine x.out _ _ ?_;clear x P;have bn:=aN z c 3 (O (M ⟨h,0,J⟩) (e+1) p);have bi:cH [c.heap.size,w.heap.size+1+1] w z (O (M ⟨j,0,J⟩) n q) (O (M ⟨h,0,J⟩) (e+1) p) s.K (s.F++[⟨s.H,r,y⟩]):=by
  refine cf _ z h (e+1) p [Y Z s.H,Y Z r.B,Y Z r.D,Y Z r.C,Y Z r.E,O (M ⟨i,0,J⟩) C Q,O (M ⟨k,N,J⟩) m L] ⟨s.H,r,y⟩ a7 ⟨_,_,rfl,⟨_,rfl,by have d:=cn.o;exact d,ah.1,ah.2.1,ah.2.2.1,ah.2.2.2⟩,ct,⟨by show -9223372036854775808<=s.H;omega,by show s.H<=9223372036854775807;omega⟩⟩ ?_ ?_ b5 (by rw[af.o]) ag (by have d:=b3.o;rw[aHb];exact d) ?_
  ·exact⟨⟨b6.o,b4⟩,by show 1<=r.A.length/\r.A.length<=3;rw[cr.o];exact co,by show 1<=y.length;rw[Hm.o];exact c6,by show y.length<=3;rw[Hm.o];exact ce b4⟩
  ·intro ci S a n' ao g;rw[aHb];have hq:=cd.o;have bj:=cc.o;have c9:=ak.o;have ca:=a5.size;have cb:=aa.size;have h8:=ar.o;have bo:l<=i:=d2;have bR:i<v.heap.size:=by
    rcases bu with ⟨d,_⟩|⟨_,_,_,d,_,_,_,B,_⟩
    ·exact absurd d b6
    cases d;exact B
   simp only[aH1,aHa,or_false] at S;rcases S with rfl|rfl|rfl|rfl|rfl|rfl|rfl
   ·cases g
   ·cases g
   ·cases g
   ·cases g
   ·cases g
   ·cases g;refine⟨by show i<v.heap.size+1;omega,by show w<=i;omega,λd=>?_,λf u=>?_,λf u=>?_⟩
    ·have B:i=c.heap.size\/i=w.heap.size+1+1:=by simpa using d
     omega
    ·have B:j=f:=by simpa[aHR] using u
     show i≠f;omega
    have:=a8 f u;show i≠f;omega
   cases g;refine⟨by show k<v.heap.size+1;omega,by show w<=k;omega,λd=>?_,λf u=>?_,λf u=>?_⟩
   ·have B:k=c.heap.size\/k=w.heap.size+1+1:=by simpa using d
    omega
   ·have B:j=f:=by simpa[aHR] using u
    show k≠f;omega
   have:=a8 f u;show k≠f;omega
  intro f u;rw[aHb];have B:f=c.heap.size\/f=w.heap.size+1+1:=by simpa using u
  have:=ak.o;omega
 obtain⟨u,a5⟩:∃ u,z.setCell ⟨c,3,J⟩ (O (M ⟨h,0,J⟩) (e+1) p)=u:=⟨_,rfl⟩;have ao:u.heap[c.heap.size]?=M (zt #[s.G,s.H,O (M ⟨j,0,J⟩) n q,O (M ⟨h,0,J⟩) (e+1) p] 34 (0,0)):=a5▸x6 z c 3 _ _ _ b1;have dg:w.heap.size+1+1<c.heap.size:=by have:=ak.o;omega
 have bR:d7 w z:=bf.gr ag (λa6 hk=>by have:=az a6 hk;omega);obtain⟨ci,cw⟩:=zr (a5▸bi.kept bn (aHv ..)) (a5▸bR.se (b:=c) (o:=3) (by omega) (O (M ⟨h,0,J⟩) (e+1) p));have hold:∀ b,b<=w.heap.size+1+1->u.heap[b]?=wb.heap[b]?:=λb hb=>by
  have f:b<wb.heap.size:=by omega
  have ab:b<l.heap.size:=by have:=am.size;omega
  rw[<- a5,x7 z ⟨c,3,J⟩ b _ (by show b≠c;omega),ag.block b (by have:=a7.size;omega) (λg=>by have:=az b g.symm;omega),a7.block b ab,am.block b f]
 have cm:=I hold;have c9:=(hold (w+1+1) (aGi _)).trans (bg wb (b8 wb));obtain⟨cF,ca⟩:=zr c9 ao;rw[a5];clear a5 bn bi bR b1 b5 ag b3 T c9;have e1:u ⟨c,1,J⟩=M (Y Z s.H):=y6 _ _ 1 _ _ _ ao;have f1:=x4 u c 1 _ _ ao;have dq:IntKind.i64.wrap (s.H+1)=s.H+1:=by rw[IntKind.wrap_i64];omega
 clear ao hold f3;go_wp2_with fail;obtain⟨f,S⟩:∃ f,u.setCell ⟨c,1,J⟩ (Y Z (s.H+1))=f:=⟨_,rfl⟩;rw[S];have bo:u.grownBy f (M c):=S▸aN u c 1 (Y Z (s.H+1));have aa:f.heap[c.heap.size]?=M (zt #[s.G,Y Z (s.H+1),O (M ⟨j,0,J⟩) n q,O (M ⟨h,0,J⟩) (e+1) p] 34 (0,0)):=S▸x6 u c 1 _ _ _ ca;obtain⟨cj,cx⟩:=zr (ci.kept bo (aHv ..)) (S▸cw.se (b:=c) (o:=1) (by omega) (Y Z (s.H+1)));have B:f.heap[w.heap.size+1+1]?=M (zt #[Y Z 0,Y Z 0,O J 0 0,O J 0 0] 34 (0,0)):=by
  rw[<- S,x7 u ⟨c,1,J⟩ _ _ (by show w.heap.size+1+1≠c.heap.size;omega)];exact cF
 have a1:f ⟨w,1,J⟩=M (Y Z s.H):=by
  obtain⟨_,A,_⟩:=aj wb (b8 wb);rw[<- A];refine aHm (a:=⟨w,1,J⟩) ?_;rw[<- S];exact(x7 u ⟨c,1,J⟩ _ _ (by show w.heap.size≠c.heap.size;omega)).trans (cm w (by omega))
 have dc:f ⟨c,0,J⟩=M (Y Z s.G):=y6 _ _ 0 _ _ _ aa;have dd:f ⟨c,1,J⟩=M (Y Z (s.H+1)):=y6 _ _ 1 _ _ _ aa;have de:f ⟨c,2,J⟩=M (O (M ⟨j,0,J⟩) n q):=y6 _ _ 2 _ _ _ aa;have df:f ⟨c,3,J⟩=M (O (M ⟨h,0,J⟩) (e+1) p):=y6 _ _ 3 _ _ _ aa;have z0:f ⟨w+1+1,0,J⟩=M (Y Z 0):=y6 _ _ 0 _ _ _ B;have z1:f ⟨w+1+1,1,J⟩=M (Y Z 0):=y6 _ _ 1 _ _ _ B;have z2:f ⟨w+1+1,2,J⟩=M (O J 0 0):=y6 _ _ 2 _ _ _ B;have z3:f ⟨w+1+1,3,J⟩=M (O J 0 0):=y6 _ _ 3 _ _ _ B;have y0:=x4 f (w+1+1) 0 _ _ B;have y1:=x4 f (w+1+1) 1 _ _ B;have y2:=x4 f (w+1+1) 2 _ _ B;have y3:=x4 f (w+1+1) 3 _ _ B;have n1:w.heap.size+1+1≠c.heap.size:=by omega
 have n2:w.heap.size+1+1≠w.heap.size:=by omega
 have cL:=I B;clear S bo aa B e1 f1
 go_region_held3 (λt=>(t ⟨c,0,J⟩=M (Y Z s.G)/\t ⟨c,1,J⟩=M (Y Z (s.H+1))/\t ⟨c,2,J⟩=M (O (M ⟨j,0,J⟩) n q)/\t ⟨c,3,J⟩=M (O (M ⟨h,0,J⟩) (e+1) p)/\t ⟨w,1,J⟩=M (Y Z s.H)))
  (go_keep) (fail)
 have t:=cj.kept (vP f (w+1+1) (Y Z s.G) (Y Z (s.H+1)) (O (M ⟨j,0,J⟩) n q) (O (M ⟨h,0,J⟩) (e+1) p)) (aGc _ (aHv ..));have bj:=(((cx.se (b:=w+1+1) (o:=0) (by omega) (Y Z s.G)).se (b:=w+1+1) (o:=1) (by omega) (Y Z (s.H+1))).se (b:=w+1+1) (o:=2) (by omega) (O (M ⟨j,0,J⟩) n q)).se (b:=w+1+1) (o:=3) (by omega) (O (M ⟨h,0,J⟩) (e+1) p);obtain⟨ck,cy,cb⟩:=zq (t.e (b8 _).dr) bj.dr (Cs (a0:=Y Z s.G) (a1:=Y Z (s.H+1)) (a2:=O (M ⟨j,0,J⟩) n q) (a3:=O (M ⟨h,0,J⟩) (e+1) p) cL);clear t bj;go_wp2_with fail;exact v6 (bC (u1:=5) (u2:=6) rfl _ _ (w+1+1) 34 #[s.G,Y Z (s.H+1),O (M ⟨j,0,J⟩) n q,O (M ⟨h,0,J⟩) (e+1) p] (0,0) _ rfl cb underlying34 rfl size34) rfl (nP (s:=Mq s r y) HR (.inl (ck.low (aGi _) (λr hr=>by cases hr))) cy)
theorem aBf (w:y4) (c a b:y5) (s:aG) (r:aF) (e:aK w c s.K) (hb:aS w a s.F) (f:aM w b r.A) (h:I64 r.B/\I64 r.D/\I64 r.C/\I64 r.E) :
  y8 prog 92 #[.agg #[s.G,s.H,c,a],.agg #[r.B,r.D,r.C,r.E,b]] w (dF w (aW s r)):=by
 by_cases d:nO s r=0
 ·by_cases g:s.F.length=12\/s.H=1048576
  ·exact Zy w c a b s r e hb f d g
  exact Zx w c a b s r e hb f h d g
 exact aBe w c a b s r e hb f d
theorem xD (w:y4) (pv bv:y5) (x:aH) (hp:aM w pv x.P.A) (hb:bF w bv x.L) (bj:wL x) :
  y8 prog 114 #[.agg #[x.Id,x.P.B,x.P.D,x.P.C,x.P.E,pv,bv]] w λe d=>∃ a c h j,e=zv (.agg #[x.Id,x.P.B,x.P.D,x.P.C,x.P.E,O (M ⟨a,0,J⟩) x.P.A.length c,O (M ⟨h,0,J⟩) x.L.length j])/\
   w<=a/\w<=h/\aM d (O (M ⟨a,0,J⟩) x.P.A.length c) x.P.A/\bF d (O (M ⟨h,0,J⟩) x.L.length j) x.L/\d7 w d:=by
 obtain⟨_,⟨m1,m3⟩,k1,k3⟩:=bj;obtain⟨ir,bo,bp,bq,br⟩:=s8 info110;obtain⟨it,bt,bu,bw,bx⟩:=s8 info113;obtain⟨K,N,L,rfl,_,_,bR,X⟩:=fN hp m1;obtain⟨va,E,rfl,_,_,_,ar⟩:=mN hb;obtain⟨D,F,rfl,c1,R⟩:=ar k1;obtain⟨bb,bc⟩:=zr (oW X) (oW R);have b4:=I (show ∀ r∈x.P.A,I64 r.Len/\I64 r.N from λr hr=>by
  obtain⟨C,t⟩:=aHK.1 hr;obtain⟨_,_,d,i⟩:=X C r t;exact⟨d,i⟩)
 have b5:=I (show ∀ r∈x.L,I64 r.Piece/\I64 r.At from λr hr=>by
  obtain⟨C,t⟩:=aHK.1 hr;obtain⟨_,_,d,i⟩:=R C r t;exact⟨d,i⟩)
 obtain⟨b6,ba⟩:=zr (gX Piece.Len Piece.N x.P.A) (gX bK.Piece bK.At x.L);clear hp hb X R ar;generalize an:x.P.A.length=d at *;generalize ah:x.L.length=i at *;obtain⟨a9,a5⟩:=zr an ah;clear an ah;obtain⟨o,u⟩:∃ o,(w.alloc (zt #[x.Id,x.P.B,x.P.D,x.P.C,x.P.E,O (M ⟨K,N,J⟩) d L,O (M ⟨D,F,J⟩) i E] 80)).alloc (zt #[Y Z 0,Y Z 0,Y Z 0,Y Z 0,Y Z 0,O J 0 0,O J 0 0] 80)=o:=⟨_,rfl⟩;have au:d7 w o:=u▸((b8 w).a _).a _;have bm:o.heap.size=w.heap.size+1+1:=by rw[<- u];simp
 have ae:o.heap[w.heap.size]?=M (zt #[x.Id,x.P.B,x.P.D,x.P.C,x.P.E,O (M ⟨K,N,J⟩) d L,O (M ⟨D,F,J⟩) i E] 80 (0,0)):=by
  rw[<- u];exact(((b8 _).a _).block _ (by simp)).trans (y7 w _)
 have az:o.heap[w.heap.size+1]?=M (zt #[Y Z 0,Y Z 0,Y Z 0,Y Z 0,Y Z 0,O J 0 0,O J 0 0] 80 (0,0)):=by
  rw[<- u];have:=y7 (w.alloc (zt #[x.Id,x.P.B,x.P.D,x.P.C,x.P.E,O (M ⟨K,N,J⟩) d L,O (M ⟨D,F,J⟩) i E] 80)) (zt #[Y Z 0,Y Z 0,Y Z 0,Y Z 0,Y Z 0,O J 0 0,O J 0 0] 80);rwa [aHb] at this
 obtain⟨aa,P,a3,ac⟩:=zp u au ae az;clear u au ae az;go_enter func114,ntmps114;have V:=mC o 110 2 (by omega);rw[bm] at V;have a6:=I V;clear V;go_wp2_with (at_builtin;rw[aa.o];refine r6 _ rfl _ _ 75 rfl (w+1+1) 110 ir _ 2 16 underlying75 bo bp bq br rfl (by decide) _ _ _ rfl a6 ⟨K,N,J⟩ d L (bH Piece.Len Piece.N x.P.A) rfl b6 (λa1 a2 U=>jZ (P.a _) (bb a1 a2 U)) (rH _) (by unfold o0;omega) (by omega) (by simp;omega) ?_);intro v3 k B A bk;obtain⟨a,c,rfl⟩:=kO B (by omega);have ai:=bN B a rfl;have bn:w.heap.size+1+1<k.heap.size:=by have:=A.size;simp at this;omega
 have S:=(A.block w (by simp;omega) (λe=>by have l:=b7 e;simp at l;omega)).trans ((((b8 o).a (zt #[] 110)).block w (by omega)).trans a3);have b0:=(A.block (w+1) (by simp;omega) (λe=>by have l:=b7 e;simp at l)).trans ((((b8 o).a (zt #[] 110)).block (w+1) (by omega)).trans ac);have av:d7 w k:=(P.a (zt #[] 110)).gr A (λC t=>by have l:=b7 t;simp at l;omega);have aj:aM k (O (M ⟨a,0,J⟩) d c) x.P.A:=by
  have p:=bL (base:=w.heap.size+1+1) (e:=110) (w:=k) (v:=O (M ⟨a,0,J⟩) d c) (xs:=x.P.A) (f:=Piece.Len) (g:=Piece.N) (by rw[a9.o];simpa using B) b4 (by rw[a9.o];omega);exact p
 obtain⟨m,q⟩:∃ m,k.setCell ⟨w,5,J⟩ (O (M ⟨a,0,J⟩) d c)=m:=⟨_,rfl⟩;have ao:m.heap.size=k.heap.size:=by rw[<- q];simp[aHP]
 have af:m.heap[w.heap.size]?=M (zt #[x.Id,x.P.B,x.P.D,x.P.C,x.P.E,O (M ⟨a,0,J⟩) d c,O (M ⟨D,F,J⟩) i E] 80 (0,0)):=q▸x6 k w 5 _ _ _ S;have b1:=q▸(x7 k ⟨w,5,J⟩ (w+1) (O (M ⟨a,0,J⟩) d c) (by show w.heap.size+1≠w.heap.size;omega)).trans b0;have aw:d7 w m:=q▸av.se (aGi _) _;have ak:aM m (O (M ⟨a,0,J⟩) d c) x.P.A:=q▸pI aj (aN k w 5 _) (by omega);obtain⟨_,_,_,_,_,k5,k6,z⟩:=eH S;have f5:=z 5;have W:=mC m 113 2 (by omega);rw[ao] at W;obtain⟨a7,ab,Q,a4,ad,a8,G⟩:=zj W q aw af b1 ak (And.intro bn (And.intro ao ai));have bz:a<k.heap.size:=(B.lt a rfl).2;have c2:w.heap.size<k.heap.size:=by omega
 clear z S b0 av aj q af b1 aw ak W B A a3 ac P aa a6 bk ai;go_wp2_with (at_builtin;rw[ab.o];refine r6 _ rfl _ _ 78 rfl k 113 it _ 2 16 underlying78 bt bu bw bx rfl (by decide) _ _ _ rfl a7 ⟨D,F,J⟩ i E (bH bK.Piece bK.At x.L) rfl ba (λa1 a2 U=>jZ (Q.a _) (bc a1 a2 U)) (rH _) (by unfold o0;omega) (by omega) (by simp;omega) ?_);intro v5 n H y bl;obtain⟨h,j,rfl⟩:=kO H (by omega);have bQ:=bN H h rfl;have c0:k.heap.size<n.heap.size:=by have:=y.size;simp at this;omega
 have T:=(y.block w (by simp;omega) (λe=>by have l:=b7 e;simp at l;omega)).trans ((((b8 m).a (zt #[] 113)).block w (by omega)).trans a4);have b2:=(y.block (w+1) (by simp;omega) (λe=>by have l:=b7 e;simp at l;omega)).trans ((((b8 m).a (zt #[] 113)).block (w+1) (by omega)).trans ad);have ax:d7 w n:=(Q.a (zt #[] 113)).gr y (λC t=>by have l:=b7 t;simp at l;omega);have al:aM n (O (M ⟨a,0,J⟩) d c) x.P.A:=pI (r:=k) (aM.m a8 ((b8 m).a _)) y (by omega);have ap:bF n (O (M ⟨h,0,J⟩) i j) x.L:=by
  have p:=bL (base:=k.heap.size) (e:=113) (w:=n) (v:=O (M ⟨h,0,J⟩) i j) (xs:=x.L) (f:=bK.Piece) (g:=bK.At) (by rw[a5.o];simpa using H) b5 (by rw[a5.o];omega);exact p
 obtain⟨p,s⟩:∃ p,n.setCell ⟨w,6,J⟩ (O (M ⟨h,0,J⟩) i j)=p:=⟨_,rfl⟩;have ag:p.heap[w.heap.size]?=M (zt #[x.Id,x.P.B,x.P.D,x.P.C,x.P.E,O (M ⟨a,0,J⟩) d c,O (M ⟨h,0,J⟩) i j] 80 (0,0)):=s▸x6 n w 6 _ _ _ T;have a0:=s▸(x7 n ⟨w,6,J⟩ (w+1) (O (M ⟨h,0,J⟩) i j) (by show w.heap.size+1≠w.heap.size;omega)).trans b2;have ay:d7 w p:=s▸ax.se (aGi _) _;have am:aM p (O (M ⟨a,0,J⟩) d c) x.P.A:=s▸pI al (aN n w 6 _) (by have:=G.2.2;omega);have aq:bF p (O (M ⟨h,0,J⟩) i j) x.L:=s▸pI ap (aN n w 6 _) (by omega);obtain⟨_,_,_,_,_,_,k6,z⟩:=eH T;have f6:=z 6;obtain⟨bh,bd,bf,bi,be,b3,bg⟩:=zj (ay.sr (b:=w+1) (by omega) #[x.Id,x.P.B,x.P.D,x.P.C,x.P.E,O (M ⟨a,0,J⟩) d c,O (M ⟨h,0,J⟩) i j]) (pI am (aQ p (w+1) #[x.Id,x.P.B,x.P.D,x.P.C,x.P.E,O (M ⟨a,0,J⟩) d c,O (M ⟨h,0,J⟩) i j]) (by have:=G.2.2;omega)) (pI aq (aQ p (w+1) #[x.Id,x.P.B,x.P.D,x.P.C,x.P.E,O (M ⟨a,0,J⟩) d c,O (M ⟨h,0,J⟩) i j]) (by have:=G.1;omega)) a0 (x5 p (w+1) _ #[x.Id,x.P.B,x.P.D,x.P.C,x.P.E,O (M ⟨a,0,J⟩) d c,O (M ⟨h,0,J⟩) i j] _ _ a0) ag s;clear z T b2 ax al ap s ag a0 ay am aq H y bl a4 ad Q a8 ab a7 k5 f5;go_wp2_with (rw[bg.o];obtain⟨k0,k1,k2,k3,k4,k5,k6,z⟩:=eH b3;refine y9 rfl 80 _ _ rfl (w+1) #[x.Id,x.P.B,x.P.D,x.P.C,x.P.E,O (M ⟨a,0,J⟩) d c,O (M ⟨h,0,J⟩) i j] rfl rfl 80 _ bi size80 rfl (by simp[aGr]) ?_);exact v6 (j6 rfl _ _ (w+1) 80 #[x.Id,x.P.B,x.P.D,x.P.C,x.P.E,O (M ⟨a,0,J⟩) d c,O (M ⟨h,0,J⟩) i j] (0,0) _ rfl be underlying80 rfl size80) rfl
  ⟨a,c,h,j,rfl,by have:=G.2.2;omega,by omega,bd,bf,bh⟩
theorem dW (w:y4) (s:aG) (c b:y5):∃ a:y4,(w.alloc (zt #[s.G,s.H,c,b] 34)).alloc (zt #[Y Z 0,Y Z 0,O J 0 0,O J 0 0] 34)=a/\d7 w a/\(∀ W,d7 a W->(W ⟨w,0,J⟩=M (Y Z s.G)/\W ⟨w,1,J⟩=M (Y Z s.H)/\W ⟨w,2,J⟩=M c/\W ⟨w,3,J⟩=M b))/\
  (∀ W,d7 a W->W.heap[w.heap.size+1]?=M (zt #[Y Z 0,Y Z 0,O J 0 0,O J 0 0] 34 (0,0)))/\a.heap.size=w.heap.size+2:=by
 refine⟨_,rfl,((b8 w).a _).a _,λW a=>dY (((b8 _).a _).r a),λW a=>?_,by simp⟩;have d:=y7 (w.alloc (zt #[s.G,s.H,c,b] 34)) (zt #[Y Z 0,Y Z 0,O J 0 0,O J 0 0] 34);simp only[aHb] at d;exact(a.block _ (by simp)).trans d
structure Ex (w wb:y4) (X:Nat) (u:y5) (s:aG) (bk:List aH) (v:y5) (W:y4):Prop where
 box:W.heap[X]?=M (zt #[s.G,s.H,u,v] 34 (0,0))
 own:cH [X,w.heap.size+1,w.heap.size] w W u v s.K bk
 e:d7 wb W
 low:wb<=X
theorem Ex.later {w d:y4} {X:Nat} {u:y5} {s:aG} {c:List aH} {v:y5} {W W':y4} (a:Ex w d X u s c v W) (b:d7 W W'):Ex w d X u s c v W':=
 ⟨(b.block X (aGq.1 a.box).1).trans a.box,a.own.e b,a.e.r b,a.low⟩
theorem qX (w:y4) (tv bv:y5) (s:aG) (hl:aK w tv s.K) (hb:aS w bv s.F) (ok:cQ s.K) (bw:s.F.length<=12) (ax:∀ x∈s.F,bU s.K x) :
  y8 prog 112 #[.agg #[s.G,s.H,tv,bv]] w λL a=>∃ u v,L=zv (.agg #[s.G,s.H,u,v])/\cH [] w a u v s.K s.F/\d7 w a:=by
 obtain⟨c,a9,HX,aj,ak,ay⟩:=dW w s tv bv;obtain⟨R,F,be,bd,Q⟩:=zm HX aj ak a9 ay;clear HX aj ak a9 ay;obtain⟨OT,ai⟩:=zr (λ(bs:List Nat) (W:y4) (q:d7 w W) (bj:∀ a∈bs,a<W.heap.size)=>xC bs W tv s.K (hl.m q) ok bj) ok;have ah:=I (λ(n:Nat) (hn:w+2<=n)=>show ∀ a∈(w.heap.size+1)::w.heap.size::List.range w.heap.size,a<n from λa i=>by
  rcases aH1.1 i with q|q
  ·omega
  rcases aH1.1 q with q|q
  ·omega
  have:=mJ q;omega)
 obtain⟨a5,b4,b3⟩:=zq (by show c.heap.size<(c.alloc _).heap.size;simp:c.heap.size<(c.alloc (zt #[Y Z 0,Y Z 0,O J 0 0,O J 0 0] 34)).drew.heap.size) (tY ax) hb;obtain⟨qa,qc,rfl,_,_,_⟩:=hl.i;obtain⟨br,bg,rfl,_,_,_⟩:=hb.i;clear hl hb ok ax;obtain⟨al,am,an,bf⟩:=F c (b8 c);go_enter func112,ntmps112;go_wp2_with fail;rw[bd.o]
 go_cut [3] from 5 (λd W=>∃ (g h l:Nat),d=zz (M ⟨g,0,J⟩)/\Hid (Ex w c g (O (M ⟨h,0,J⟩) s.K.length l) s (s.F.take 0) (O J 0 0) W))
 case first=>
  refine v8 (S:=λW=>W ⟨w,0,J⟩=M (Y Z s.G)/\W ⟨w,1,J⟩=M (Y Z s.H)/\W ⟨w,2,J⟩=M (O qa s.K.length qc)) (by kernel_rfl) ⟨al,am,an⟩ (λt=>?_);refine tkH 0 ?_;refine tkH 1 ?_;refine tkH 2 ?_;refine tkH 3 ?_;refine tkH 4 ?_;refine tkH 5 ?_;refine wpAnyH_ready (rs:=[6,8]) (by kernel_rfl) (by simp) ?_;refine AllReadyH.cons rfl (λj d=>?_) (AllReadyH.cons rfl (λj d=>?_) AllReadyH.nil)
  all_goals simp only[zA,zB,zC]
  ·go_simp;refine(OT ((w.heap.size+1)::w.heap.size::List.range w) _ R.dr (ah _ (aHY Q.symm))).m ?_;rintro L W1 ⟨h,l,rfl,z,A,C,E,y⟩;go_wp2_with fail;have e:d7 c W1:=(b8 c).dr.r y;refine d.out _ _ ?_ (λt=>?_)
   ·(obtain⟨m,o,p,_⟩:=F W1 e;exact⟨m,o,p⟩)
   clear d j;refine tkH 7 ?_;refine goH 8 λj d=>?_;simp only[zA,zB,zC];go_simp;refine d.out _ _ ?_ (λt=>?_)
   ·(obtain⟨m,o,p,_⟩:=F _ (e.a (zt #[Y Z 0,Y Z 0,O J 0 0,O J 0 0] 34));exact⟨m,o,p⟩)
   clear d j;refine goH 9 λj d=>?_;simp only[zA,zB,zC];rw[c7 (by rfl)];refine o7 34 _ _ rfl W1 #[s.G,s.H,O (M ⟨h,0,J⟩) s.K.length l,O J 0 0] rfl rfl 34 _ (y7 W1 _) size34 rfl (by simp[aGr]) ?_;have r:d7 c ((W1.alloc (zt #[Y Z 0,Y Z 0,O J 0 0,O J 0 0] 34)).setRow W1 #[s.G,s.H,O (M ⟨h,0,J⟩) s.K.length l,O J 0 0]):=(e.a _).sr (b:=W1) e.size _;refine d.out _ _ ?_ (λt=>?_)
   ·(obtain⟨m,o,p,_⟩:=F _ r;exact⟨m,o,p⟩)
   clear d j;refine dnH ?_;go_wp2_with fail;go_meet
   case rel=>
    have G:d7 W1 ((W1.alloc (zt #[Y Z 0,Y Z 0,O J 0 0,O J 0 0] 34)).setRow W1 #[s.G,s.H,O (M ⟨h,0,J⟩) s.K.length l,O J 0 0]):=((b8 W1).a _).sr (b:=W1) (aGi _) _;have a9:c<=h:=C;have H:=Q.o;have D:=cH.ofTree (ex:=[w.heap.size+1,w.heap.size]) (B:=w.heap.size) E z A ai (by omega) (by simp;omega);exact⟨_,_,_,rfl,⟨x5 _ W1 _ _ _ _ (y7 W1 _),(D.box (aGi _)).e G,r,e.size⟩⟩
  go_simp;refine d.out _ _ ?_ (λt=>?_)
  ·(obtain⟨m,o,p,_⟩:=F _ ((b8 c).a (zt #[Y Z 0,Y Z 0,O J 0 0,O J 0 0] 34));exact⟨m,o,p⟩)
  clear d j;refine goH 6 λj d=>?_;simp only[zA,zB,zC];go_simp;refine(OT (c.heap.size::(w.heap.size+1)::w.heap.size::List.range w) _ (R.a _).dr (λa i=>?_)).m ?_
  ·rcases aH1.1 i with q|q
   ·rw[q];exact a5
   have:=ah _ (aHY Q.symm) a q;exact Nat.lt_trans this a5
  rintro L W1 ⟨h,l,rfl,z,A,C,E,y⟩;go_wp2_with fail;have e:d7 c W1:=((b8 c).a _).dr.r y;refine d.out _ _ ?_ (λt=>?_)
  ·(obtain⟨m,o,p,_⟩:=F W1 e;exact⟨m,o,p⟩)
  clear d j;refine tkH 7 ?_;refine goH 9 λj d=>?_;simp only[zA,zB,zC];rw[c7 (by rfl)];have a1:W1.heap[c.heap.size]?=M (zt #[Y Z 0,Y Z 0,O J 0 0,O J 0 0] 34 (0,0)):=(y.block _ a5).trans (y7 c _);refine o7 34 _ _ rfl c #[s.G,s.H,O (M ⟨h,0,J⟩) s.K.length l,O J 0 0] rfl rfl 34 _ a1 size34 rfl (by simp[aGr]) ?_;have r:d7 c (W1.setRow c #[s.G,s.H,O (M ⟨h,0,J⟩) s.K.length l,O J 0 0]):=e.sr (b:=c) (aGi _) _;refine d.out _ _ ?_ (λt=>?_)
  ·(obtain⟨m,o,p,_⟩:=F _ r;exact⟨m,o,p⟩)
  clear d j;refine dnH ?_;go_wp2_with fail;go_meet
  case rel=>
   have av:=a5.o;have H:=Q.o;have a9:c+1<=h:=by
    have h2:(c.alloc (zt #[Y Z 0,Y Z 0,O J 0 0,O J 0 0] 34)).drew.heap.size<=h:=C;have G:(c.alloc (zt #[Y Z 0,Y Z 0,O J 0 0,O J 0 0] 34)).heap.size=c.heap.size+1:=by simp
    have K:(c.alloc (zt #[Y Z 0,Y Z 0,O J 0 0,O J 0 0] 34)).drew.heap.size=(c.alloc (zt #[Y Z 0,Y Z 0,O J 0 0,O J 0 0] 34)).heap.size:=rfl;omega
   have D:=cH.ofTree (ex:=[c.heap.size,w.heap.size+1,w.heap.size]) (B:=w.heap.size) E z A ai (by omega) (by simp;omega);exact⟨_,_,_,rfl,⟨x5 _ c _ _ _ _ a1,D.kept (aQ _ _ _) (aHv ..),r,aGi _⟩⟩
 case rest=>
  obtain⟨g,h,l,rfl,bb⟩:=hcut;obtain⟨ib,bn,bo,bp,bq⟩:=s8 info80;obtain⟨bt,bu,bi,_,_,_,aq⟩:=jH b3;cases bi;have b2:=I aq;clear aq;generalize ar:s.F.length=P at *;have a6:=I ar;clear ar;clear al am an bf;go_wp2;go_loopw [4] (λe wr=>∃ (k:Nat) (v:y5),e=Y Z k/\k<=P/\Hid (Ex w c g (O (M ⟨h,0,J⟩) s.K.length l) s (s.F.take k) v wr)) (λe _=>P-(intOf e).toNat);exact⟨0,_,rfl,by omega,bb⟩;obtain⟨k,v,rfl,hk,e⟩:=hrel;obtain⟨_,_,_,k3⟩:=F wr e.e;have ap:g<wr.heap.size:=(aGq.1 e.box).1;have a1:=e.low;by_cases av:k<P
  ·have bm:=z7 k P;have hlen:(s.F.take k).length=k:=by rw[aHB,a6.o];omega
   obtain⟨y,z,rfl,a0⟩:=e.own.vform;rw[hlen] at a0 e;obtain⟨bh,o1,aw⟩:=e.own.more (by rw[hlen];omega);rw[hlen] at o1;obtain⟨ba,b5⟩:=zr o1 aw;obtain⟨_,_,he,bz,bQ⟩:=e.own.uform;cases he;obtain⟨x,a4⟩:=aV (f:=s.F) (k:=k) (by rw[a6.o];exact av);have ad:wL x:=b4 x (aGC a4);obtain⟨D,G,rfl,N,ab⟩:=b2 (by omega);obtain⟨pv,bv,c0,c1,c2,c3,c4,c5,c6,hp,ac⟩:=dN (kM.m w wr D _ x (R.r e.e) (ab k x a4));have ao:=I (show I64 x.Id/\I64 x.P.B/\I64 x.P.D/\I64 x.P.C/\I64 x.P.E from by
    obtain⟨T,⟨U,bv,rfl,⟨pv,rfl,hp,A,C,E,H⟩,hb,K⟩,_⟩:=ab k x a4;exact⟨K,A,C,E,H⟩)
   obtain⟨OB,bc⟩:=zr (λ(W:y4) (q:d7 wr W)=>xD W pv bv x (hp.m q) (ac.m q) ad) (by rw[aHZ,a4];rfl:s.F.take (k+1)=s.F.take k++[x]);obtain⟨pa,pc,rfl,_,_,_⟩:=hp.i;obtain⟨ia,ic,rfl,_,_,_⟩:=ac.i;have aa:=I ad;have e3:wr ⟨g,3,J⟩=M (O y k z):=y6 _ _ 3 _ _ _ e.box;have t1:=deF (show ¬ (k:Int)<0 by omega);have t2:=deF (show ¬ (P:Int)<=(k:Int) by omega);have t3:=deF (show ¬ P<=k by omega);have bx:D<wr.heap.size:=aGs N (R.r e.e).size;have a8:∀ a,(O y k z).ownBlock=M a->w.heap.size<=a/\a<wr.heap.size/\a≠g/\a≠w.heap.size/\a≠w.heap.size+1:=λa i=>⟨(a0 a i).1,(a0 a i).2,e.own.vne a i g (aHv ..),e.own.vne a i w (by simp),e.own.vne a i (w+1) (by simp)⟩;clear hp ac a4 ad a0 o1 aw ab
   go_wp2_with fail;refine cN 11 (λW=>W ⟨g,3,J⟩=M (O y k z)/\W ⟨w,3,J⟩=M (O (M ⟨D,G,J⟩) P bg)/\W ⟨D,G+k*7,J⟩=M (Y Z x.Id)/\W ⟨D,G+k*7+1,J⟩=M (Y Z x.P.B)/\W ⟨D,G+k*7+2,J⟩=M (Y Z x.P.D)/\W ⟨D,G+k*7+3,J⟩=M (Y Z x.P.C)/\W ⟨D,G+k*7+4,J⟩=M (Y Z x.P.E)/\W ⟨D,G+k*7+5,J⟩=M (O pa x.P.A.length pc)/\W ⟨D,G+k*7+6,J⟩=M (O ia x.L.length ic)) (by kernel_rfl) ⟨e3,k3,c0,c1,c2,c3,c4,c5,c6⟩ (λt=>?_);refine tkT 0 ?_;refine tkT 1 ?_;refine tkT 2 ?_;refine tkT 3 ?_;refine tkT 4 ?_;refine tkT 5 ?_;refine tkT 6 ?_;refine goT 7 λj d=>?_;simp only[zA,zB,zC];go_simp;refine(OB _ (b8 wr).dr).m ?_;rintro L C ⟨V,H,X,K,rfl,bk,bl,ae,af,r⟩
   go_wp2_with fail;have az:d7 wr C:=(b8 wr).dr.r r;refine d.out _ _ ?_ (λt=>?_)
   ·(obtain⟨m,o,p,k3,k4,k5,k6,k7,k8⟩:=t;exact⟨r.c m,r.c o,r.c p,r.c k3,r.c k4,r.c k5,r.c k6,r.c k7,r.c k8⟩)
   clear d j;refine goT 8 λj d=>?_;simp only[zA,zB,zC];go_simp;have A:=(b8 C).a (zt #[x.Id,x.P.B,x.P.D,x.P.C,x.P.E,O (M ⟨V,0,J⟩) x.P.A.length H,O (M ⟨X,0,J⟩) x.L.length K] 80);refine d.out _ _ ?_ (λt=>?_)
   ·(obtain⟨m,o,p,k3,k4,k5,k6,k7,k8⟩:=t;exact⟨A.c m,A.c o,A.c p,A.c k3,A.c k4,A.c k5,A.c k6,A.c k7,A.c k8⟩)
   clear d j;obtain⟨T,b6⟩:=zr (az.r A) (Dg C [Y Z x.Id,Y Z x.P.B,Y Z x.P.D,Y Z x.P.C,Y Z x.P.E,O (M ⟨V,0,J⟩) x.P.A.length H,O (M ⟨X,0,J⟩) x.L.length K] 80 rfl);have HG:=I (Ft (W:=wr) (W1:=C.alloc (zt #[x.Id,x.P.B,x.P.D,x.P.C,x.P.E,O (M ⟨V,0,J⟩) x.P.A.length H,O (M ⟨X,0,J⟩) x.L.length K] 80)) (B:=w.heap.size) (ex:=[g,w.heap.size+1,w.heap.size]) (u:=O (M ⟨h,0,J⟩) s.K.length l) (v:=O y k z) (n1:=x.P.A.length) (n2:=x.L.length) (c1:=H) (c2:=K) (x:=x) (R.r e.e).size bk bl (by rw[aHb];have:=Fr ae aa.1.1;omega) (by rw[aHb];have:=Fr af aa.1.2;omega) (λa i=>by
    have h2:a=g\/a=w.heap.size+1\/a=w.heap.size:=by simpa using i
    have:=Q.o;omega) (λa i=>by
    have h2:h=a:=by simpa[aHR] using i
    omega) (λa i=>(a8 a i).2.1))
   have b1:=I (show fW (C.alloc (zt #[x.Id,x.P.B,x.P.D,x.P.C,x.P.E,O (M ⟨V,0,J⟩) x.P.A.length H,O (M ⟨X,0,J⟩) x.L.length K] 80)) [Y Z x.Id,Y Z x.P.B,Y Z x.P.D,Y Z x.P.C,Y Z x.P.E,O (M ⟨V,0,J⟩) x.P.A.length H,O (M ⟨X,0,J⟩) x.L.length K] x from ⟨_,_,rfl,⟨_,rfl,ae.m ((b8 C).a _),ao.2⟩,af.m ((b8 C).a _),ao.1⟩);clear ae af A az;refine goT 9 λj d=>?_;simp only[zA,zB,zC];rw[c7 (by rfl)];refine wp_append_lies _ _ _ _ (by rfl) w 80 ib _ 7 88 underlying32 bn bo bp bq rfl (by decide) (O y k z) k bh.flatten (by rfl) (aJ ba T) ⟨C,0,J⟩ 1 1 [Y Z x.Id,Y Z x.P.B,Y Z x.P.D,Y Z x.P.C,Y Z x.P.E,O (M ⟨V,0,J⟩) x.P.A.length H,O (M ⟨X,0,J⟩) x.L.length K] (by rfl) (by rfl) b6 (by simp[aGr]) (by omega) (by unfold o0;omega) (by omega) ((R.r e.e).r T).size (C+1) (by simp) ?_;intro g3 a7 U a3 a2 au bR;have E:∀ (b:Nat) (ag:Nat) (u:y5),(C.alloc (zt #[x.Id,x.P.B,x.P.D,x.P.C,x.P.E,O (M ⟨V,0,J⟩) x.P.A.length H,O (M ⟨X,0,J⟩) x.L.length K] 80)) ⟨b,ag,J⟩=M u->(b<w.heap.size\/b=w.heap.size\/b=g)->U ⟨b,ag,J⟩=M u:=λb ag u q hb=>gM a2 q (λa i L=>by
    subst L;have h2:=a8 a i;omega)
   refine d.out _ _ ?_ (λt=>?_)
   ·(obtain⟨m,o,p,k3,k4,k5,k6,k7,k8⟩:=t;exact⟨E _ _ _ m (.inr (.inr rfl)),E _ _ _ o (.inr (.inl rfl)),E _ _ _ p (.inl N),E _ _ _ k3 (.inl N),E _ _ _ k4 (.inl N),E _ _ _ k5 (.inl N),E _ _ _ k6 (.inl N),E _ _ _ k7 (.inl N),E _ _ _ k8 (.inl N)⟩)
   clear d j;have o:U.heap[g]?=M (zt #[s.G,s.H,O (M ⟨h,0,J⟩) s.K.length l,O y k z] 34 (0,0)):=
    (a2.block g (aGs ap T.size) (λL=>(a8 g L.symm).2.2.1 rfl)).trans ((T.block g ap).trans e.box)
   have f3:=x4 U g 3 _ _ o;have p:=aN U g 3 (O (M ⟨g3,0,J⟩) (k+1) a7);have b0:=I (show Ex w c g (O (M ⟨h,0,J⟩) s.K.length l) s (s.F.take (k+1)) (O (M ⟨g3,0,J⟩) (k+1) a7) (U.setCell ⟨g,3,J⟩ (O (M ⟨g3,0,J⟩) (k+1) a7)) from by
    refine⟨x6 U g 3 _ _ _ o,?_,((e.e.r T).gr a2 (λa i=>by have:=a8 a i;have:=Q.o;omega)).se a1 _,a1⟩;rw[bc.o];refine(b5 _ U g3 (k+1) a7 _ x T b1 aa HG a3 (by rw[hlen]) a2 (by rw[aHb];exact au) (λa i=>?_)).kept p (aHv ..);have h2:a=g\/a=w.heap.size+1\/a=w.heap.size:=by simpa using i
    have:=Q.o;have:=T.size;omega)
   clear E a3 a2 au o p;refine tkT 10 ?_;refine laT λj d=>?_;simp only[zA,zB,zC];obtain⟨m,_⟩:=t;go_simp;refine d.out _ _ ?_;clear d j
   go_wp2;go_roundw;exact⟨k+1,_,by go_num,by omega,b0⟩;simp[intOf];omega
  obtain rfl:k=P:=by omega
  have bm:=z8 k k;have j:s.F.take k=s.F:=aHF (by rw[a6.o];omega);obtain⟨y,z,rfl,a0⟩:=e.own.vform;rw[j,a6.o] at e;have a3:=e.own;have r:wr ⟨g,0,J⟩=M (Y Z s.G):=y6 _ _ 0 _ _ _ e.box;have t:wr ⟨g,1,J⟩=M (Y Z s.H):=y6 _ _ 1 _ _ _ e.box;have A:wr ⟨g,2,J⟩=M (O (M ⟨h,0,J⟩) s.K.length l):=y6 _ _ 2 _ _ _ e.box;have C:wr ⟨g,3,J⟩=M (O y k z):=y6 _ _ 3 _ _ _ e.box;have d:=I (be wr e.e);obtain⟨o,m,p⟩:=zq (x5 wr (w+1) _ #[s.G,s.H,O (M ⟨h,0,J⟩) s.K.length l,O y k z] _ _ d) ((a3.kept (aQ wr (w+1) #[s.G,s.H,O (M ⟨h,0,J⟩) s.K.length l,O y k z]) (by simp)).low (ex2:=[]) (aGi _) (λa i=>by cases i)) ((R.r e.e).sr (b:=w+1) (by omega) #[s.G,s.H,O (M ⟨h,0,J⟩) s.K.length l,O y k z]);clear a3 j a0;go_wp2_with (refine z6 (w+1) #[s.G,s.H,O (M ⟨h,0,J⟩) s.K.length l,O y k z] d ?_);exact v6 (j6 rfl _ _ (w+1) 34 #[s.G,s.H,O (M ⟨h,0,J⟩) s.K.length l,O y k z] (0,0) _ rfl o underlying34 rfl size34) rfl ⟨_,_,rfl,m,p⟩
theorem Vo (w:y4) (d c f:y5) (s:aG) (r:aF) (e:aK w d s.K) (hb:aS w c s.F) (l:aM w f r.A) (a:aI s≠0) :
  y8 prog 67 #[.agg #[s.G,s.H,d,c],.agg #[r.B,r.D,r.C,r.E,f]] w (dF w (aW s r)):=by
 have F:=I (λ(W:y4) (k:d7 w W)=>cO W d c s (e.m k) (hb.m k));obtain⟨Q,m,h,v,u,j,E⟩:=jP w s r d c f;obtain⟨i,z,x⟩:=zq h j m;clear h v u m j;have t:=I (by rw[pJ (by rw[Dj a];exact a),Dj a]:aW s r=(gQ,0,aI s));have D:=neT a;obtain⟨L,N,rfl,_,_,_⟩:=e.i;obtain⟨A,B,rfl,_,_,_⟩:=hb.i;obtain⟨G,H,rfl,_,_,_⟩:=l.i;clear e hb l;clear a;generalize aI s=P at *;generalize s.K.length=n at *;generalize s.F.length=R at *;generalize r.A.length=K at *;go_enter func67,ntmps67;go_wp2_with fail;rw[x.o];refine(F _ i).m ?_;rintro C p ⟨rfl,o⟩;obtain⟨g,y⟩:=zr (z p (o)) ((i.r (o)).sr (b:=w+1+1) (by omega) #[Y Z 0,Y Z 0,O J 0 0,O J 0 0]);have q:=I (x5 p (w+1+1) _ #[Y Z 0,Y Z 0,O J 0 0,O J 0 0] _ _ g);go_wp2_with (refine z6 (w+1+1) #[Y Z 0,Y Z 0,O J 0 0,O J 0 0] g ?_);exact v6 (bC (u1:=5) (u2:=6) rfl _ _ (w+1+1) 34 #[Y Z 0,Y Z 0,O J 0 0,O J 0 0] (0,0) _ rfl q underlying34 rfl size34) rfl (cV t y)
theorem Vn (w:y4) (e f j:y5) (s:aG) (r:aF) (h:aK w e s.K) (hb:aS w f s.F) (m:aM w j r.A) (g:aI s=0) (d:fZ s.K r≠0) :
  y8 prog 67 #[.agg #[s.G,s.H,e,f],.agg #[r.B,r.D,r.C,r.E,j]] w (dF w (aW s r)):=by
 obtain⟨F,N⟩:=zr (λ(W:y4) (c:d7 w W)=>cO W e f s (h.m c) (hb.m c)) (λ(W:y4) (c:d7 w W)=>oI W e j s.K r (h.m c) (m.m c));obtain⟨wb,K,v,u,q,x,a1⟩:=jP w s r e f j;obtain⟨l,t,p,T,R⟩:=zm v u q x K;clear v u q K x;have Q:=I (by rw[pJ (by rw[Di g d];exact d),Di g d]:aW s r=(gQ,0,fZ s.K r));have a0:=neT d;rw[g] at F;obtain⟨qa,qc,rfl,_,_,_⟩:=h.i;obtain⟨V,X,rfl,_,_,_⟩:=hb.i;obtain⟨pa,pc,rfl,_,_,_⟩:=m.i;clear h hb m;clear g d;generalize fZ s.K r=re at *;generalize s.K.length=n at *;generalize s.F.length=a2 at *;generalize r.A.length=pn at *;go_enter func67,ntmps67;go_wp2_with fail;rw[R.o];refine(F _ l).m ?_;rintro U L ⟨rfl,a⟩;obtain⟨y,z,A,B⟩:=t L a;obtain⟨C,D,E,G,H⟩:=p L a;go_wp2_with fail;refine(N _ (l.r a)).m ?_;rintro U k ⟨rfl,i⟩;clear y z A B C D E G H;obtain⟨y,z,A,B⟩:=t k (a.r i);obtain⟨C,D,E,G,H⟩:=p k (a.r i);obtain⟨o,S⟩:=zr (T k (a.r i)) ((l.r (a.r i)).sr (b:=w+1+1) (by omega) #[Y Z 0,Y Z 0,O J 0 0,O J 0 0]);have P:=I (x5 k (w+1+1) _ #[Y Z 0,Y Z 0,O J 0 0,O J 0 0] _ _ o);go_wp2_with (refine z6 (w+1+1) #[Y Z 0,Y Z 0,O J 0 0,O J 0 0] o ?_);exact v6 (bC (u1:=5) (u2:=6) rfl _ _ (w+1+1) 34 #[Y Z 0,Y Z 0,O J 0 0,O J 0 0] (0,0) _ rfl P underlying34 rfl size34) rfl (cV Q S)
theorem Qd (w:y4) (d e j:y5) (s:aG) (r:aF) (h:aK w d s.K) (hb:aS w e s.F) (m:aM w j r.A) (f:aI s=0) (g:fZ s.K r=0) (L:r.D<s.G) :
  y8 prog 67 #[.agg #[s.G,s.H,d,e],.agg #[r.B,r.D,r.C,r.E,j]] w (dF w (aW s r)):=by
 obtain⟨F,o⟩:=zr (λ(W:y4) (c:d7 w W)=>cO W d e s (h.m c) (hb.m c)) (λ(W:y4) (c:d7 w W)=>oI W d j s.K r (h.m c) (m.m c));obtain⟨wb,N,x,v,t,y,a0⟩:=jP w s r d e j;obtain⟨l,u,q,U,S⟩:=zm x v t y N;clear x v t N y;have R:=I (by rw[pJ (by rw[zJ f g L];decide),zJ f g L]:aW s r=(gQ,0,9));rw[f] at F;rw[g] at o;obtain⟨qa,qc,rfl,_,_,_⟩:=h.i;obtain⟨X,bc,rfl,_,_,_⟩:=hb.i;obtain⟨pa,pc,rfl,_,_,_⟩:=m.i;clear h hb m;clear f g;generalize s.K.length=n at *;generalize s.F.length=a1 at *;generalize r.A.length=pn at *;go_enter func67,ntmps67;go_wp2_with fail;rw[S.o];refine(F _ l).m ?_;rintro V P ⟨rfl,a⟩;obtain⟨z,A,B,C⟩:=u P a;obtain⟨D,E,G,H,K⟩:=q P a;go_wp2_with fail;refine(o _ (l.r a)).m ?_;rintro V k ⟨rfl,i⟩;clear z A B C D E G H K;obtain⟨z,A,B,C⟩:=u k (a.r i);obtain⟨D,E,G,H,K⟩:=q k (a.r i);obtain⟨p,T⟩:=zr (U k (a.r i)) ((l.r (a.r i)).sr (b:=w+1+1) (by omega) #[Y Z 0,Y Z 0,O J 0 0,O J 0 0]);have Q:=I (x5 k (w+1+1) _ #[Y Z 0,Y Z 0,O J 0 0,O J 0 0] _ _ p);go_wp2_with (refine z6 (w+1+1) #[Y Z 0,Y Z 0,O J 0 0,O J 0 0] p ?_);exact v6 (bC (u1:=5) (u2:=6) rfl _ _ (w+1+1) 34 #[Y Z 0,Y Z 0,O J 0 0,O J 0 0] (0,0) _ rfl Q underlying34 rfl size34) rfl (cV R T)
theorem Qb (w:y4) (d e h:y5) (s:aG) (r:aF) (f:aK w d s.K) (hb:aS w e s.F) (m:aM w h r.A) (k:aI s=0) (l:fZ s.K r=0) (X:¬ r.D<s.G) (h3:s.F.length=12\/s.H=1048576) :
  y8 prog 67 #[.agg #[s.G,s.H,d,e],.agg #[r.B,r.D,r.C,r.E,h]] w (dF w (aW s r)):=by
 obtain⟨F,o⟩:=zr (λ(W:y4) (c:d7 w W)=>cO W d e s (f.m c) (hb.m c)) (λ(W:y4) (c:d7 w W)=>oI W d h s.K r (f.m c) (m.m c));obtain⟨wb,L,x,v,t,y,a1⟩:=jP w s r d e h;obtain⟨j,u,q,U,S⟩:=zm x v t y L;clear x v t L y;have R:=I (vD (zI k l X) h3);rw[k] at F;rw[l] at o;obtain⟨qa,qc,rfl,_,_,_⟩:=f.i;obtain⟨ba,bc,rfl,_,_,_⟩:=hb.i;obtain⟨pa,pc,rfl,_,_,_⟩:=m.i;clear f hb m;clear k l;generalize s.K.length=n at *;generalize s.F.length=a0 at *;generalize r.A.length=pn at *;go_enter func67,ntmps67;go_wp2_with fail;rw[S.o];refine(F _ j).m ?_;rintro V P ⟨rfl,a⟩;obtain⟨z,A,B,C⟩:=u P a;obtain⟨D,E,G,H,K⟩:=q P a;go_wp2_with fail;refine(o _ (j.r a)).m ?_;rintro V i ⟨rfl,g⟩;clear z A B C D E G H K;obtain⟨z,A,B,C⟩:=u i (a.r g);obtain⟨D,E,G,H,K⟩:=q i (a.r g);by_cases N:(a0:Int)=12;have t1:=eqT N;rotate_left;have hn:s.H=1048576:=by omega
 have t1:=eqF N;have t2:=eqT hn
 all_goals
  obtain⟨p,T⟩:=zr (U i (a.r g)) ((j.r (a.r g)).sr (b:=w+1+1) (by omega) #[Y Z 0,Y Z 0,O J 0 0,O J 0 0]);have Q:=I (x5 i (w+1+1) _ #[Y Z 0,Y Z 0,O J 0 0,O J 0 0] _ _ p);go_wp2_with (refine z6 (w+1+1) #[Y Z 0,Y Z 0,O J 0 0,O J 0 0] p ?_);exact v6 (bC (u1:=5) (u2:=6) rfl _ _ (w+1+1) 34 #[Y Z 0,Y Z 0,O J 0 0,O J 0 0] (0,0) _ rfl Q underlying34 rfl size34) rfl (cV R T)
theorem Qa (w:y4) (V bv pv:y5) (s:aG) (r:aF) (hl:aK w V s.K) (hb:aS w bv s.F) (hp:aM w pv r.A) (hI:I64 r.B/\I64 r.D/\I64 r.C/\I64 r.E) (h0:aI s=0) (b1:fZ s.K r=0) (dc:¬ r.D<s.G) (E:¬ (s.F.length=12\/s.H=1048576)) :
  y8 prog 67 #[.agg #[s.G,s.H,V,bv],.agg #[r.B,r.D,r.C,r.E,pv]] w (dF w (aW s r)):=by
 obtain⟨F,bd⟩:=zr (λ(W:y4) (d:d7 w W)=>cO W V bv s (hl.m d) (hb.m d)) (λ(W:y4) (d:d7 w W)=>oI W V pv s.K r (hl.m d) (hp.m d));obtain⟨wb,ce,HX,bl,bk,bq,dv⟩:=jP w s r V bv pv;obtain⟨b0,ab,az,bp,cR⟩:=zm HX bl bk bq ce;clear HX bl bk ce bq;have hm:=zI h0 b1 dc;obtain⟨HN,HI⟩:=zr (qK hm E) (rD hm E);rw[h0] at F;rw[b1] at bd;obtain⟨hs,aw,g1,i,bz,_⟩:=aAF hm;obtain⟨bc,hq⟩:∃ bc:Nat,r.B=bc:=⟨r.B.toNat,by omega⟩;obtain⟨ok,b2,b4⟩:=eR hs;obtain⟨m1,m3⟩:=aw.many;obtain⟨_,b5,_⟩:=cD (bS hs).1;have RI:=I (show ∀ (W:y4),d7 w W->y8 prog 117 #[V,bv,r.B] W (Ou W (kJ s r)) from λW d=>by
  have:=wU W V bv s.K s.F bc (by omega) (hl.m d) (hb.m d) ok b4 b2;rw[<- hq] at this;have j:tab (eQ s.K s.F r.B)=tab (kJ s r):=Fp (λc c=>by unfold kJ;rw[gF c]);refine this.m λe q ⟨E,z⟩=>⟨by rw[E,j],z⟩)
 obtain⟨PI,OW⟩:=zr (λ(W:y4) (d:d7 w W)=>aEi W (kJ s r) r pv (hp.m d) aw (Lm bz)) (λ(W:y4) (d:d7 w W)=>qX W V bv s (hl.m d) (hb.m d) ok b2 b4);have t1:=eqF (a:=(s.F.length:Int)) (b:=12) (λd=>E (.inl (by omega)));have t2:=eqF (a:=s.H) (b:=1048576) (λd=>E (.inr d));have dt:0<=s.H/\s.H<1048576:=⟨b5.2.2.1,by have:=b5.2.2.2;have:s.H≠1048576:=λd=>E (.inr d);omega⟩;have dh:s.F.length<12:=by have:s.F.length≠12:=λd=>E (.inl d);omega
 obtain⟨bj,cy,ay,ak,bh⟩:=zm (And.intro m1 m3) hp (show r.A≠[] from λd=>by rw[d] at m1;exact absurd m1 (by decide)) hI (λd:cA (kJ s r) r≠[]=>(⟨g1,i,sM aw d⟩:bU s.K ⟨s.H,r,cA (kJ s r) r⟩).many.2);obtain⟨qa,qc,rfl,_,_,_⟩:=hl.i;obtain⟨d6,da,rfl,_,_,_⟩:=hb.i;obtain⟨pa,pc,rfl,_,_,_⟩:=hp.i;clear hl hb hp h0 b1 hs aw bz ok b2 b4 E hm hq g1 i b5 m1 m3 hI;generalize cA (kJ s r) r=g at *;generalize kJ s r=x at *;generalize aW s r=sr at *;generalize cb:s.K.length=n at *;generalize bx:s.F.length=e at *;generalize cc:r.A.length=h at *;obtain⟨cz,ai,al⟩:=zq cb bx cc;clear cb bx cc;go_enter func67,ntmps67;go_wp2_with fail;rw[cR.o];refine(F _ b0).m ?_;rintro j w2 ⟨rfl,T⟩;obtain⟨a0,a1,a2,a3⟩:=ab w2 T;obtain⟨c0,c1,c2,c3,c4⟩:=az w2 T;go_wp2_with fail;refine(bd _ (b0.r T)).m ?_;rintro j w3 ⟨rfl,ag⟩;clear a0 a1 a2 a3 c0 c1 c2 c3 c4;obtain⟨cf,dg⟩:=zr (b0.r (T.r ag)) (T.r ag);obtain⟨a0,a1,a2,a3⟩:=ab w3 (T.r ag);obtain⟨c0,c1,c2,c3,c4⟩:=az w3 (T.r ag);clear T ag;go_wp2_with fail
 go_region_held3 (λq=>(q ⟨w,2,J⟩=M (O qa n qc)/\q ⟨w,3,J⟩=M (O d6 e da)/\q ⟨w+1,0,J⟩=M (Y Z r.B)/\q ⟨w+1,1,J⟩=M (Y Z r.D)/\q ⟨w+1,2,J⟩=M (Y Z r.C)/\q ⟨w+1,3,J⟩=M (Y Z r.E)/\q ⟨w+1,4,J⟩=M (O pa h pc)))
  (first
   | go_keep
   | (
     go_split_ands
     exact⟨c.c (by assumption),c.c (by assumption),c.c (by assumption),c.c (by assumption),c.c (by assumption),c.c (by assumption),c.c (by assumption)⟩))
  (first
   | (go_at_call 117;refine(RI _ cf.dr).m ?_;rintro j W1 ⟨rfl,c⟩;have f:=I (cf.dr.r c);have p:=I (dg.dr.r c))
   | (go_at_call 121;refine(PI _ f).m ?_;rintro j W2 ⟨u,d9,rfl,c,l,k⟩;have Hy:=I l;have Hn:=I k;have ao:=I (f.r c);have ad:=I (p.r c);clear l k))
 clear a0 a1 a2 a3 c0 c1 c2 c3 c4;cases d9 with
 | false=>
  have HR:=I (HN (Hn rfl));clear HN HI Hy Hn;obtain⟨c,k⟩:=zr (bp W2 (ad.o)) ((ao.o).sr (b:=w+1+1) (by omega) #[Y Z 0,Y Z 0,O J 0 0,O J 0 0]);have f:=I (x5 W2 (w+1+1) _ #[Y Z 0,Y Z 0,O J 0 0,O J 0 0] _ _ c);go_wp2_with (refine z6 (w+1+1) #[Y Z 0,Y Z 0,O J 0 0,O J 0 0] c ?_);exact v6 (bC (u1:=5) (u2:=6) rfl _ _ (w+1+1) 34 #[Y Z 0,Y Z 0,O J 0 0,O J 0 0] (0,0) _ rfl f underlying34 rfl size34) rfl (cV HR k)
 | true=>
  obtain⟨hL,hv⟩:=Hy rfl;obtain⟨HR,HV⟩:=zr (HI hL) hv;obtain⟨va,vc,rfl,dx,dy,dz,cd⟩:=mN HV;have bb:1<=g.length:=aHX.2 hL;obtain⟨vb,vo,rfl,dw,hE⟩:=cd bb;have aa:=I hL;clear HN HI Hy Hn cd hE hL hv;generalize ci:g.length=m at *;have Hm:=I ci;clear ci;obtain⟨a0,a1,a2,a3⟩:=ab W2 ad;go_wp2_with fail;refine(OW _ ao).m ?_;rintro j c ⟨u7,v7,rfl,a6,ah⟩;clear a0 a1 a2 a3;obtain⟨k,p,rfl,bQ,c6⟩:=a6.uform;obtain⟨Q,R,rfl,ba⟩:=a6.vform;rw[ai.o] at a6 ba ⊢;rw[cz.o] at a6 ⊢;obtain⟨bm,d3,an,cm⟩:=zp (ao.r ah) (ad.r ah) ba (And.intro bQ c6);obtain⟨l,aq⟩:∃ l,(c.alloc (zt #[Y Z 0,Y Z 0,O J 0 0,O J 0 0] 34)).setRow c #[s.G,s.H,O (M ⟨k,0,J⟩) n p,O Q e R]=l:=⟨_,rfl⟩;have a8:d7 c l:=aq▸((b8 c).a _).sr (b:=c) (aGi _) _;have af:l.heap[c.heap.size]?=M (zt #[s.G,s.H,O (M ⟨k,0,J⟩) n p,O Q e R] 34 (0,0)):=aq▸x5 (c.alloc _) c _ _ _ _ (y7 c _);obtain⟨cL,bn,ap,cu,bf,ac,cE,cw⟩:=zi aq (bm.r a8) (d3.r a8) ((((a6.under (r:=w+1+1) (by have:=ad.size;omega)).low (B2:=w.heap.size) ao.size (λr hr=>hr)).box (aGi _)).e a8) af (show c.heap.size<l.heap.size from (aGq.1 af).1) ((HV.o:bF W2 _ g).m (ah.r a8)) (cy.m (bm.r a8));obtain⟨OB,am⟩:=zr (λ(W:y4) (d:d7 l W)=>xD W (O pa h pc) (O (M ⟨vb,vo,J⟩) m vc) ⟨s.H,r,g⟩ (by have:=aM.m cw d;exact this) (by have:=bF.m cE d;exact this) ⟨⟨ay.o,aa⟩,by show 1<=r.A.length/\r.A.length<=3;rw[al.o];exact bj,by show 1<=g.length;rw[Hm.o];exact bb,by show g.length<=3;rw[Hm.o];exact bh aa⟩) (And.intro ad.size ah.size);clear ah a8 af aq a6 ba bQ c6;go_wp2_with (refine z6 c #[s.G,s.H,O (M ⟨k,0,J⟩) n p,O Q e R] (y7 c _) ?_);rw[cL.o];obtain⟨ib,di,dj,dk,dl⟩:=s8 info80;have e3:l ⟨c,3,J⟩=M (O Q e R):=y6 _ _ 3 _ _ _ bf;obtain⟨a0,a1,a2,a3⟩:=ab l ap;obtain⟨c0,c1,c2,c3,c4⟩:=az l ap;obtain⟨db,o1,c9⟩:=cu.more (by rw[ai.o];exact dh);rw[ai.o] at o1;obtain⟨cq,cn⟩:=zr o1 c9;clear o1 c9;have b6:∀ y,(O Q e R).ownBlock=M y->w.heap.size+1+1<y:=λy P=>by have:=(an y P).1;have:=am.1;omega
  refine cN 11 (λW=>W ⟨c,3,J⟩=M (O Q e R)/\W ⟨w,1,J⟩=M (Y Z s.H)/\W ⟨w+1,0,J⟩=M (Y Z r.B)/\W ⟨w+1,1,J⟩=M (Y Z r.D)/\W ⟨w+1,2,J⟩=M (Y Z r.C)/\W ⟨w+1,3,J⟩=M (Y Z r.E)/\W ⟨w+1,4,J⟩=M (O pa h pc)) (by kernel_rfl) ⟨e3,a1,c0,c1,c2,c3,c4⟩ (λa4=>?_);clear e3 a0 a1 a2 a3 c0 c1 c2 c3 c4;refine tkT 0 ?_;refine tkT 1 ?_;refine tkT 2 ?_;refine tkT 3 ?_;refine tkT 4 ?_;refine tkT 5 ?_;refine tkT 6 ?_;refine goT 7 λX K=>?_;simp only[zA,zB,zC];go_simp;refine(OB _ (b8 l).dr).m ?_;rintro j A ⟨G,C,H,D,he,de,df,av,ax,U⟩;have dd:j=zv (.agg #[s.H,r.B,r.D,r.C,r.E,O (M ⟨G,0,J⟩) h C,O (M ⟨H,0,J⟩) m D]):=by
   have e1:(⟨s.H,r,g⟩:aH).P.A.length=h:=al.o;have f:(⟨s.H,r,g⟩:aH).L.length=m:=Hm.o;rw[he,e1,f]
  subst dd;have av:aM A (O (M ⟨G,0,J⟩) h C) r.A:=by have d:=av;rw[show (⟨s.H,r,g⟩:aH).P.A.length=h from al.o] at d;exact d
  have ax:bF A (O (M ⟨H,0,J⟩) m D) g:=by have d:=ax;rw[show (⟨s.H,r,g⟩:aH).L.length=m from Hm.o] at d;exact d
  go_wp2_with fail;refine K.out _ _ ?_ (λa4=>?_)
  ·(obtain⟨k0,N,k2,k3,k4,k5,k6⟩:=a4;exact⟨U.c k0,U.c N,U.c k2,U.c k3,U.c k4,U.c k5,U.c k6⟩)
  clear K X;refine goT 8 λX K=>?_;simp only[zA,zB,zC];go_simp;refine K.out _ _ ?_ (λa4=>?_)
  ·(obtain⟨k0,N,k2,k3,k4,k5,k6⟩:=a4;have f:=(b8 A).a (zt #[s.H,r.B,r.D,r.C,r.E,O (M ⟨G,0,J⟩) h C,O (M ⟨H,0,J⟩) m D] 80);exact⟨f.c k0,f.c N,f.c k2,f.c k3,f.c k4,f.c k5,f.c k6⟩)
  clear K X;have ch:d7 l A:=(b8 l).dr.r U;have bw:=ch.a (zt #[s.H,r.B,r.D,r.C,r.E,O (M ⟨G,0,J⟩) h C,O (M ⟨H,0,J⟩) m D] 80);have du:c.heap.size<A.heap.size:=aGs ac ch.size;obtain⟨bo,cx,cF,a9,co⟩:=zm (bn.r bw) (av.m ((b8 A).a (zt #[s.H,r.B,r.D,r.C,r.E,O (M ⟨G,0,J⟩) h C,O (M ⟨H,0,J⟩) m D] 80))) (ax.m ((b8 A).a (zt #[s.H,r.B,r.D,r.C,r.E,O (M ⟨G,0,J⟩) h C,O (M ⟨H,0,J⟩) m D] 80))) bw (Dg A [Y Z s.H,Y Z r.B,Y Z r.D,Y Z r.C,Y Z r.E,O (M ⟨G,0,J⟩) h C,O (M ⟨H,0,J⟩) m D] 80 rfl);refine goT 9 λX K=>?_;simp only[zA,zB,zC];rw[c7 (by rfl)];refine wp_append_lies _ _ _ _ (by rfl) w 80 ib _ 7 88 underlying32 di dj dk dl rfl (by decide) (O Q e R) e db.flatten (by rfl) (aJ cq a9) ⟨A,0,J⟩ 1 1 [Y Z s.H,Y Z r.B,Y Z r.D,Y Z r.C,Y Z r.E,O (M ⟨G,0,J⟩) h C,O (M ⟨H,0,J⟩) m D] (by rfl) (by rfl) co (by simp[aGr]) (by omega) (by unfold o0;omega) (by omega) bo.size (A+1) (by simp) ?_;intro i t L ca au c8 ds;have S:∀ (b:Nat) (o:Nat) (u:y5),(A.alloc (zt #[s.H,r.B,r.D,r.C,r.E,O (M ⟨G,0,J⟩) h C,O (M ⟨H,0,J⟩) m D] 80)) ⟨b,o,J⟩=M u->(b<=w+1\/b=c.heap.size)->L ⟨b,o,J⟩=M u:=λb o u d hb=>by
   rw[aHm (a:=⟨b,o,J⟩) (au.block b (aGp _ ⟨b,o,J⟩ d) (λj=>by have E:=b6 b j.symm;have z:=(an b j.symm).2;omega))];exact d
  refine K.out _ _ ?_ (λa4=>?_)
  ·(obtain⟨k0,N,k2,k3,k4,k5,k6⟩:=a4;exact⟨S _ _ _ k0 (.inr rfl),S _ _ _ N (.inl (by omega)),S _ _ _ k2 (.inl (by omega)),S _ _ _ k3 (.inl (by omega)),S _ _ _ k4 (.inl (by omega)),S _ _ _ k5 (.inl (by omega)),S _ _ _ k6 (.inl (by omega))⟩)
  clear K X;have b3:L.heap[c.heap.size]?=M (zt #[s.G,s.H,O (M ⟨k,0,J⟩) n p,O Q e R] 34 (0,0)):=
   (au.block c (by simp;omega) (λj=>by have z:=(an _ j.symm).2;omega)).trans ((a9.block _ ac).trans bf)
  have f3:=x4 L c 3 _ _ b3;obtain⟨be,bi,aj,bg⟩:=zp b3 ca au c8;clear ca au c8 S b3;refine tkT 10 ?_;refine laT λX K=>?_;simp only[zA,zB,zC];obtain⟨k0,_⟩:=a4;go_simp;refine K.out _ _ ?_;clear K X;have bR:=aN L c 3 (O (M ⟨i,0,J⟩) (e+1) t);have br:cH [c.heap.size,w.heap.size+1+1] w L (O (M ⟨k,0,J⟩) n p) (O (M ⟨i,0,J⟩) (e+1) t) s.K (s.F++[⟨s.H,r,g⟩]):=by
   refine cn _ L i (e+1) t [Y Z s.H,Y Z r.B,Y Z r.D,Y Z r.C,Y Z r.E,O (M ⟨G,0,J⟩) h C,O (M ⟨H,0,J⟩) m D] ⟨s.H,r,g⟩ a9 ⟨_,_,rfl,⟨_,rfl,by have d:=cx.o;exact d,ak.1,ak.2.1,ak.2.2.1,ak.2.2.2⟩,cF,⟨by show -9223372036854775808<=s.H;omega,by show s.H<=9223372036854775807;omega⟩⟩ ?_ ?_ bi (by rw[ai.o]) aj (by have d:=bg.o;rw[aHb];exact d) ?_
   ·exact⟨⟨ay.o,aa⟩,by show 1<=r.A.length/\r.A.length<=3;rw[al.o];exact bj,by show 1<=g.length;rw[Hm.o];exact bb,by show g.length<=3;rw[Hm.o];exact bh aa⟩
   ·have d:=Ft (W:=l) (W1:=A.alloc (zt #[s.H,r.B,r.D,r.C,r.E,O (M ⟨G,0,J⟩) h C,O (M ⟨H,0,J⟩) m D] 80)) (B:=w.heap.size) (ex:=[c.heap.size,w.heap.size+1+1]) (u:=O (M ⟨k,0,J⟩) n p) (v:=O Q e R) (n1:=h) (n2:=m) (c1:=C) (c2:=D) (x:=⟨s.H,r,g⟩) bn.size de df (by rw[aHb];have:=Fr av ay;omega) (by rw[aHb];have:=Fr ax aa;omega) (λy P=>by
     have z:y=c.heap.size\/y=w.heap.size+1+1:=by simpa using P
     have:=am.o;have:=ac.o;omega) (λy P=>by
     have z:k=y:=by simpa[aHR] using P
     have:=cm.o;have:=ac.o;omega) (λy P=>by
     have:=an y P;have:=ac.o;omega)
    exact d
   intro f N;rw[aHb];have z:f=c.heap.size\/f=w.heap.size+1+1:=by simpa using N
   have:=am.o;omega
  obtain⟨z,a7⟩:∃ z,L.setCell ⟨c,3,J⟩ (O (M ⟨i,0,J⟩) (e+1) t)=z:=⟨_,rfl⟩;have ar:z.heap[c.heap.size]?=M (zt #[s.G,s.H,O (M ⟨k,0,J⟩) n p,O (M ⟨i,0,J⟩) (e+1) t] 34 (0,0)):=a7▸x6 L c 3 _ _ _ be;have dr:w.heap.size+1+1<c.heap.size:=by have:=am.o;omega
  have cg:d7 w L:=bo.gr aj (λy P=>by have:=b6 y P;omega);obtain⟨cr,d0⟩:=zr (a7▸br.kept bR (aHv ..)) (a7▸cg.se (b:=c) (o:=3) (by omega) (O (M ⟨i,0,J⟩) (e+1) t));have hold:∀ b,b<=w.heap.size+1+1->z.heap[b]?=wb.heap[b]?:=λb hb=>by
   have f:b<wb.heap.size:=by omega
   have af:b<l.heap.size:=by have:=ap.size;omega
   rw[<- a7,x7 L ⟨c,3,J⟩ b _ (by show b≠c;omega),aj.block b (by have:=a9.size;omega) (λj=>by have:=b6 b j.symm;omega),a9.block b af,ap.block b f]
  have cv:=I hold;have cj:=(hold (w+1+1) (aGi _)).trans (bp wb (b8 wb));obtain⟨d4,ck⟩:=zr cj ar;rw[a7];clear a7 bR br cg be bi aj bg k0 cj;have e1:z ⟨c,1,J⟩=M (Y Z s.H):=y6 _ _ 1 _ _ _ ar;have f1:=x4 z c 1 _ _ ar;have dA:IntKind.i64.wrap (s.H+1)=s.H+1:=by rw[IntKind.wrap_i64];omega
  clear ar hold f3;go_wp2_with fail;obtain⟨f,a5⟩:∃ f,z.setCell ⟨c,1,J⟩ (Y Z (s.H+1))=f:=⟨_,rfl⟩;rw[a5];have c5:z.grownBy f (M c):=a5▸aN z c 1 (Y Z (s.H+1));have ae:f.heap[c.heap.size]?=M (zt #[s.G,Y Z (s.H+1),O (M ⟨k,0,J⟩) n p,O (M ⟨i,0,J⟩) (e+1) t] 34 (0,0)):=a5▸x6 z c 1 _ _ _ ck;obtain⟨cs,d1⟩:=zr (cr.kept c5 (aHv ..)) (a5▸d0.se (b:=c) (o:=1) (by omega) (Y Z (s.H+1)));have N:f.heap[w.heap.size+1+1]?=M (zt #[Y Z 0,Y Z 0,O J 0 0,O J 0 0] 34 (0,0)):=by
   rw[<- a5,x7 z ⟨c,1,J⟩ _ _ (by show w.heap.size+1+1≠c.heap.size;omega)];exact d4
  have a1:f ⟨w,1,J⟩=M (Y Z s.H):=by
   obtain⟨_,E,_⟩:=ab wb (b8 wb);rw[<- E];refine aHm (a:=⟨w,1,J⟩) ?_;rw[<- a5];exact(x7 z ⟨c,1,J⟩ _ _ (by show w.heap.size≠c.heap.size;omega)).trans (cv w (by omega))
  have dm:f ⟨c,0,J⟩=M (Y Z s.G):=y6 _ _ 0 _ _ _ ae;have dn:f ⟨c,1,J⟩=M (Y Z (s.H+1)):=y6 _ _ 1 _ _ _ ae;have dp:f ⟨c,2,J⟩=M (O (M ⟨k,0,J⟩) n p):=y6 _ _ 2 _ _ _ ae;have dq:f ⟨c,3,J⟩=M (O (M ⟨i,0,J⟩) (e+1) t):=y6 _ _ 3 _ _ _ ae;have z0:f ⟨w+1+1,0,J⟩=M (Y Z 0):=y6 _ _ 0 _ _ _ N;have z1:f ⟨w+1+1,1,J⟩=M (Y Z 0):=y6 _ _ 1 _ _ _ N;have z2:f ⟨w+1+1,2,J⟩=M (O J 0 0):=y6 _ _ 2 _ _ _ N;have z3:f ⟨w+1+1,3,J⟩=M (O J 0 0):=y6 _ _ 3 _ _ _ N;have y0:=x4 f (w+1+1) 0 _ _ N;have y1:=x4 f (w+1+1) 1 _ _ N;have y2:=x4 f (w+1+1) 2 _ _ N;have y3:=x4 f (w+1+1) 3 _ _ N;have n1:w.heap.size+1+1≠c.heap.size:=by omega
  have n2:w.heap.size+1+1≠w.heap.size:=by omega
  have d5:=I N;clear a5 c5 ae N e1 f1
  go_region_held3 (λq=>(q ⟨c,0,J⟩=M (Y Z s.G)/\q ⟨c,1,J⟩=M (Y Z (s.H+1))/\q ⟨c,2,J⟩=M (O (M ⟨k,0,J⟩) n p)/\q ⟨c,3,J⟩=M (O (M ⟨i,0,J⟩) (e+1) t)/\q ⟨w,1,J⟩=M (Y Z s.H)))
   (go_keep) (fail)
  have bt:=cs.kept (vP f (w+1+1) (Y Z s.G) (Y Z (s.H+1)) (O (M ⟨k,0,J⟩) n p) (O (M ⟨i,0,J⟩) (e+1) t)) (aGc _ (aHv ..));have bu:=(((d1.se (b:=w+1+1) (o:=0) (by omega) (Y Z s.G)).se (b:=w+1+1) (o:=1) (by omega) (Y Z (s.H+1))).se (b:=w+1+1) (o:=2) (by omega) (O (M ⟨k,0,J⟩) n p)).se (b:=w+1+1) (o:=3) (by omega) (O (M ⟨i,0,J⟩) (e+1) t);obtain⟨ct,d2,cl⟩:=zq (bt.e (b8 _).dr) bu.dr (Cs (a0:=Y Z s.G) (a1:=Y Z (s.H+1)) (a2:=O (M ⟨k,0,J⟩) n p) (a3:=O (M ⟨i,0,J⟩) (e+1) t) d5);clear bt bu;go_wp2_with fail;exact v6 (bC (u1:=5) (u2:=6) rfl _ _ (w+1+1) 34 #[s.G,Y Z (s.H+1),O (M ⟨k,0,J⟩) n p,O (M ⟨i,0,J⟩) (e+1) t] (0,0) _ rfl cl underlying34 rfl size34) rfl (nP (s:=Mq s r g) HR (.inl (ct.low (aGi _) (λr hr=>by cases hr))) d2)
theorem Vp (w:y4) (c a b:y5) (s:aG) (r:aF) (e:aK w c s.K) (hb:aS w a s.F) (f:aM w b r.A) (j:I64 r.B/\I64 r.D/\I64 r.C/\I64 r.E) :
  y8 prog 67 #[.agg #[s.G,s.H,c,a],.agg #[r.B,r.D,r.C,r.E,b]] w (dF w (aW s r)):=by
 by_cases d:aI s=0
 ·by_cases g:fZ s.K r=0
  ·by_cases h:r.D<s.G
   ·exact Qd w c a b s r e hb f d g h
   by_cases i:s.F.length=12\/s.H=1048576
   ·exact Qb w c a b s r e hb f d g h i
   exact Qa w c a b s r e hb f j d g h i
  exact Vn w c a b s r e hb f d g
 exact Vo w c a b s r e hb f d
theorem pA {α:Type}:∀ (css:List (List α)),(∀ a∈css,a.length=7)->∀ a,css.flatten.take (a*7)=(css.take a).flatten
 | [],_,a=>by simp
 | c::css,h,0=>by simp
 | c::css,h,a+1=>by
  have d:=h c (aHv ..);rw[List.take_succ_cons,aHH,aHH,List.take_append,d,aHF (by omega),show (a+1)*7-7=a*7 by omega,pA css (λb e=>h b (aGc _ e)) a]
theorem fJ {α:Type}:∀ (css:List (List α)),(∀ a∈css,a.length=7)->∀ a,css.flatten.drop (a*7)=(css.drop a).flatten
 | [],_,a=>by simp
 | c::css,h,0=>by simp
 | c::css,h,a+1=>by
  have d:=h c (aHv ..);rw[List.drop_succ_cons,aHH,List.drop_append,d,List.drop_eq_nil_of_le (by omega),aH9,show (a+1)*7-7=a*7 by omega,fJ css (λb e=>h b (aGc _ e)) a]
theorem cH.rerow {ex:List Nat} {B g z cap:Nat} {W:y4} {u:y5} {l:List Queue} {b:List aH} (r:cH ex B W u (O (M ⟨g,0,J⟩) z cap) l b) (K:b.length=z) :
  ∃ (css:List (List y5)) (cur:Array y5),W.heap[g]?=M (zt cur 80 (0,0))/\cur.size=cap*7/\cur.toList.take (z*7)=css.flatten/\css.length=z/\(∀ cs∈css,cs.length=7)/\(∀ u∈css.flatten,u.oneCell'=true)/\z<=cap/\cap<=o0/\B<=g/\(∀ W',W.grownBy W' (M g)->∀ (k:Nat) (cs:List y5) (x:aH),css[k]?=M cs->b[k]?=M x->fW W' cs x)/\
   ∀ (W':y4) (i:Nat) (c:List (List y5)) (e:List aH) (n:Array y5),W.grownBy W' (M g)->W'.heap[g]?=M (zt n 80 (0,0))->n.size=cap*7->n.toList.take (i*7)=c.flatten->i<=cap->e.length=i->c.length=i->i<=12->
    (∀ (k:Nat) (cs:List y5) (x:aH),c[k]?=M cs->e[k]?=M x->∃ a:Nat,css[a]?=M cs/\b[a]?=M x)->cH ex B W' u (O (M ⟨g,0,J⟩) i cap) l e:=by
 obtain⟨N,qc,rfl,p,s,P,a8,X,hs,U,hl,Q,⟨css,o1,m,o3,L⟩,H,hq⟩:=r;rcases o1.2 with ⟨C,_⟩|⟨D,a7,cur,C,F,S,a1,G,v,a5⟩
 ·cases C
 cases C;rw[K] at *;refine⟨css,cur,S,v,a5,by rw[m.len,K],m.seven,m.one,a1,G,F,λW' o k cs x p s=>gY (m.each k cs x p s) o (L g rfl cs (aGC p)),λW' i c e n o T a3 a4 aa t R a9 A=>?_⟩;have a2:∀ cs∈c,∃ (x:aH) (a:Nat),x∈e/\css[a]?=M cs/\b[a]?=M x:=λcs d=>by
  obtain⟨k,h⟩:=aHK.1 d;have V:=(aGw.1 h).1;obtain⟨x,j⟩:=aV (f:=e) (k:=k) (by omega);obtain⟨a,q,y⟩:=A k cs x h j;exact⟨x,a,aGC j,q,y⟩
 have w:∀ cs∈c,cs∈css:=λcs d=>by
  obtain⟨x,a,_,r,_⟩:=a2 cs d;exact aGC r
 have a0:Am e:=λx j=>by
  obtain⟨k,h⟩:=aHK.1 j;have V:=(aGw.1 h).1;obtain⟨cs,v⟩:=aV (f:=c) (k:=k) (by omega);obtain⟨a,_,E⟩:=A k cs x v h;exact hl x (aGC E)
 have E:=L g rfl;refine⟨N,qc,rfl,p,s,P,by omega,X,aGs hs o.size,U,a0,Q,⟨c,⟨?_,.inr ⟨g,cap,n,by rw[t],F,T,by omega,G,a3,by rw[t];exact a4⟩⟩,⟨by omega,λk cs x h j=>?_⟩,λcs d=>o3 cs (w cs d),λD V=>?_⟩,λa6 hr=>H a6 hr,?_⟩
 ·rw[iP c (λcs d=>m.seven cs (w cs d)),R,t]
 ·obtain⟨a,q,y⟩:=A k cs x h j;exact gY (m.each a cs x q y) o (E cs (aGC q))
 ·obtain rfl:g=D:=by simpa[aHR] using V
  exact λcs d=>E cs (w cs d)
 exact hq.kept o (aHV _ (aHf.2 rfl)) (H g rfl).1
theorem vH {g:Nat} {T:o8}:∀ (b:List y5) (o:Nat) (W:y4) (cur:Array y5),W.heap[g]?=M (zt cur T (0,0))->
  ∃ a,(W.setCells g o b).heap[g]?=M (zt a T (0,0))/\a.size=cur.size/\a.toList.take o=cur.toList.take o/\W.grownBy (W.setCells g o b) (M g)
 | [],o,W,cur,h=>⟨cur,h,rfl,rfl,cC (b8 W)⟩
 | v::b,o,W,cur,h=>by
  obtain⟨a,d,e,f,i⟩:=vH b (o+1) (W.setCell ⟨g,o,J⟩ v) _ (x6 W g o cur T v h);refine⟨a,d,by simpa using e,?_,bT (aN W g o v) i⟩;have c:a.toList.take o=(a.toList.take (o+1)).take o:=by rw[aI0];congr 1;omega
  rw[c,f,aI0,show min o (o+1)=o by omega,aHU,aI1 (aGi _)]
def rC (n:Nat):List y5:=(Builtin.zeroCells #[Y Z 0,Y Z 0,Y Z 0,Y Z 0,Y Z 0,O J 0 0,O J 0 0] n).toList
theorem Lx (w:y4) (k:o8) (b o n c:Nat) (l:0<n) (h:∀ a,a<n*7->(w ⟨b,o+a,J⟩).isSome=true) (i:∀ a,a<n*7->w.frozen? ⟨b,o+a,J⟩=false) :
  (Builtin.clear_ #[32] k #[O (M ⟨b,o,J⟩) n c]).run prog w=.ok (zw #[]) (w.setCells b o (rC n)):=by
 have f:(rC n).length=n*7:=by
  unfold rC;rw[aI2,size_zeroCells];rfl
 have g:∀ d∈rC n,d.oneCell'=true:=λd e=>by
  unfold rC Builtin.zeroCells at e;rw[Array.toList_map,List.mem_map] at e;obtain⟨d,_,rfl⟩:=e;have j:d % 7<7:=Nat.mod_lt _ (by omega);show (#[Y Z 0,Y Z 0,Y Z 0,Y Z 0,Y Z 0,O J 0 0,O J 0 0]:Array y5)[d % 7]!.oneCell'=true;generalize d % 7=a at j;rcases(by omega:a=0\/a=1\/a=2\/a=3\/a=4\/a=5\/a=6) with rfl|rfl|rfl|rfl|rfl|rfl|rfl <;> rfl
 have d:=run_storeCells_cells (P:=prog) b o (rC n) 0 w (by rw[f];simpa using h) (by rw[f];simpa using i) g;simp only[aGM] at d;obtain⟨m,rfl⟩:∃ m,n=m+1:=⟨n-1,by omega⟩;unfold rC at d ⊢;simp[Builtin.clear_,run_underlying underlying32,Value.cells,d]
theorem sV {P:o9} {o:Oper} {a:Act} {w:y4} {K:Act->y4->Prop} {Q:Exit->Act->y4->Prop} (s x:Operand) (t:o8)
  (q:o.op=.call { callee:=.builtin .append,args:=#[s,x],argTypes:=#[t,t]}) (e:o8) (i:TypeInfo) (y:P.underlying t=M (.slice e)) (k:P.info? e=M i)
  (g n cap:Nat) (cur:Array y5) (j:w.heap[g]?=M (zt cur e (0,0))) (v:a.eval s=O (M ⟨g,0,J⟩) n cap) (d:Addr) (m c:Nat) (news:List y5) (z:a.eval x=O (M d) m c)
  (l:news.length=m*i.size) (p:∀ f b,news[f]?=M b->w (d.add f)=M b) (f:∀ b∈news,b.oneCell'=true) (u:n+m<=cap) (h:n*i.size+news.length<=cur.size)
  (b:K (a.put o.dst (O (M ⟨g,0,J⟩) (n+m) cap)) (w.setRow g (cur.toList.take (n*i.size)++news++cur.toList.drop (n*i.size+news.length)).toArray)):o.wp P a w K Q:=by
 have r:=run_append_room (P:=P) w t o.type e i y k g n cap cur j d m c news l p f u h;unfold Oper.wp execOp;simp only[q,resolve,invoke,builtin,Sem.run_bind,Sem.run_pure,Result.andThen_ok,List.map_toArray,List.map_cons,List.map_nil,v,z,r];exact b
theorem Jw (g o j:Nat):(⟨g,o,J⟩:Addr).add j=⟨g,o+j,J⟩:=uS g o j
theorem mI {W:y4} {g:Nat} {cur:Array y5} {T:o8} (a:W.heap[g]?=M (zt cur T (0,0))) {o:Nat} {u:y5} (b:cur.toList[o]?=M u):W ⟨g,o,J⟩=M u:=by
 rw[y6 W g o cur T _ a];simpa using b
theorem Pi (ex:List Nat) (B:Nat) (w:y4) (u:y5) (g z cap k:Nat) (l:List Queue) (b:List aH) (V:cH ex B w u (O (M ⟨g,0,J⟩) z cap) l b) (hz:b.length=z) (hk:k<z) (ab:z<=12) :
  y8 prog 105 #[O (M ⟨g,0,J⟩) z cap,Y Z (k:Int),Y Z ((k:Int)+1)] w λc a=>c=zv (O (M ⟨g,0,J⟩) (z-1) cap)/\cH ex B a u (O (M ⟨g,0,J⟩) (z-1) cap) l (b.eraseIdx k)/\w.grownBy a (M g):=by
 obtain⟨h,o,E,D,H,hlen,s,i,ao,af,ah,a8,a1⟩:=V.rerow hz;obtain⟨ib,aa,ap,K,aq⟩:=s8 info80;have ai:((k:Int) == (k:Int)+1)=false:=eqF (by omega);have aj:k<=cap:=by omega
 have ac:(0:Int)<=(k:Int)+1:=by omega
 have ad:(k:Int)+1<=(z:Int):=by omega
 obtain⟨news,q⟩:∃ news,news=(h.drop (k+1)).flatten:=⟨_,rfl⟩;have A:news.length=(z-(k+1))*7:=by rw[q,iP _ (λU y=>s U (aI3 y)),aI4,hlen]
 have a0:∀ (a:Nat) c,a<z*7->h.flatten[a]?=M c->w ⟨g,a,J⟩=M c:=λa c j d=>mI E (by rw[<- H,aHQ j] at d;exact d);obtain⟨r,hA,a3⟩:∃ r:Addr,(if cap=k+1 then M (⟨g,0,J⟩:Addr) else M ⟨g,(k+1)*7,J⟩)=M r/\Hid (∀ (a:Nat) c,news[a]?=M c->w.drew (r.add a)=M c):=by
  by_cases e:cap=k+1
  ·refine⟨⟨g,0,J⟩,by simp[e],λa c d=>?_⟩;have f:news.length=0:=by rw[A];omega
   rw[aI5.1 f] at d;simp at d
  refine⟨⟨g,(k+1)*7,J⟩,by simp[e],λa c d=>?_⟩;have f:a<(z-(k+1))*7:=by rw[<- A];exact(aGw.1 d).1
  rw[Jw];refine a0 _ c (by omega) ?_;rw[q,<- fJ h s,aGG] at d;exact d
 obtain⟨C,R,T,Q,n⟩:=zm E a1 H q A;have P:=I (show ∀ c∈news,c.oneCell'=true from λc d=>by
  rw[q,<- fJ h s] at d;exact i c (aI3 d))
 have L:=I s;clear E a1 H q A a0 a8 i V;go_enter func105,ntmps105;go_wp2_with fail;refine v8 (S:=λ_=>True) (by kernel_rfl) trivial (λf=>?_);refine tkH 0 ?_;refine tkH 1 ?_;refine tkH 2 ?_;refine tkH 3 ?_;refine tkH 4 ?_;refine tkH 5 ?_;refine goH 6 λe W=>?_;simp only[zA,zB,zC];rw[c7 (by rfl)];refine sV _ _ _ (by rfl) 80 ib underlying32 aa g k cap o C (by rfl) r (z-(k+1)) (cap-(k+1)) news (by rfl) (by rw[n.o,K]) a3 P (by omega) (by rw[n.o,K,D];omega) ?_;refine W.out _ _ ?_ (λf=>?_)
 ·trivial
 clear W e;refine tkH 7 ?_;refine dnH ?_;rw[K,n.o];obtain⟨m,y⟩:∃ m,k+(z-(k+1))=m:=⟨_,rfl⟩;rw[y];have ak:z-m=1:=by omega
 have an:m<=z:=by omega
 have al:m<=cap:=by omega
 have am:(m:Int)<=(z:Int):=by omega
 have ag:¬ cap=m:=by omega
 obtain⟨f,x⟩:∃ f,(o.toList.take (k*7)++news++o.toList.drop (k*7+(z-(k+1))*7)).toArray=f:=⟨_,rfl⟩;rw[x];obtain⟨e,t⟩:∃ e,w.drew.setRow g f=e:=⟨_,rfl⟩;have v:e.heap[g]?=M (zt f 80 (0,0)):=t▸x5 w.drew g o f _ _ C;have F:w.grownBy e (M g):=t▸bT (cC (b8 w).dr) (aQ w.drew g f);have a2:f.size=cap*7:=by
  rw[<- x];simp only[aH2,aGb,aHB,aI4,aI2,n.o,D];omega
 have a4:f.toList.take (m*7)=(h.eraseIdx k).flatten:=by
  rw[<- x,aI6,aHS,<- Q.o];have p:o.toList.take (k*7)=(h.take k).flatten:=by
   rw[<- pA h L.o k,<- T.o,aI0,show min (k*7) (z*7)=k*7 by omega]
  have G:(o.toList.take (k*7)++news).length=m*7:=by rw[aGb,aHB,aI2,n.o,D];omega
  rw[<- p,<- G];exact aI7
 obtain⟨a7,X,a9,a5,G⟩:=vH (rC 1) (m*7) e f v;have ae:∀ p,(Builtin.clear_ #[32] p #[O (M ⟨g,m*7,J⟩) 1 (cap-m)]).run prog e=.ok (zw #[]) (e.setCells g (m*7) (rC 1)):=λp=>
  Lx e p g (m*7) 1 (cap-m) (by omega) (λa j=>by
   rw[y6 e g _ _ _ _ v,aGO (by rw[a2];omega)];rfl) (λa j=>x4 e g _ _ _ v)
 have HF:=I (R _ m (h.eraseIdx k) (b.eraseIdx k) a7 (bT F G) X (by omega) (by rw[a5,a4]) (by omega) (by rw[aI8];split <;> omega) (by rw[aI8];split <;> omega) (by omega) (λa U ar i p=>by
  rw[aI9] at i p;split at i
  ·rename_i j
   rw[c7 j] at p;exact⟨a,i,p⟩
  rename_i j
  rw[d8 j] at p;exact⟨a+1,i,p⟩))
 obtain⟨HG,a6,N⟩:=zq (bT F G) t (show z-1=m by omega);rw[a6.o];clear v F a2 a4 X a9 a5 G t x y C R T Q n P L a3 hA;go_wp2;go_ret;exact⟨by rw[N.o];rfl,by rw[N.o];exact HF,HG⟩
theorem cH.cut {ex:List Nat} {B g z cap k:Nat} {w:y4} {u:y5} {l:List Queue} {b:List aH} (x:cH ex B w u (O (M ⟨g,0,J⟩) z cap) l b) (G:b.length=z) (Q:k<z) (K:z<=12) :
  ∃ (cur:Array y5) (news:List y5) (A:Addr),w.heap[g]?=M (zt cur 80 (0,0))/\cur.size=cap*7/\z<=cap/\(if cap=k+1 then M (⟨g,0,J⟩:Addr) else M ⟨g,(k+1)*7,J⟩)=M A/\news.length=(z-(k+1))*7/\
   (∀ (j:Nat) a,news[j]?=M a->w (A.add j)=M a)/\(∀ a∈news,a.oneCell'=true)/\
   cH ex B (w.setRow g (cur.toList.take (k*7)++news++cur.toList.drop (k*7+(z-(k+1))*7)).toArray) u (O (M ⟨g,0,J⟩) (z-1) cap) l (b.eraseIdx k)/\
   w.grownBy (w.setRow g (cur.toList.take (k*7)++news++cur.toList.drop (k*7+(z-(k+1))*7)).toArray) (M g):=by
 obtain⟨d,cur,p,o,s,hlen,m,e,H,N,P,L,E⟩:=x.rerow G;obtain⟨news,n⟩:∃ news,news=(d.drop (k+1)).flatten:=⟨_,rfl⟩;have i:news.length=(z-(k+1))*7:=by rw[n,iP _ (λq D=>m q (aI3 D)),aI4,hlen]
 have C:∀ (j:Nat) a,j<z*7->d.flatten[j]?=M a->w ⟨g,j,J⟩=M a:=λj a h c=>mI p (by rw[<- s,aHQ h] at c;exact c);obtain⟨A,y,F⟩:∃ A:Addr,(if cap=k+1 then M (⟨g,0,J⟩:Addr) else M ⟨g,(k+1)*7,J⟩)=M A/\(∀ (j:Nat) a,news[j]?=M a->w (A.add j)=M a):=by
  by_cases f:cap=k+1
  ·refine⟨⟨g,0,J⟩,by simp[f],λj a c=>?_⟩;have r:news.length=0:=by rw[i];omega
   rw[aI5.1 r] at c;simp at c
  refine⟨⟨g,(k+1)*7,J⟩,by simp[f],λj a c=>?_⟩;have r:j<(z-(k+1))*7:=by rw[<- i];exact(aGw.1 c).1
  rw[Jw];refine C _ a (by omega) ?_;rw[n,<- fJ d m,aGG] at c;exact c
 have r:=aQ w g (cur.toList.take (k*7)++news++cur.toList.drop (k*7+(z-(k+1))*7)).toArray;refine⟨cur,news,A,p,o,H,y,i,F,λa c=>?_,?_,r⟩
 ·rw[n,<- fJ d m] at c;exact e a (aI3 c)
 refine E _ (z-1) (d.eraseIdx k) (b.eraseIdx k) _ r (x5 w g cur _ _ _ p) ?_ ?_ (by omega) (by rw[aI8];split <;> omega) (by rw[aI8];split <;> omega) (by omega) (λj q R e f=>?_)
 ·simp only[aH2,aGb,aHB,aI4,aI2,i,o];omega
 ·rw[aI6,aHS,<- n];have t:cur.toList.take (k*7)=(d.take k).flatten:=by
   rw[<- pA d m k,<- s,aI0,show min (k*7) (z*7)=k*7 by omega]
  have v:(cur.toList.take (k*7)++news).length=(z-1)*7:=by rw[aGb,aHB,aI2,i,o];omega
  rw[<- t,<- v];exact aI7
 rw[aI9] at e f;split at e
 ·rename_i h
  rw[c7 h] at f;exact⟨j,e,f⟩
 rename_i h
 rw[d8 h] at f;exact⟨j+1,e,f⟩
def Jb (css:List (List y5)) (b:List aH) (p:aH->Bool) (j:Nat):List (List y5 × aH):=((css.zip b).take j).filter λa=>!p a.2
def iI (css:List (List y5)) (b:List aH) (p:aH->Bool) (j:Nat):List (List y5):=(Jb css b p j).map Prod.fst
theorem aAO (css:List (List y5)) (b:List aH) (p:aH->Bool):iI css b p 0=[]:=by simp[iI,Jb]
theorem oY {css:List (List y5)} {b:List aH} {p:aH->Bool} {j:Nat} {cs:List y5} {x:aH} (c:css[j]?=M cs) (d:b[j]?=M x):iI css b p (j+1)=if p x=true then iI css b p j else iI css b p j++[cs]:=by
 have e:(css.zip b)[j]?=M (cs,x):=by rw[aIa];exact⟨c,d⟩
 unfold iI Jb;rw[aHZ,e,List.filter_append,List.map_append];by_cases a:p x=true
 ·rw[c7 a];simp[a]
 rw[d8 a];simp[a]
theorem aE9 {css:List (List y5)} {b:List aH} {p:aH->Bool} (d:css.length=b.length):(Jb css b p b.length).map Prod.snd=b.filter λc=>!p c:=by
 unfold Jb;rw[aHF (by rw[List.length_zip];omega)];have a:(css.zip b).map Prod.snd=b:=by rw[List.map_snd_zip (by omega)]
 conv=>rhs;rw[<- a]
 rw[List.filter_map];rfl
theorem aCX {css:List (List y5)} {b:List aH} {p:aH->Bool} {j k:Nat} {cs:List y5} {x:aH} (a:(iI css b p j)[k]?=M cs) (c:((Jb css b p j).map Prod.snd)[k]?=M x):∃ d:Nat,css[d]?=M cs/\b[d]?=M x:=by
 unfold iI at a;rw[aHt] at a c;cases f:(Jb css b p j)[k]? with
 | none=>rw[f] at a;cases a
 | some h=>
  rw[f] at a c;simp only[Option.map_some,Option.some.injEq] at a c;have g:=List.mem_of_mem_take (List.mem_filter.1 (aGC f)).1;obtain⟨d,e⟩:=aHK.1 g;rw[aIa] at e;exact⟨d,by rw[<- a];exact e.1,by rw[<- c];exact e.2⟩
structure Fd (w:y4) (g cap:Nat) (cur0:Array y5) (css:List (List y5)) (b:List aH) (p:aH->Bool) (j:Nat) (W:y4):Prop where
 grown:w.grownBy W (M g)
 row:∃ cur:Array y5,W.heap[g]?=M (zt cur 80 (0,0))/\cur.size=cap*7/\cur.toList.take ((iI css b p j).length*7)=(iI css b p j).flatten/\∀ m,j*7<=m->cur.toList[m]?=cur0.toList[m]?
 less:(iI css b p j).length+1<=j
theorem mA {g:Nat} {T:o8}:∀ (a:List y5) (o:Nat) (W:y4) (cur:Array y5),W.heap[g]?=M (zt cur T (0,0))->o+a.length<=cur.size->
  ∃ b,(W.setCells g o a).heap[g]?=M (zt b T (0,0))/\b.size=cur.size/\b.toList.take (o+a.length)=cur.toList.take o++a/\∀ m,o+a.length<=m->b.toList[m]?=cur.toList[m]?
 | [],o,W,cur,h,_=>⟨cur,h,rfl,by simp,λm _=>rfl⟩
 | v::a,o,W,cur,h,ho=>by
  simp only[aGt] at ho;obtain⟨b,c,d,e,f⟩:=mA a (o+1) (W.setCell ⟨g,o,J⟩ v) _ (x6 W g o cur T v h) (by rw[Array.size_setIfInBounds];omega);refine⟨b,c,by simpa using d,?_,λm i=>?_⟩
  ·rw[aGt,show o+(a.length+1)=o+1+a.length by omega,e,aHU,aHZ,aI1 (aGi _),aHy (by rw[aI2];omega)];simp
  simp only[aGt] at i;rw[f m (by omega),aHU,aHz (by omega)]
theorem iC (W:y4) (g:Nat):∀ (a:List y5) (o:Nat),W.grownBy (W.setCells g o a) (M g):=λa=>by
 induction a generalizing W with
 | nil=>exact λo=>cC (b8 W)
 | cons c a b=>exact λo=>bT (aN W g o c) (b _ (o+1))
theorem Yw {α:Type} {p:α->Bool} {xs:List α} (b:0<=fX p xs):∃ (k:Nat) (x:α),fX p xs=k/\xs[k]?=M x/\p x=true/\∀ a c,a<k->xs[a]?=M c->p c=false:=by
 unfold fX at b ⊢;cases d:xs.findIdx? p with
 | none=>rw[d] at b;exact absurd b (by decide)
 | some e=>
  obtain⟨g,i,f⟩:=aGS.1 d;refine⟨e,xs[e],rfl,aGm g,i,λa c h j=>?_⟩;obtain⟨l,rfl⟩:=aGw.1 j;have:=f a h;simpa using this
theorem Nd {css:List (List y5)} {b:List aH} {p:aH->Bool}:∀ (j:Nat),j<=css.length->css.length=b.length->(∀ a c,a<j->b[a]?=M c->p c=false)->iI css b p j=css.take j
 | 0,_,_,_=>by rw[aAO];rfl
 | j+1,hj,hl,h=>by
  obtain⟨l,d⟩:=aV (f:=css) (k:=j) (by omega);obtain⟨i,e⟩:=aV (f:=b) (k:=j) (by omega);rw[oY d e,d8 (by rw[h j i (by omega) e];simp),Nd j (by omega) hl (λa c m g=>h a c (by omega) g),aHZ,d];rfl
theorem Fd.keep {w W W':y4} {g cap j:Nat} {c:Array y5} {css:List (List y5)} {b:List aH} {p:aH->Bool} {cs:List y5} {x:aH} (a:Fd w g cap c css b p j W) (e:d7 W W') (i:css[j]?=M cs) (k:b[j]?=M x) (l:p x=true):Fd w g cap c css b p (j+1) W':=by
 obtain⟨h,f,n,o,q⟩:=a.row;have d:iI css b p (j+1)=iI css b p j:=by rw[oY i k,c7 l]
 exact⟨bT a.grown (cC e),⟨h,(e.block g (aGq.1 f).1).trans f,n,by rw[d];exact o,λm r=>q m (by omega)⟩,by rw[d];have:=a.less;omega⟩
theorem Fd.move {w W W':y4} {g cap z j:Nat} {c:Array y5} {css:List (List y5)} {b:List aH} {p:aH->Bool} {cs:List y5} {x:aH} (a:Fd w g cap c css b p j W) (f:d7 W W') (A:j<z) (D:z<=cap) (e:cs.length=7) (o:css[j]?=M cs) (q:b[j]?=M x) (r:p x=false):Fd w g cap c css b p (j+1) (W'.setCells g ((iI css b p j).length*7) cs):=by
 obtain⟨l,k,u,v,y⟩:=a.row;have B:=a.less;have d:iI css b p (j+1)=iI css b p j++[cs]:=by rw[oY o q,d8 (by rw[r];simp)]
 have t:=(f.block g (aGq.1 k).1).trans k;obtain⟨n,s,E,h,i⟩:=mA cs ((iI css b p j).length*7) W' l t (by rw[e,u];omega);rw[e] at h i;refine⟨bT a.grown (bT (cC f) (iC W' g cs _)),⟨n,s,by omega,?_,λm C=>?_⟩,by rw[d,aGb];simp;omega⟩
 ·rw[d,aGb,aHS,<- v];simp only[aGt,aGu,aHH,List.flatten_nil,List.append_nil];rw[<- h];congr 1;omega
 rw[i m (by omega),y m (by omega)]
theorem wM (ex:List Nat) (B:Nat) (w:y4) (u:y5) (g z cap:Nat) (l:List Queue) (b:List aH) (y:Nat) (lb:Array y5) (p:aH->Bool) (H:cH ex B w u (O (M ⟨g,0,J⟩) z cap) l b) (Q:b.length=z) (bj:z<=12)
  (bd:∀ (args:Array y5) (w:y4),(i6 y args).run prog w=.ok (.enter y args) w)
  (hp:∀ (k:Nat) (x:aH),b[k]?=M x->∀ W v s,w.grownBy W (M g)->aM W v x.P.A->bF W s x.L->y8 prog y (#[.agg #[x.Id,x.P.B,x.P.D,x.P.C,x.P.E,v,s]]++lb) W λd D=>d=zv (zx (p x))/\d7 W D) :
  y8 prog 101 #[O (M ⟨g,0,J⟩) z cap,zy (.func y) #[] lb] w λd D=>∃ c,d=zv (O (M ⟨g,0,J⟩) c cap)/\c=(b.filter λx=>!p x).length/\cH ex B D u (O (M ⟨g,0,J⟩) c cap) l (b.filter λx=>!p x)/\w.grownBy D (M g):=by
 obtain⟨c,G,a1,bb,a4,hlen,K,h1,bh,bk,bl,a9,ae⟩:=H.rerow Q;have ab:=H.books;have am:g<w.heap.size:=(aGq.1 a1).1;have L:∀ k x,b[k]?=M x->kM w g (0+k*7) x:=by
  rcases ab with ⟨e,_⟩|⟨_,_,_,d,_,_,_,_,L⟩
  ·intro k x A;rw[e] at A;simp at A
  cases d;exact L
 have IF:=I (show y8 prog 159 #[O (M ⟨g,0,J⟩) z cap,zy (.func y) #[] lb] w (λd D=>d=zv (Y Z (fX p b))/\d7 w D) from by
  have:=yK w g 0 cap b y lb p (by omega) am L bd (λk x A W v s e=>hp k x A W v s (cC e));rwa [Q] at this)
 have af:∀ (k:Nat) t x,c[k]?=M t->b[k]?=M x->∀ j r,j<7->t[j]?=M r->G.toList[k*7+j]?=M r:=λk t x A e j r hj hv=>by
  have h:k<z:=by rw[<- Q];exact(aGw.1 e).1
  have d:c.flatten[k*7+j]?=M r:=by rw[Nx c K k j hj,A];exact hv
  rw[<- a4,aHQ (by omega)] at d;exact d
 obtain⟨b2,b1,ay,av,HP,HH⟩:=zl af ae K a9 hp H;have ak:=Q;by_cases a2:0<=fX p b
 ·obtain⟨h,x0,an,ac,ar,ai⟩:=Yw a2;rw[an] at IF;have bo:h<z:=by rw[<- Q];exact(aGw.1 ac).1
  have be:c.length=b.length:=by omega
  obtain⟨bi,al⟩:=aV (f:=c) (k:=h) (by omega);have ao:=Nd h (by omega) be ai;have a3:iI c b p (h+1)=c.take h:=by rw[oY al ac,c7 ar,ao]
  have b3:=I (λ(W:y4) (e:d7 w W)=>show Fd w g cap G c b p (h+1) W from by
   refine⟨cC e,⟨G,(e.block g am).trans a1,bb,?_,λm _=>rfl⟩,?_⟩
   ·rw[a3,aHB,Nat.min_eq_left (by omega),<- pA c K,<- a4,aI0,show min (h*7) (z*7)=h*7 by omega]
   rw[a3,aHB];omega)
  have az:=I (by rw[a3,aHB];omega:(iI c b p (h+1)).length=h);have bq:=eqF (a:=(h:Int)) (b:=-1) (by omega);have bt:IntKind.i64.wrap ((h:Int)+1)=(h:Int)+1:=by rw[IntKind.wrap_i64];omega
  clear ab L af a1 ae a4 K a9 hp h1 H a2 ai ao a3 ar al ac an;go_enter func101,ntmps101;go_wp2_with fail;refine IF.m ?_;rintro d w2 ⟨rfl,a5⟩;have aw:=I (b3 w2 a5);go_wp2;go_loopw [5,6] (λn i wr=>∃ j:Nat,i=Y Z j/\n=Y Z ((iI c b p j).length:Nat)/\h<j/\j<=z/\Hid (Fd w g cap G c b p j wr)) (λ_ i _=>z-(intOf i).toNat);exact⟨h+1,by go_num,by rw[az.o],by omega,by omega,aw⟩;obtain⟨j,rfl,rfl,bn,hj,q⟩:=hrel;have aq:=q.less;by_cases bf:j<z
  ·have bg:=z7 j z;obtain⟨t,N⟩:=aV (f:=c) (k:=j) (by omega);obtain⟨x,P⟩:=aV (f:=b) (k:=j) (by omega);have bc:=ay t (aGC N);obtain⟨a0,i,R,S,r4⟩:=q.row;have ba:=av wr q.grown j t x N P;obtain⟨qs,s,rfl,⟨v,rfl,ad,_⟩,aa,_⟩:=ba;have cell:∀ n r,n<7->([Y Z x.Id,Y Z x.P.B,Y Z x.P.D,Y Z x.P.C,Y Z x.P.E,v,s]:List y5)[n]?=M r->wr ⟨g,j*7+n,J⟩=M r:=λn r hi hv=>mI i (by rw[r4 _ (by omega)];exact b2 j _ x N P n r hi hv);have c0:=cell 0 _ (by omega) rfl;have c1:=cell 1 _ (by omega) rfl;have c2:=cell 2 _ (by omega) rfl;have c3:=cell 3 _ (by omega) rfl;have c4:=cell 4 _ (by omega) rfl;have c5:=cell 5 _ (by omega) rfl;have c6:=cell 6 _ (by omega) rfl;rw[aGM] at c0;have V:=I (λ(W:y4) (e:d7 wr W)=>HP j x P W v s (bT q.grown (cC e)) (ad.m e) (aa.m e));obtain⟨pa,pc,rfl,_,_,_⟩:=ad.i;obtain⟨ia,ic,rfl,_,_,_⟩:=aa.i;obtain⟨U,X⟩:=zr N P;have au:∀ W,d7 wr W->W.there g ((iI c b p j).length*7) 7:=λW e n hi=>by
    have o:(iI c b p j).length*7+n<a0.toList.length:=by
     have d:a0.toList.length=cap*7:=by rw[aI2];exact R
     rw[d];omega
    refine⟨?_,?_⟩
    ·rw[e.c (mI i (aGm o))];rfl
    exact x4 W g _ _ _ ((e.block g (aGq.1 i).1).trans i)
   obtain⟨b4,b0⟩:=zr au (by omega:(iI c b p j).length<z);have bm:g<wr.heap.size:=(aGq.1 i).1;have t1:=deF (show ¬ (j:Int)<0 by omega);have t2:=deF (show ¬ (z:Int)<=(j:Int) by omega);clear cell i R S r4 ad aa au N P aq;generalize ap:(iI c b p j).length=o at *;have a8:=I ap;clear ap;cases C:p x with
   | true=>
    rw[C] at V;have F:=I C;clear C;go_wp2_with fail;refine(V _ ((b8 wr).a _)).m ?_;rintro d T ⟨rfl,a6⟩;obtain⟨E,a7⟩:=zr (q.keep (((b8 wr).a _).r a6) U X F) (by rw[oY U.o X.o,c7 F.o];exact a8:(iI c b p (j+1)).length=o);go_wp2;go_roundw;exact⟨j+1,by go_num,by rw[a7.o],by omega,by omega,E⟩;simp[intOf];omega
   | false=>
    rw[C] at V;have F:=I C;clear C;go_wp2_with fail;refine(V _ ((b8 wr).a _)).m ?_;rintro d T ⟨rfl,a6⟩;have ah:=((b8 wr).a (zt #[x.Id,x.P.B,x.P.D,x.P.C,x.P.E,O pa x.P.A.length pc,O ia x.L.length ic] 80)).r a6;have aj:T.heap[wr.heap.size]?=M (zt #[x.Id,x.P.B,x.P.D,x.P.C,x.P.E,O pa x.P.A.length pc,O ia x.L.length ic] 80 (0,0)):=(a6.block _ (by simp)).trans (y7 wr _);obtain⟨bu,k1,k2,k3,k4,k5,k6,_⟩:=eH aj;have b5:Hid (T.there g (o*7) 7):=I (b4 T ah);obtain⟨E,a7⟩:=zr (q.move (z:=z) ah bf bh bc U X F) (by rw[oY U.o X.o,d8 (by rw[F.o];simp),aGb,a8.o];rfl:(iI c b p (j+1)).length=o+1);have bp:(o:Int)<(z:Int):=by have:=b0.o;omega
    have t3:=deF (show ¬ (o:Int)<0 by omega);have t4:=deF (show ¬ (z:Int)<=(o:Int) by omega);have br:IntKind.i64.wrap ((o:Int)+1)=(o:Int)+1:=by rw[IntKind.wrap_i64];omega
    rw[a8.o] at E;obtain⟨w4,ag⟩:∃ w4,T.setCells g (o*7) (#[x.Id,x.P.B,x.P.D,x.P.C,x.P.E,O pa x.P.A.length pc,O ia x.L.length ic]:Array y5).toList=w4:=⟨_,rfl⟩;have ax:Hid (Fd w g cap G c b p (j+1) w4):=ag▸E;have b6:=I ag;clear aj ah E ag;go_wp2_with (refine wpList_store_mid rfl 80 (.tmp 33) (.tmp 32) rfl g (o*7) #[x.Id,x.P.B,x.P.D,x.P.C,x.P.E,O pa x.P.A.length pc,O ia x.L.length ic] rfl rfl b5 size80 (by simp[aGr]) ?_;rw[b6.o]);go_roundw;exact⟨j+1,by go_num,by rw[a7.o];go_num,by omega,by omega,ax⟩;simp[intOf];omega
  obtain rfl:j=z:=by omega
  have bg:=z8 j j;obtain⟨a0,i,R,S,r4⟩:=q.row;obtain⟨m,o⟩:∃ m,(iI c b p j).length=m:=⟨_,rfl⟩;rw[o] at aq S ⊢;obtain⟨U,E,X,F,s⟩:=vH (rC (j-m)) (m*7) wr a0 i;have a6:∀ v,(Builtin.clear_ #[32] v #[O (M ⟨g,m*7,J⟩) (j-m) (cap-m)]).run prog wr=.ok (zw #[]) (wr.setCells g (m*7) (rC (j-m))):=λv=>
   Lx wr v g (m*7) (j-m) (cap-m) (by omega) (λn hi=>by
    rw[y6 wr g _ _ _ _ i,aGO (by rw[R];omega)];rfl) (λn hi=>x4 wr g _ _ _ i)
  have v:((Jb c b p j).map Prod.snd)=b.filter λx=>!p x:=by rw[<- ak];exact aE9 (by omega)
  have C:(b.filter λx=>!p x).length=m:=by rw[<- v,aHC,<- o];unfold iI;rw[aHC]
  obtain⟨N,P,T⟩:=zq (b1 _ m (iI c b p j) (b.filter λx=>!p x) U (bT q.grown s) E (by omega) (by rw[F,S]) (by omega) C o (by omega) (λn t x h1 V=>aCX (j:=j) h1 (by rw[v];exact V))) (bT q.grown s) C;have ad:m<=j:=by omega
  have a8:m<=cap:=by omega
  have aa:(m:Int)<=(j:Int):=by omega
  have a7:¬ cap=m:=by omega
  clear i R S r4 o E X F s v C;go_wp2;go_ret;exact⟨m,rfl,T.symm,N,P⟩
 have h:b.any p=false:=by rw[<- uG];simpa using a2
 have n:fX p b=-1:=lL (λj q hj o=>by
  have:=aGU.1 h q (aGC o);simpa using this)
 rw[n] at IF;have i:(b.filter λx=>!p x)=b:=List.filter_eq_self.2 (λx e=>by
  have:=aGU.1 h x e;simpa using this)
 clear ab L af a1 ae a4 K a9 hp h1 H a2 h;go_enter func101,ntmps101;go_wp2_with fail;refine IF.m ?_;rintro d w2 ⟨rfl,a5⟩;go_wp2;go_ret;exact⟨z,rfl,by rw[i,ak],by rw[i];exact HH.e a5,cC a5⟩
theorem Pb (w:y4) (b:Nat) (lb:Array y5) (c:Nat) :
  y8 prog 159 #[O J 0 c,zy (.func b) #[] lb] w λa d=>a=zv (Y Z (-1))/\d=w:=by
 go_enter func159,ntmps159;go_wp2;go_loopw [8] (λa wr=>a=Y Z 0/\wr=w) (λa _=>0);exact⟨rfl,rfl⟩;obtain⟨rfl,rfl⟩:=hrel;go_wp2;go_ret;exact⟨rfl,rfl⟩
theorem Kk (w:y4) (a:Nat) (lb:Array y5) (c:Nat) :
  y8 prog 101 #[O J 0 c,zy (.func a) #[] lb] w λb d=>b=zv (O J 0 c)/\d=w:=by
 have d:=I (Pb w a lb c);go_enter func101,ntmps101;go_wp2_with fail;refine d.m ?_;rintro b f ⟨rfl,e⟩;obtain rfl:=e.symm;go_wp2;go_ret;exact⟨rfl,rfl⟩
theorem Pj (ex:List Nat) (B:Nat) (w:y4) (u v:y5) (l:List Queue) (b:List aH) (a:Nat) (lb:Array y5) (p:aH->Bool) (c:cH ex B w u v l b)
  (q:∀ (args:Array y5) (w:y4),(i6 a args).run prog w=.ok (.enter a args) w)
  (r:∀ (k:Nat) (x:aH),b[k]?=M x->∀ W e d,w.grownBy W v.ownBlock->aM W e x.P.A->bF W d x.L->y8 prog a (#[.agg #[x.Id,x.P.B,x.P.D,x.P.C,x.P.E,e,d]]++lb) W λe d=>e=zv (zx (p x))/\d7 W d) :
  y8 prog 101 #[v,zy (.func a) #[] lb] w λe d=>∃ f,e=zv f/\cH ex B d u f l (b.filter λx=>!p x)/\w.grownBy d v.ownBlock/\∀ j,f.ownBlock=M j->v.ownBlock=M j:=by
 have m:b.length<=12:=by obtain⟨f,g,rfl,_,_,_,m,_⟩:=c;exact m
 by_cases o:b=[]
 ·subst o;obtain⟨s,g,rfl,_⟩:=c.vform;cases s with
  | none=>
   refine(Kk w a lb g).m ?_;rintro e d ⟨rfl,h⟩;subst h;exact⟨_,rfl,c,⟨rfl,rfl,rfl,aGi _,λ_ _ _=>rfl⟩,λj i=>i⟩
  | some t=>
   obtain⟨f,h⟩:∃ f,t=⟨f,0,J⟩:=by
    obtain⟨E,A,_,_,_,_,_,_,_,_,_,_,⟨D,z,_⟩,_⟩:=c;rcases z.2 with ⟨n,_⟩|⟨y,C,_,n,_⟩
    ·cases n
    cases n;exact⟨y,rfl⟩
   subst h;refine(wM ex B w u f 0 g l [] a lb p c rfl (by omega) q r).m ?_;rintro e d ⟨z,rfl,y,n,h⟩;exact⟨_,rfl,n,h,λj i=>i⟩
 obtain⟨f,g,rfl,_,_⟩:=c.vsome (aHX.2 o);refine(wM ex B w u f b.length g l b a lb p c rfl m q r).m ?_;rintro e d ⟨z,rfl,y,n,h⟩;exact⟨_,rfl,n,h,λj i=>i⟩
def Yp (s:aG) (k:Nat):aG:=⟨s.G,s.H,s.K,s.F.eraseIdx k⟩
@[irreducible] noncomputable def fR (s:aG) (id:Int):aG × Int:=if(jQ s id).2≠0 then(gQ,(jQ s id).2) else(Yp s (jQ s id).1.toNat,0)
theorem sR {s:aG} {id:Int} (a:(jQ s id).2≠0):fR s id=(gQ,(jQ s id).2):=by unfold fR;rw[c7 a]
theorem vW {s:aG} {id:Int} {k:Nat} (a:jQ s id=((k:Int),0)):fR s id=(Yp s k,0):=by unfold fR;rw[a];simp
theorem aAQ {α:Type} {p:α->Bool} {xs:List α} (a:0<=fX p xs):∃ (k:Nat) (x:α),fX p xs=k/\xs[k]?=M x/\p x=true:=by
 unfold fX at a ⊢;cases b:xs.findIdx? p with
 | none=>rw[b] at a;exact absurd a (by decide)
 | some c=>
  obtain⟨d,e,_⟩:=aGS.1 b;exact⟨c,xs[c],rfl,aGm d,e⟩
theorem xY (s:aG) (id:Int):(∃ b,jQ s id=(0,b)/\b≠0)\/(aI s=0/\∃ k:Nat,k<s.F.length/\jQ s id=((k:Int),0)):=by
 by_cases a:aI s=0
 ·by_cases c:0<=fX (tG id) s.F
  ·right;obtain⟨k,e,b,d,_⟩:=aAQ c;exact⟨a,k,(aGw.1 d).1,by rw[Ee a c,b]⟩
  left;exact⟨6,xX a c,by decide⟩
 left;exact⟨_,Gy a,a⟩
def zX (w:y4) (x:aG × Int) (e:Ending) (w':y4):Prop:=
 ∃ a b,e=zv (zw #[.agg #[x.1.G,x.1.H,a,b],x.2])/\StS w w' a b x.1/\d7 w w'
theorem vJ {w w':y4} {x:aG × Int} {s:aG} {m:Int} {u v:y5} (a:x=(s,m)) (b:StS w w' u v s) (c:d7 w w'):zX w x (zv (zw #[.agg #[s.G,s.H,u,v],m])) w':=by
 subst a;exact⟨u,v,rfl,b,c⟩
theorem wV {w w':y4} {x:aG × Int} {m:Int} (a:x=(gQ,m)) (b:d7 w w'):zX w x (zv (zw #[.agg #[Y Z 0,Y Z 0,O J 0 0,O J 0 0],m])) w':=
 vJ (s:=gQ) a (.inr ⟨rfl,rfl,rfl,rfl⟩) b
theorem aBv (w:y4) (C z:y5) (s:aG) (id:Int) (y:aK w C s.K) (hb:aS w z s.F) :
  y8 prog 50 #[.agg #[s.G,s.H,C,z],id] w (zX w (fR s id)):=by
 obtain⟨wb,ak,HX,a2,a6,aj⟩:=dW w s C z;obtain⟨E,ap,a5,a3,a1⟩:=zm HX a2 a6 ak aj;clear HX a2 a6 ak aj;have F:=I (λ(W:y4) (A:d7 w W)=>Un W C z s id (y.m A) (hb.m A));rcases xY s id with ⟨er,m,U⟩|⟨hs,B,T,m⟩
 ·have D:=I (sR (s:=s) (id:=id) (by rw[m];exact U));rw[m] at F D;have e:=neT U;obtain⟨qa,qc,rfl,_,_,_⟩:=y.i;obtain⟨ba,bc,rfl,_,_,_⟩:=hb.i;clear y hb m U;generalize s.K.length=n at *;generalize s.F.length=d at *;go_enter func50,ntmps50;go_wp2_with fail;rw[a3.o];refine(F _ E).m ?_;rintro k P ⟨rfl,p⟩;obtain⟨a,q⟩:=zr (a5 P p) ((E.r p).sr (b:=w+1) (by omega) #[Y Z 0,Y Z 0,O J 0 0,O J 0 0]);have c:=I (x5 P (w+1) _ #[Y Z 0,Y Z 0,O J 0 0,O J 0 0] _ _ a);go_wp2_with (refine z6 (w+1) #[Y Z 0,Y Z 0,O J 0 0,O J 0 0] a ?_);exact v6 (kH (u:=5) rfl _ _ (w+1) 34 #[Y Z 0,Y Z 0,O J 0 0,O J 0 0] (0,0) _ rfl c underlying34 rfl size34) rfl (wV D q)
 have D:=I (vW m);rw[m] at F;obtain⟨ok,a7,ad⟩:=eR hs;have OW:=I (λ(W:y4) (A:d7 w W)=>aC3 W C z s (y.m A) (hb.m A) ok a7 ad);obtain⟨qa,qc,rfl,_,_,_⟩:=y.i;obtain⟨ba,bc,rfl,_,_,_⟩:=hb.i;clear y hb m hs ok ad;generalize ai:s.K.length=n at *;generalize af:s.F.length=d at *;obtain⟨an,Q⟩:=zr ai af;clear ai af;go_enter func50,ntmps50;go_wp2_with fail;rw[a3.o];refine(F _ E).m ?_;rintro k P ⟨rfl,p⟩;obtain⟨b0,b1,b2,b3⟩:=ap P p;obtain⟨q,S⟩:=zr (E.r p) p;clear p;go_wp2_with fail;refine(OW _ q).m ?_;rintro k a ⟨u7,v7,rfl,t,L⟩;clear b0 b1 b2 b3;obtain⟨f,g,rfl,ag,ah⟩:=t.uform;obtain⟨c,e,rfl,ac,ae⟩:=t.vsome (by rw[Q.o];omega);rw[Q.o] at t ⊢;rw[an.o] at t ⊢;obtain⟨a4,ax,aq,R⟩:=zp (q.r L) (S.r L) (And.intro S.size L.size) (And.intro (And.intro ag ah) (And.intro ac ae));obtain⟨i,G⟩:∃ i,(a.alloc (zt #[Y Z 0,Y Z 0,O J 0 0,O J 0 0] 34)).setRow a #[s.G,s.H,O (M ⟨f,0,J⟩) n g,O (M ⟨c,0,J⟩) d e]=i:=⟨_,rfl⟩;have N:d7 a i:=G▸((b8 a).a _).sr (b:=a) (aGi _) _;have H:i.heap[a.heap.size]?=M (zt #[s.G,s.H,O (M ⟨f,0,J⟩) n g,O (M ⟨c,0,J⟩) d e] 34 (0,0)):=G▸x5 (a.alloc _) a _ _ _ _ (y7 a _);have a9:=(((t.under (r:=w+1) (by have:=S.size;have:=a1.o;omega)).low (B2:=w.heap.size) q.size (λr V=>V)).box (aGi _)).e N;obtain⟨DE,au,aw,ay,al,a0⟩:=zl (Pi [a.heap.size,w.heap.size+1] w i (O (M ⟨f,0,J⟩) n g) c d e B s.K s.F a9 Q T a7) G (a4.r N) (ax.r N) H (show a.heap.size<i.heap.size from (aGq.1 H).1);have e3:i ⟨a,3,J⟩=M (O (M ⟨c,0,J⟩) d e):=y6 _ _ 3 _ _ _ H;have b6:IntKind.i64.wrap ((B:Int)+1)=(B:Int)+1:=by rw[IntKind.wrap_i64];omega
 clear L N H G t a9 ag ah ac ae;go_wp2_with (refine z6 a #[s.G,s.H,O (M ⟨f,0,J⟩) n g,O (M ⟨c,0,J⟩) d e] (y7 a _) ?_;rw[au.o]);refine DE.m ?_;rintro k h ⟨rfl,aa,K⟩;have b5:c≠a:=by have:=R.o;omega
 have l:h.heap[a.heap.size]?=M (zt #[s.G,s.H,O (M ⟨f,0,J⟩) n g,O (M ⟨c,0,J⟩) d e] 34 (0,0)):=(K.block _ a0 (λk=>b5 (b7 k).symm)).trans al;have f3:=x4 h a 3 _ _ l;have k3:h ⟨a,3,J⟩=M (O (M ⟨c,0,J⟩) d e):=y6 _ _ 3 _ _ _ l;obtain⟨j,x⟩:∃ j,h.setCell ⟨a,3,J⟩ (O (M ⟨c,0,J⟩) (d-1) e)=j:=⟨_,rfl⟩;have b4:j.heap[a.heap.size]?=M (zt #[s.G,s.H,O (M ⟨f,0,J⟩) n g,O (M ⟨c,0,J⟩) (d-1) e] 34 (0,0)):=x▸x6 h a 3 _ _ _ l;have a8:=x▸aa.kept (aN h a 3 (O (M ⟨c,0,J⟩) (d-1) e)) (aHv ..);have ab:d7 w j:=x▸(aw.gr (v:=O (M ⟨c,0,J⟩) d e) K (λB T=>by have e2:=b7 T;have:=R.o;have:=q.size;simp at e2;omega)).se (b:=a) (o:=3) (by have:=a4.size;omega) _;have X:j.heap[w.heap.size+1]?=M (zt #[Y Z 0,Y Z 0,O J 0 0,O J 0 0] 34 (0,0)):=by
  have h1:=a5 i ay;have ar:=aq.o;have ao:=a1.o;have am:=R.o;rw[<- x,x7 h ⟨a,3,J⟩ _ _ (by show w.heap.size+1≠a.heap.size;omega),K.block _ (by have:=a0.o;omega) (λk=>by have e2:=b7 k;omega)];exact h1
 have d0:h ⟨a,0,J⟩=M (Y Z s.G):=y6 _ _ 0 _ _ _ l;have d1:h ⟨a,1,J⟩=M (Y Z s.H):=y6 _ _ 1 _ _ _ l;have d2:h ⟨a,2,J⟩=M (O (M ⟨f,0,J⟩) n g):=y6 _ _ 2 _ _ _ l;obtain⟨ar,am,av,ao,az⟩:=zm x ((a8.kept (aQ j (w+1) #[s.G,s.H,O (M ⟨f,0,J⟩) n g,O (M ⟨c,0,J⟩) (d-1) e]) (by simp)).low (ex2:=[]) (aGi _) (λr V=>by cases V)) (ab.sr (b:=w+1) (by omega) #[s.G,s.H,O (M ⟨f,0,J⟩) n g,O (M ⟨c,0,J⟩) (d-1) e]) (x5 j (w+1) _ #[s.G,s.H,O (M ⟨f,0,J⟩) n g,O (M ⟨c,0,J⟩) (d-1) e] _ _ X) X;clear aa K l x b4 a8 ab X e3;go_wp2_with (first
  | (rw[ar.o];refine z6 (w+1) #[s.G,s.H,O (M ⟨f,0,J⟩) n g,O (M ⟨c,0,J⟩) (d-1) e] az ?_))
 exact v6 (kH (u:=5) rfl _ _ (w+1) 34 #[s.G,s.H,O (M ⟨f,0,J⟩) n g,O (M ⟨c,0,J⟩) (d-1) e] (0,0) _ rfl ao underlying34 rfl size34) rfl (vJ (s:=Yp s B) D (.inl am) av)
theorem wP (w:y4) (H z:y5) (s:aG) (k:Nat) (Q:aK w H s.K) (hb:aS w z s.F) (ok:cQ s.K) (a6:s.F.length<=12) (af:∀ a∈s.F,bU s.K a) (F:k<s.F.length) :
  y8 prog 110 #[.agg #[s.G,s.H,H,z],Y Z (k:Int)] w λl c=>∃ a v,l=zv (.agg #[s.G,s.H,a,v])/\cH [] w c a v s.K (s.F.eraseIdx k)/\d7 w c/\∃ e d,v=O (M ⟨e,0,J⟩) (s.F.eraseIdx k).length d:=by
 obtain⟨wb,ai,HX,a2,a4,ah⟩:=dW w s H z;obtain⟨y,b0,aw,a1,OW⟩:=zm HX a4 ai ah (λ(W:y4) (a5:d7 w W)=>qX W H z s (Q.m a5) (hb.m a5) ok a6 af);obtain⟨b2,b3,b4,b5⟩:=a2 wb (b8 wb);clear HX a2 a4 ai ah;obtain⟨qa,qc,rfl,_,_,_⟩:=Q.i;obtain⟨bb,bc,rfl,_,_,_⟩:=hb.i;clear Q hb ok af;generalize ag:s.K.length=n at *;generalize ac:s.F.length=e at *;obtain⟨ar,t⟩:=zr ag ac;clear ag ac;go_enter func110,ntmps110;go_wp2_with fail;rw[aw.o];refine(OW _ y).m ?_;rintro l a ⟨u7,v7,rfl,p,S⟩;clear b2 b3 b4 b5;obtain⟨h,i,rfl,ad,ae⟩:=p.uform;obtain⟨c,d,rfl,aa,ab⟩:=p.vsome (by rw[t.o];omega);rw[t.o] at p ⊢;rw[ar.o] at p ⊢;obtain⟨a3,V⟩:=zr (y.r S) (And.intro (And.intro ad ae) (And.intro aa ab));obtain⟨g,A⟩:∃ g,(a.alloc (zt #[Y Z 0,Y Z 0,O J 0 0,O J 0 0] 34)).setRow a #[s.G,s.H,O (M ⟨h,0,J⟩) n i,O (M ⟨c,0,J⟩) e d]=g:=⟨_,rfl⟩;have G:d7 a g:=A▸((b8 a).a _).sr (b:=a) (aGi _) _;have C:g.heap[a.heap.size]?=M (zt #[s.G,s.H,O (M ⟨h,0,J⟩) n i,O (M ⟨c,0,J⟩) e d] 34 (0,0)):=A▸x5 (a.alloc _) a _ _ _ _ (y7 a _);have a8:=(((p.under (r:=w+1) (by have:=a1.o;omega)).low (B2:=w.heap.size) y.size (λr R=>R)).box (aGi _)).e (G.r (b8 g).dr);obtain⟨N,news,aj,q1,q2,q3,q4,q5,q6,q7,q8,q9⟩:=a8.cut t F a6;obtain⟨ib,ba,bi,U,bj⟩:=s8 info80;have bf:k<=d:=by omega
 have bg:k<=e:=by omega
 have bd:(0:Int)<=(k:Int)+1:=by omega
 have be:(k:Int)+1<=(e:Int):=by omega
 have bh:IntKind.i64.wrap ((k:Int)+1)=(k:Int)+1:=by rw[IntKind.wrap_i64];omega
 obtain⟨am,K,an,ao,ap,aq,av,ay,az,ak,a0⟩:=h11 q1 q5 q6 q7 q8 q9 A (a3.r G) (S.r G) C (show a.heap.size<g.heap.size from (aGq.1 C).1);have e3:g ⟨a,3,J⟩=M (O (M ⟨c,0,J⟩) e d):=y6 _ _ 3 _ _ _ C;have b6:c≠a:=by omega
 clear S G C A p a8 ad ae aa ab q1 q5 q6 q7 q8 q9;go_wp2_with (refine z6 a #[s.G,s.H,O (M ⟨h,0,J⟩) n i,O (M ⟨c,0,J⟩) e d] (y7 a _) ?_;rw[av.o]);refine cN 11 (λW=>W ⟨a,3,J⟩=M (O (M ⟨c,0,J⟩) e d)) (by kernel_rfl) e3 (λf=>?_);refine tkT 0 ?_;refine tkT 1 ?_;refine tkT 2 ?_;refine tkT 3 ?_;refine tkT 4 ?_;refine tkT 5 ?_;refine tkT 6 ?_;refine tkT 7 ?_;refine tkT 8 ?_;refine goT 9 λL u=>?_;simp only[zA,zB,zC];rw[c7 (by rfl)];refine sV _ _ _ (by rfl) 80 ib underlying32 ba c k d N am (by rfl) aj (e-(k+1)) (d-(k+1)) news (by rfl) (by rw[K.o,U]) an ao (by omega) (by rw[K.o,U,q2];omega) ?_;rw[U,K.o];obtain⟨m,hm⟩:∃ m,k+(e-(k+1))=m:=⟨_,rfl⟩;rw[hm];have X:=I (show e-1=m by omega);obtain⟨j,B⟩:∃ j,g.drew.setRow c (N.toList.take (k*7)++news++N.toList.drop (k*7+(e-(k+1))*7)).toArray=j:=⟨_,rfl⟩;have E:g.grownBy j (M c):=B▸bT (cC (b8 g).dr) aq;have P:=B▸ap.o;rw[X.o] at P;rw[B];have D:j.heap[a.heap.size]?=M (zt #[s.G,s.H,O (M ⟨h,0,J⟩) n i,O (M ⟨c,0,J⟩) e d] 34 (0,0)):=(E.block _ a0 (λl=>b6 (b7 l).symm)).trans ak;refine u.out _ _ (y6 _ _ 3 _ _ _ D) λf=>?_
 clear u L;have f3:=x4 j a 3 _ _ D;refine tkT 10 ?_;refine laT λL u=>?_;simp only[zA,zB,zC];go_simp;refine u.out _ _ ?_;clear u L;obtain⟨f,q⟩:∃ f,j.setCell ⟨a,3,J⟩ (O (M ⟨c,0,J⟩) m d)=f:=⟨_,rfl⟩;rw[q];have x:f.heap[a.heap.size]?=M (zt #[s.G,s.H,O (M ⟨h,0,J⟩) n i,O (M ⟨c,0,J⟩) m d] 34 (0,0)):=q▸x6 j a 3 _ _ _ D;have a7:=q▸P.kept (aN j a 3 (O (M ⟨c,0,J⟩) m d)) (aHv ..);have a9:d7 w f:=q▸(ay.gr (v:=O (M ⟨c,0,J⟩) e d) E (λk F=>by have e2:=b7 F;have:=V.o;have:=y.size;simp at e2;omega)).se (b:=a) (o:=3) (by have:=a3.size;omega) _;have T:f.heap[w.heap.size+1]?=M (zt #[Y Z 0,Y Z 0,O J 0 0,O J 0 0] 34 (0,0)):=by
  have h1:=b0 g az;have au:=a1.o;have al:=V.o;rw[<- q,x7 j ⟨a,3,J⟩ _ _ (by show w.heap.size+1≠a.heap.size;omega),E.block _ (by have:=a0.o;omega) (λl=>by have e2:=b7 l;omega)];exact h1
 have d0:f ⟨a,0,J⟩=M (Y Z s.G):=y6 _ _ 0 _ _ _ x;have d1:f ⟨a,1,J⟩=M (Y Z s.H):=y6 _ _ 1 _ _ _ x;have d2:f ⟨a,2,J⟩=M (O (M ⟨h,0,J⟩) n i):=y6 _ _ 2 _ _ _ x;have d3:f ⟨a,3,J⟩=M (O (M ⟨c,0,J⟩) m d):=y6 _ _ 3 _ _ _ x;obtain⟨al,ax,au,b1⟩:=zp ((a7.kept (aQ f (w+1) #[s.G,s.H,O (M ⟨h,0,J⟩) n i,O (M ⟨c,0,J⟩) m d]) (by simp)).low (ex2:=[]) (aGi _) (λr R=>by cases R)) (a9.sr (b:=w+1) (by omega) #[s.G,s.H,O (M ⟨h,0,J⟩) n i,O (M ⟨c,0,J⟩) m d]) (x5 f (w+1) _ #[s.G,s.H,O (M ⟨h,0,J⟩) n i,O (M ⟨c,0,J⟩) m d] _ _ T) T;clear P E D q x a7 a9 T B hm;go_wp2_with (refine z6 (w+1) #[s.G,s.H,O (M ⟨h,0,J⟩) n i,O (M ⟨c,0,J⟩) m d] b1 ?_);exact v6 (j6 rfl _ _ (w+1) 34 #[s.G,s.H,O (M ⟨h,0,J⟩) n i,O (M ⟨c,0,J⟩) m d] (0,0) _ rfl au underlying34 rfl size34) rfl ⟨_,_,rfl,al,ax,c,d,by rw[List.length_eraseIdx_of_lt (by rw[t.o];exact F),t.o,X.o]⟩
theorem Wg (w:y4) (o h:y5) (s:aG) (id:Int) (d:aK w o s.K) (hb:aS w h s.F) :
  y8 prog 61 #[.agg #[s.G,s.H,o,h],id] w (zX w (fR s id)):=by
 obtain⟨wb,Q,D,B,H,P⟩:=dW w s o h;obtain⟨q,U,G,C,V⟩:=zm D B H Q P;clear D B H Q P;have F:=I (λ(W:y4) (j:d7 w W)=>Vx W o h s id (d.m j) (hb.m j));rcases xY s id with ⟨er,a,y⟩|⟨N,e,hk,a⟩
 ·have p:=I (sR (s:=s) (id:=id) (by rw[a];exact y));rw[a] at F p;have i:=neT y;obtain⟨qa,qc,rfl,_,_,_⟩:=d.i;obtain⟨ba,bc,rfl,_,_,_⟩:=hb.i;clear d hb a y;generalize s.K.length=n at *;generalize s.F.length=a8 at *;go_enter func61,ntmps61;go_wp2_with fail;rw[C.o];refine(F _ q).m ?_;rintro K v ⟨rfl,c⟩;obtain⟨f,g⟩:=zr (G v c) ((q.r c).sr (b:=w+1) (by omega) #[Y Z 0,Y Z 0,O J 0 0,O J 0 0]);have x:=I (x5 v (w+1) _ #[Y Z 0,Y Z 0,O J 0 0,O J 0 0] _ _ f);go_wp2_with (refine z6 (w+1) #[Y Z 0,Y Z 0,O J 0 0,O J 0 0] f ?_);exact v6 (kH (u:=5) rfl _ _ (w+1) 34 #[Y Z 0,Y Z 0,O J 0 0,O J 0 0] (0,0) _ rfl x underlying34 rfl size34) rfl (wV p g)
 have p:=I (vW a);rw[a] at F;obtain⟨R,a4,L⟩:=eR N;have WO:=I (λ(W:y4) (j:d7 w W)=>wP W o h s e (d.m j) (hb.m j) R a4 L hk);obtain⟨qa,qc,rfl,_,_,_⟩:=d.i;obtain⟨ba,bc,rfl,_,_,_⟩:=hb.i;clear d hb a N R L;generalize a6:s.K.length=n at *;generalize a5:s.F.length=a8 at *;clear a6 a5;go_enter func61,ntmps61;go_wp2_with fail;rw[C.o];refine(F _ q).m ?_;rintro K v ⟨rfl,c⟩;obtain⟨a0,a1,a2,a3⟩:=U v c;obtain⟨g,E⟩:=zr (q.r c) c;clear c;go_wp2_with fail;refine(WO _ g).m ?_;rintro K A ⟨u7,v7,rfl,t,z,_⟩;obtain⟨i,k,rfl,a9,aa⟩:=t.uform;obtain⟨l,m,rfl,a7⟩:=t.vform;obtain⟨f,X⟩:=zr (G A (E.r z)) ((g.r z).sr (b:=w+1) (by omega) #[s.G,s.H,O (M ⟨i,0,J⟩) s.K.length k,O l (s.F.eraseIdx e).length m]);obtain⟨x,T⟩:=zr (x5 A (w+1) _ #[s.G,s.H,O (M ⟨i,0,J⟩) s.K.length k,O l (s.F.eraseIdx e).length m] _ _ f) ((((t.under (r:=w+1) (by have:=V.o;have:=E.size;omega)).kept (aQ A (w+1) #[s.G,s.H,O (M ⟨i,0,J⟩) s.K.length k,O l (s.F.eraseIdx e).length m]) (aHv ..)).low (ex2:=[]) (B2:=w.heap.size) g.size (λr hr=>by cases hr)));clear t z a7 a0 a1 a2 a3;generalize (s.F.eraseIdx e).length=S at *;generalize s.K.length=nq at *;go_wp2_with (refine z6 (w+1) #[s.G,s.H,O (M ⟨i,0,J⟩) nq k,O l S m] f ?_);exact v6 (kH (u:=5) rfl _ _ (w+1) 34 #[s.G,s.H,O (M ⟨i,0,J⟩) nq k,O l S m] (0,0) _ rfl x underlying34 rfl size34) rfl (vJ (s:=Yp s e) p (.inl T) X)
end Go.Proofs.YtaekdjbnldlklaaGreatDoor
