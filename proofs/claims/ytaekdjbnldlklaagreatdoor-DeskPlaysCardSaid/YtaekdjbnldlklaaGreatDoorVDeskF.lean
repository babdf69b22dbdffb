/- The desk: contracts of Play and of what it calls; each theorem names its own conditions. -/
import Derived.Test.YtaekdjbnldlklaaGreatDoorVTextA
import Derived.Test.YtaekdjbnldlklaaGreatDoorVLoadTrue
import Derived.Test.YtaekdjbnldlklaaGreatDoorVTick
import Derived.Deep.DeepCutAuto
import Derived.Defers
import Derived.Recover
set_option linter.unusedVariables false
set_option linter.unusedSimpArgs false
set_option maxRecDepth 100000
set_option maxHeartbeats 12000000
namespace Go.Proofs.YtaekdjbnldlklaaGreatDoor
open _root_.Go.Proofs.Tryz
open Go.RowKit
open List renaming getElem_toArray->zA,getElem_cons_zero->zB,getElem_cons_succ->zC,setIfInBounds_toArray->zD,set_cons_zero->zE,set_cons_succ->zF
open Go.Value renaming slice->O,int->Y,oneCell'->aGr,ownBlock->aHR,string->aIA
open _root_.Option renaming none->J,some->M
open Go.IntKind renaming i64->Z
open _root_.Nat renaming le_trans->aGR,lt_of_lt_of_le->aGs,le_refl->aGi,add_zero->aGM,reduceAdd->aH3,reduceSub->aH4,add_assoc->aGB
open _root_.Array renaming getElem?_eq_some_iff->aGq,replicate_succ->aH5,replicate_zero->aH6
open _root_.List renaming mem_cons_self->aHv,eq_nil_of_length_eq_zero->aGv,getElem?_eq_some_iff->aGw,take_add_one->aHZ,append_assoc->aIf,length_take->aHB,length_cons->aGt,filter_sublist->aIR,any_eq_false->aGU,getElem?_of_mem->aIS,mem_map->aHd,mem_append_right->aHW,length_append->aGb,length_map->aHC,mem_cons->aH1,size_toArray->aH2,length_nil->aGu,push_toArray->aH7,append_toArray->aH8,nil_append->aH9,cons_append->aGd,not_mem_nil->aHa,getElem?_drop->aGG,length_range->aIT,take_of_length_le->aHF,length_drop->aI4,mem_of_mem_drop->aI3,getD_eq_getElem?_getD->aGW,getElem?_map->aHt,mem_append_left->aHV,mem_cons_of_mem->aGc,take_append_drop->aIJ,mem_of_getElem?->aGC,mem_append->aGe,mem_singleton->aHf,mem_range->aGN
open Go.World renaming size_alloc->aHb,ownsRow_nil->aGQ,cell?_of_block->aHm,cell?_setCell_far->aHn
open Go renaming Boxed→s9,Calls→y8,Deferred→i7,Ending→r8,KeepsFrom→o6,PanicEntry→m8,Program→o9,TypeId→o8,Value→y5,World→y4,bodyPost_ret→v6,cell_of_row→y6,frozen_of_row→x4,heap_alloc_new→y7,heap_setCell_other→x7,heap_setCell_same→x6,info_parts→s8,maxLen→o0,run_takeDeferred→m7,setRow_heap→x5,undef→u5,wpList_append_own→r6,wpList_store_row→y9,wp_append_own→e7,wp_region_held_drew→v8,wp_store_row→o7
open Go.Value renaming string→b9,pointer→zz,bool→zx,tuple→zw,func→zy
open Go.Ending renaming returned→zv,panicked→zu
open Go.Obj renaming cells→zt
theorem aFK (b:Bool) (w:y4) (c:Nat) (a s:ByteArray) (p:Int) (v:y5) (g:∃ f n c,v=O f n c) (h:w ⟨c,0,J⟩=M (b9 s)) (e:a=s↔b=true) :
  y8 prog 94 #[.agg #[b9 a,p,v],zz (M ⟨c,0,J⟩)] w λd i=>d=zv (zx b)/\d7 w i:=by
 have k:(a.toList == s.toList)=b:=by
  cases b with
  | true=>exact Dh (e.2 rfl)
  | false=>exact xG (λd=>by have:=e.1 d;cases this)
 obtain⟨f,n,cp,rfl⟩:=g;have j:c<w.heap.size:=vV h;have d:=I (λi=>(b8 w).a i);clear e;go_enter func94,ntmps94;go_wp2;go_ret;exact⟨rfl,d _⟩
abbrev KT (B:Nat) (W W':y4):Prop:=W.grownBy W' (M B)
theorem KT.e {B:Nat} {W W':y4} (a:d7 W W'):KT B W W':=⟨a.os,a.tape,a.output,a.size,λc b _=>a.block c b⟩
theorem KT.r {B:Nat} {a b c:y4} (d:KT B a b) (k:KT B b c):KT B a c:=
 ⟨k.os.trans d.os,k.tape.trans d.tape,k.output.trans d.output,aGR d.size k.size,λg e f=>(k.block g (aGs e d.size) f).trans (d.block g e f)⟩
theorem KT.base {B:Nat} {w0 W W':y4} (k:KT B W W') (a:d7 w0 W) (b:w0<=B):d7 w0 W':=a.gro k (λc c=>by cases c;exact b)
theorem KT.at {B b:Nat} {W W':y4} {o:Obj} (k:KT B W W') (a:W.heap[b]?=M o) (hb:b≠B):W'.heap[b]?=M o:=(k.block b (aGq.1 a).1 (λc=>hb (b7 c))).trans a
def fF (B:Nat) (W:y4) (s:aG) (u v:y5):Prop:=W.heap[B]?=M (zt #[s.G,s.H,u,v] 36 (0,0))/\StS (B+1) W u v s
theorem fF.e {B:Nat} {W W':y4} {s:aG} {u v:y5} (a:fF B W s u v) (b:d7 W W'):fF B W' s u v:=⟨aO a.1 b,a.2.e b⟩
theorem fF.cells {B:Nat} {W:y4} {s:aG} {u v:y5} (a:fF B W s u v) :
  W ⟨B,0,J⟩=M (Y Z s.G)/\W ⟨B,1,J⟩=M (Y Z s.H)/\W ⟨B,2,J⟩=M u/\W ⟨B,3,J⟩=M v:=
 ⟨y6 W B 0 _ _ _ a.1,y6 W B 1 _ _ _ a.1,y6 W B 2 _ _ _ a.1,y6 W B 3 _ _ _ a.1⟩
def zZ (w:y4) (q n:Int) (v:y5) (e:r8) (w':y4):Prop:=d7 w w'/\if 0<=q then e=zv v else e=zu (iB n)
theorem oS (w:y4) (B:Nat) (s:aG) (u v:y5) (b:fF B w s u v) (x:By) :
  y8 prog 44 #[zz (M ⟨B,0,J⟩),b9 (tx x)] w (zZ w (cT s.K x) 6 (Y Z (cT s.K x))):=by
 have f:=(b8 w).a (zt #[b9 (tx x)] 9);have l:=y6 _ _ 0 _ _ _ (y7 w (zt #[b9 (tx x)] 9));have i:=b.2.tree;have d:=I (Pa 94 (enters_of func94 (by kernel_rfl) rfl) aFK _ u s.K (i.m f) w (tx x) l);rw[mM] at d;obtain⟨r,y,A,D⟩:=(b.e f).cells;have F:B<w.heap.size:=(aGq.1 b.1).1;obtain⟨t,z,C,E⟩:=b.cells;obtain⟨G,H,rfl,_,_,_⟩:=i.i;have k:=I f;obtain⟨a,m⟩:∃ a,cT s.K x=a:=⟨_,rfl⟩;rw[m] at d ⊢;clear b i f l m;generalize s.K.length=n at *;unfold zZ;by_cases e:0<=a
 ·simp only[c7 e];have o:a>=0:=e;go_enter func44,ntmps44;go_wp2_with fail;refine d.m ?_;rintro h p ⟨rfl,c⟩;have g:=I (k.r c);clear c;go_wp2_with fail;refine(dE _ _).m ?_;rintro h q ⟨rfl,j⟩;obtain rfl:=j.symm;go_wp2;go_ret;exact⟨g.o,rfl⟩
 simp only[d8 e];have o:¬ a>=0:=e;go_enter func44,ntmps44;go_wp2_with fail;refine d.m ?_;rintro h p ⟨rfl,c⟩;have g:=I (k.r c);clear c;go_wp2_with fail;rw[show decide (0<=a)=false from decide_eq_false (by omega)];refine(nV _ _).m ?_;rintro h q ⟨rfl,j⟩;obtain rfl:=j.symm;exact⟨rfl,g,rfl⟩
theorem StS.past {B r:Nat} {W W':y4} {u v:y5} {s:aG} (a:StS B W u v s) (k:W.grownBy W' (M r)) (b:r<B):StS B W' u v s:=by
 rcases a with a|a
 ·exact .inl (((a.under b).kept k (aHv ..)).low (ex2:=[]) (aGi _) (λr b=>by cases b))
 exact .inr a
theorem StS.sink {B B2:Nat} {W:y4} {u v:y5} {S:aG} (a:StS B W u v S) (hb:B2<=B):StS B2 W u v S:=by
 rcases a with a|a
 ·exact .inl (a.low hb (λb b=>by cases b))
 exact .inr a
theorem fF.i {B:Nat} {W:y4} {s:aG} {u v:y5} (e:fF B W s u v):∃ a n c b f d,u=O a n c/\v=O b f d:=by
 obtain⟨a,c,f,_⟩:=e.2.tree.i;obtain⟨b,d,g,_⟩:=e.2.books.i;exact⟨_,_,_,_,_,_,f,g⟩
def Qf (B C:Nat) (W:y4) (s:aG) (u v:y5):Prop:=W.heap[B]?=M (zt #[s.G,s.H,u,v] 36 (0,0))/\StS C W u v s
theorem Qf.e {B C:Nat} {W W':y4} {s:aG} {u v:y5} (a:Qf B C W s u v) (b:d7 W W'):Qf B C W' s u v:=⟨aO a.1 b,a.2.e b⟩
abbrev kT:=aG × By × Int
def iT (B:Nat) (w:y4) (s:aG) (r:kT) (e:r8) (w':y4):Prop:=
 KT B w w'/\if r.2.2=0 then e=zv (b9 (tx r.2.1))/\∃ a b,Qf B w w' r.1 a b else e=zu (iB r.2.2)/\d7 w w'
theorem iT.no {B:Nat} {w w':y4} {s:aG} {r:kT} {n:Int} {u v:y5} (b:r=(s,[],n)) (c:n≠0) (a:d7 w w') (d:fF B w s u v):iT B w s r (zu (iB n)) w':=by
 subst b;refine⟨KT.e a,?_⟩;rw[d8 c];exact⟨rfl,a⟩
theorem iT.yes {B:Nat} {w w':y4} {s S:aG} {r:kT} {x:By} {u v:y5} (a:r=(S,x,0)) (b:KT B w w') (c:Qf B w w' S u v):iT B w s r (zv (b9 (tx x))) w':=by
 subst a;exact⟨b,by rw[c7 rfl];exact⟨rfl,u,v,c⟩⟩
def Hw (B C:Nat) (w:y4) (s:aG) (u v:y5) (n m:Int) (e:r8) (w':y4):Prop:=
 if m=0 then e=zv (Y Z n)/\KT B w w'/\Qf B C w' s u v else e=zu (iB m)/\d7 w w'
theorem Cj (w:y4) (B C:Nat) (F:B<C) (s S:aG) (u v o p:y5) (n m:Int) (i:fF B w s u v) (h:StS C w o p S) :
  y8 prog 48 #[zz (M ⟨B,0,J⟩),.agg #[S.G,S.H,o,p],n,m] w (Hw B C w S o p n m):=by
 obtain⟨a,b,t,_⟩:=h.tree.i;obtain⟨d,e,x,_⟩:=h.books.i;obtain⟨c,z⟩:∃ g,S.K.length=g:=⟨_,rfl⟩;obtain⟨f,A⟩:∃ g,S.F.length=g:=⟨_,rfl⟩;rw[z] at t;rw[A] at x;subst t;subst x;have j:=i.1;have P:B<w.heap.size:=(aGq.1 j).1;have g:=(b8 w).a (zt #[S.G,S.H,O a c b,O d f e] 34);obtain⟨H,K,L,N⟩:=dY (b8 (w.alloc (zt #[S.G,S.H,O a c b,O d f e] 34)));obtain⟨q,r,D⟩:=zq (aO j g) g (h.e g);have cB:(w.alloc (zt #[S.G,S.H,O a c b,O d f e] 34)) ⟨B,0,J⟩=M (Y Z s.G):=(i.e g).cells.1;unfold Hw;clear j g i h z A;by_cases k:m=0
 ·subst k;simp only[if_true];go_enter func48,ntmps48;go_wp2_with fail;refine(dE _ _).m ?_;rintro E G ⟨rfl,l⟩;obtain rfl:=l.symm;go_wp2_with (refine y9 rfl 34 _ _ rfl B #[S.G,S.H,O a c b,O d f e] rfl rfl _ _ q size34 rfl (by simp[aGr]) ?_);go_ret;have y:=aQ (w.alloc (zt #[S.G,S.H,O a c b,O d f e] 34)) B #[S.G,S.H,O a c b,O d f e];exact⟨rfl,(KT.e r).r y,x5 _ B _ _ _ _ q,D.past y F⟩
 simp only[d8 k];have y:=eqF k;go_enter func48,ntmps48;go_wp2_with fail;refine(nV _ _).m ?_;rintro E G ⟨rfl,l⟩;obtain rfl:=l.symm;exact⟨rfl,rfl,r⟩
theorem Wv (w:y4) (b:gC w) (n m:Int) (k:iF n) :
  y8 prog 45 #[n,m] w λa c=>d7 w c/\if m=0 then a=zv (b9 (tx (Lib.itoa n))) else a=zu (iB m):=by
 by_cases d:m=0
 ·subst d;simp only[if_true];have c:=(b8 w).a (zt #[.iface 3 (Y Z n)] 20);have e:=y6 _ _ 0 _ _ _ (y7 w (zt #[.iface 3 (Y Z n)] 20));have j:=I (rJ _ (b.e c) w 1 [.n n] (by simp) (by simp) (by simp) (λg o f=>by
   cases g with
   | zero=>cases f;exact⟨_,e,rfl,k⟩
   | succ g=>simp at f))
  have i:=I c;clear c e;go_enter func45,ntmps45;go_wp2_with fail;refine(dE _ _).m ?_;rintro a h ⟨rfl,b⟩;obtain rfl:=b.symm;go_wp2_with fail;refine j.m ?_;rintro a h ⟨rfl,l⟩;go_wp2;go_ret;exact⟨i.r l,by simp[jO,oR,Lib.join]⟩
 simp only[d8 d];have c:=eqF d;go_enter func45,ntmps45;go_wp2_with fail;refine(nV _ _).m ?_;rintro a h ⟨rfl,b⟩;obtain rfl:=b.symm;exact⟨rfl,b8 _,rfl⟩
def dC {α:Type} (mk:Int->Int->α):List Int->List α
 | a::b::r=>mk a b::dC mk r
 | _=>[]
theorem It {α:Type} (mk:Int->Int->α):∀ (z:Nat) (l:List Int) (a b:Int),l.length=z*2->dC mk (l++[a,b])=dC mk l++[mk a b]
 | 0,l,a,b,c=>by
  obtain rfl:l=[]:=aGv (by omega);rfl
 | z+1,[],a,b,c=>by simp at c
 | z+1,[x],a,b,c=>by simp at c;omega
 | z+1,x::y::l,a,b,c=>by
  have:=It mk z l a b (by simp at c;omega);show mk x y::dC mk (l++[a,b])=mk x y::(dC mk l++[mk a b]);rw[this]
theorem sJ {α:Type} (mk:Int->Int->α) (l:List Int) (k:Nat) {a b:Int} (d:l[k*2]?=M a) (c:l[k*2+1]?=M b):dC mk (l.take ((k+1)*2))=dC mk (l.take (k*2))++[mk a b]:=by
 have e:=(aGw.1 c).1;rw[show (k+1)*2=k*2+1+1 by omega,aHZ,aHZ,d,c,aIf];exact It mk k _ a b (by rw[aHB];omega)
theorem Ba {α:Type} (mk:Int->Int->α):∀ (z:Nat) (l:List Int),l.length=z*2->(dC mk l).length=z
 | 0,l,a=>by
  obtain rfl:l=[]:=aGv (by omega);rfl
 | z+1,[],a=>by simp at a
 | z+1,[b],a=>by simp at a;omega
 | z+1,b::c::l,a=>by
  show (mk b c::dC mk l).length=z+1;rw[aGt,Ba mk z l (by simp at a;omega)]
def rS:By:=[101,114,114,111,114]
def kS:By:=[98,111,111,107,115]
def yO:By:=[99,104,97,110,103,101]
def Qp:By:=[98,117,115,121]
def Qo:By:=[108,101,102,116]
def Ci:By:=[99,97,110,99,101,108]
def Ws:By:=[116,105,99,107]
def kR:By:=[109,111,118,101,100]
def gO:By:=[100,114,111,112,112,101,100]
def wOk:By:=[111,107]
def qJ (s:aG):List Int:=match s.F.getLast? with|some b=>b.L.map (·.At)|none=>[]
@[irreducible] noncomputable def cK (s:aG) (k:Int) (q:By) (l:List Int):kT:=
 if¬ (l.length % 2=0/\4<=l.length/\l.length<=8) then(s,[],1) else if cT s.K q<0 then(s,[],6)
 else(λa:aG × Int × Int=>if a.2.2=0 then(a.1,kK (a.2.1::qJ a.1),0) else(s,[],a.2.2)) (aW s ⟨cT s.K q,l.getD 0 0,l.getD 1 0,k,dC Piece.mk (l.drop 2)⟩)
@[irreducible] noncomputable def dS (s:aG) (q:By) (l:List Int):kT:=
 if¬ (l.length % 2=0/\0<l.length/\l.length<=96) then(s,[],1) else if cT s.K q<0 then(s,[],6)
 else(λa:aG × List Int × List Int × Int=>if a.2.2.2=0 then(a.1,kR++cY a.2.1++(32::gO)++cY a.2.2.1,0) else(s,[],a.2.2.2)) (bD s (cT s.K q) (dC Run.mk l))
@[irreducible] noncomputable def lT (f:aG->Int->Int->Int × Int) (s:aG) (q:By) (l:List Int):kT:=
 if l.length≠1 then(s,[],1) else if cT s.K q<0 then(s,[],6)
 else(λa:Int × Int=>if a.2=0 then(s,Lib.itoa a.1,0) else(s,[],a.2)) (f s (cT s.K q) (l.getD 0 0))
@[irreducible] noncomputable def gH (s:aG) (l:List Int):kT:=
 if l.length≠1 then(s,[],1) else(λa:aG × Int=>if a.2=0 then(a.1,wOk,0) else(s,[],a.2)) (fR s (l.getD 0 0))
@[irreducible] noncomputable def nF (s:aG) (l:List Int):kT:=
 if l.length≠1 then(s,[],1) else(λa:aG × Int × Int=>if a.2.2=0 then(a.1,Lib.itoa a.2.1,0) else(s,[],a.2.2)) (eZ s (l.getD 0 0))
def nS (w:By):Bool:=decide (0<jE w\/w=yO\/w=Qp\/w=Qo)
@[irreducible] noncomputable def jJ (s:aG) (w0 q:By) (l:List Int):kT:=
 if 0<jE w0 then cK s (jE w0) q l else if w0=yO then dS s q l else if w0=Qp then lT kZ s q l else if w0=Qo then lT kY s q l else if w0=Ci then gH s l else if w0=Ws then nF s l else(s,[],1)
@[irreducible] noncomputable def kQ (s:aG) (w:List By):kT:=
 if w.length<=(if nS (w.getD 0 []) then 2 else 1) then(s,[],1) else match cS (w.drop (if nS (w.getD 0 []) then 2 else 1)) with
 | none=>(s,[],1)
 | some l=>jJ s (w.getD 0 []) (w.getD 1 []) l
@[irreducible] noncomputable def eC (s:aG) (x:By):kT:=if x=kS then(s,kK (s.F.map aH.Id),0) else kQ s (fA x)
@[irreducible] noncomputable def dJ (s:aG) (x:By):aG × By:=
 if(eC s x).2.2=0 then((eC s x).1,(eC s x).2.1) else(s,rS++32::Lib.itoa (eC s x).2.2)
theorem aAh {s X:aG} {t n:Int} (a:eZ s t=(X,n,0)):aI s=0/\(0<=t/\t<=48)/\¬ t<s.G/\X=xM s t/\n=(s.F.length:Int)-((iX t s.F).length:Int):=by
 by_cases c:aI s=0
 ·by_cases d:0<=t/\t<=48
  ·by_cases e:t<s.G
   ·rw[vB c d e] at a;exact absurd (show (9:Int)=0 from congrArg (λb=>b.2.2) a) (by decide)
   rw[tP c d e] at a;exact⟨c,d,e,(congrArg (λb=>b.1) a).symm,(congrArg (λb=>b.2.1) a).symm⟩
  rw[sE c d] at a;exact absurd (show (3:Int)=0 from congrArg (λb=>b.2.2) a) (by decide)
 rw[yR c] at a;exact absurd (congrArg (λb=>b.2.2) a) c
theorem Ys {s:aG} {t:Int} (a:aI s=0) (c:0<=t/\t<=48) (e:¬ t<s.G):aI (xM s t)=0:=by
 refine Rf a (b:=iX t s.F) aIR (by omega) c.2 ?_;rw[aGU];intro f d;have:=(List.mem_filter.1 d).2;simpa using this
theorem aAR {s:aG} (a:aI s=0) (o:Nat):aI (Yp s o)=0:=by
 obtain⟨d,_⟩:=bS a;obtain⟨_,⟨h,f,_,_⟩,_,b⟩:=cD d;have c:(s.F.eraseIdx o).Sublist s.F:=List.eraseIdx_sublist ..;exact Rf a c (Int.le_refl _) f (by
  rw[aGU] at b ⊢;exact λg e=>b g (c.subset e))
theorem qD {n:Int} (a:-2000000<=n) (b:n<=2000000):iF n:=⟨by omega,by omega⟩
theorem zL {s:aG} (b:aI s=0):(∀ a∈s.F,iF a.Id)/\iF s.H/\s.F.length<=12:=by
 obtain⟨f,_⟩:=bS b;obtain⟨e,⟨i,j,k,l⟩,d,_⟩:=cD f;obtain⟨_,_,c,_⟩:=dV e;obtain⟨h,_⟩:=uH.1 d;exact⟨λa g=>by have:=h a g;exact qD (by omega) (by omega),qD (by omega) (by omega),c⟩
theorem aFc {r:aF} {b:List bK} (h:dI r b=true):(∀ c∈b,iF c.At)/\b.length<=3:=by
 obtain⟨e,f,a⟩:=gL.1 h;obtain⟨⟨o,p,q⟩,s⟩:=cJ e;obtain⟨m,n⟩:=e.many;refine⟨λc i=>?_,?_⟩
 ·obtain⟨g,c⟩:=aIS i;have d:=(aGw.1 c).1;have j:=(iS c).2;have k:=(f g d).from_;have l:=(f g d).until_;exact qD (by omega) (by omega)
 unfold kE at a;split at a <;> omega
theorem sG {s:aG} {r:aF} (b:(aW s r).2.2=0):iF (aW s r).2.1/\aI (aW s r).1=0/\∃ a,(aW s r).1.F.getLast?=M a/\(∀ c∈a.L,iF c.At)/\a.L.length<=3:=by
 obtain⟨⟨i,n,c⟩,a⟩:∃ d,aW s r=d:=⟨_,rfl⟩;rw[a] at b ⊢;obtain rfl:c=0:=b;obtain⟨d,e,f⟩:=vC a;obtain⟨_,_,_,_,g,h⟩:=Cl a;refine⟨?_,d,⟨s.H,r,cA (kJ s r) r⟩,?_,aFc f⟩
 ·show iF n;subst h;exact(zL e).2.1
 subst g;simp[Mq]
theorem Jn {s:aG} {n:Int} (b:(fR s n).2=0):aI (fR s n).1=0:=by
 rcases xY s n with ⟨f,a,c⟩|⟨d,e,g,a⟩
 ·rw[sR (by rw[a];exact c),a] at b;exact absurd b c
 rw[vW a];exact aAR d e
theorem yQ {s:aG} {t:Int} (a:(eZ s t).2.2=0):iF (eZ s t).2.1/\aI (eZ s t).1=0:=by
 obtain⟨⟨g,n,d⟩,c⟩:∃ b,eZ s t=b:=⟨_,rfl⟩;rw[c] at a ⊢;obtain rfl:d=0:=a;obtain⟨b,e,f,rfl,rfl⟩:=aAh c;have h:=(zL b).2.2;have i:(iX t s.F).length<=s.F.length:=(aIR (l:=s.F)).length_le;exact⟨qD (by show -2000000<=(s.F.length:Int)-_;omega) (by show (s.F.length:Int)-_<=2000000;omega),Ys b e f⟩
theorem sP {s:aG} {q:Int} {f:List Run} (h:(bD s q f).2.2.2=0):aI (bD s q f).1=0/\(∀ n∈(bD s q f).2.1++(bD s q f).2.2.1,iF n)/\((bD s q f).2.1++(bD s q f).2.2.1).length<=12:=by
 obtain⟨⟨p,v,r,j⟩,i⟩:∃ a,bD s q f=a:=⟨_,rfl⟩;rw[i] at h ⊢;obtain rfl:j=0:=h;obtain⟨t,c,g,a,rfl,_,rfl,rfl,rfl⟩:=vU i;have b:=Vb (q:=a) c g;have e:=Ug (q:=a) c g;obtain⟨m,_,u⟩:=zL c;refine⟨b.right,λn l=>?_,?_⟩
 ·have d:=b.perm.subset l;obtain⟨o,k,rfl⟩:=aHd.1 d;exact m o (e.perm.subset (aHW _ k))
 have d:=b.perm.length_eq;have k:=e.perm.length_eq;simp only[aGb,aHC] at d k ⊢;show (lD s a f).2.1.length+(lD s a f).2.2.length<=12;omega
theorem zU {s:aG} {q t:Int} (a:jI s q t=0):aI s=0/\(0<=q/\q<s.K.length)/\0<=t/\t<48:=by
 by_cases b:aI s=0
 ·by_cases c:0<=q/\q<s.K.length
  ·by_cases d:0<=t/\t<48
   ·exact⟨b,c,d⟩
   rw[wB b c d] at a;cases a
  rw[zV b c] at a;cases a
 rw[Es b] at a;exact absurd a b
theorem Hq {s:aG} {q t:Int}:iF (kZ s q t).1:=by
 by_cases a:jI s q t=0
 ·rw[Em a];obtain⟨b,_⟩:=zU a;obtain⟨e,d,c⟩:=eR b;have:=oT (l:=s.K) q.toNat t.toNat s.F c;exact qD (by show -2000000<=aU s.K s.F q.toNat t.toNat;omega) (by show aU s.K s.F q.toNat t.toNat<=2000000;omega)
 rw[Ht a];exact qD (by simp) (by simp)
theorem Gl {s:aG} {q t:Int}:iF (kY s q t).1:=by
 by_cases a:jI s q t=0
 ·rw[Dq a];obtain⟨b,⟨h,i⟩,_⟩:=zU a;obtain⟨e,c,d⟩:=eR b;obtain⟨k,rfl⟩:∃ k:Nat,q=k:=⟨q.toNat,by omega⟩;have:=Mb e d c (k:=k) (by omega) t.toNat;obtain⟨f,g⟩:=this;exact qD (by show -2000000<=eQ s.K s.F (k:Int) t.toNat;omega) (by show eQ s.K s.F (k:Int) t.toNat<=2000000;omega)
 rw[Gm a];exact qD (by simp) (by simp)
theorem xK {s:aG} (a:aI s=0) (x:By):aI (dJ s x).1=0:=by
 have e:∀ c b l,aI (cK s c b l).1=0:=λc b l=>by
  unfold cK;split
  ·exact a
  split
  ·exact a
  dsimp only;split
  ·rename_i c;exact(sG c).2.1
  exact a
 have f:∀ b l,aI (dS s b l).1=0:=λb l=>by
  unfold dS;split
  ·exact a
  split
  ·exact a
  dsimp only;split
  ·rename_i c;exact(sP c).1
  exact a
 have g:∀ d b l,aI (lT d s b l).1=0:=λd b l=>by
  unfold lT;split
  ·exact a
  split
  ·exact a
  dsimp only;split
  ·exact a
  exact a
 have d:∀ l,aI (gH s l).1=0:=λl=>by
  unfold gH;split
  ·exact a
  dsimp only;split
  ·rename_i c;exact Jn c
  exact a
 have h:∀ l,aI (nF s l).1=0:=λl=>by
  unfold nF;split
  ·exact a
  dsimp only;split
  ·rename_i c;exact(yQ c).2
  exact a
 have i:∀ c b l,aI (jJ s c b l).1=0:=λc b l=>by
  unfold jJ
  repeat' split
  all_goals first|exact a|exact e _ _ _|exact f _ _|exact g _ _ _|exact d _|exact h _
 have j:∀ c,aI (kQ s c).1=0:=λc=>by
  unfold kQ;generalize (if nS (c.getD 0 []) then 2 else 1)=c;split
  ·exact a
  split
  ·exact a
  exact i _ _ _
 have c:aI (eC s x).1=0:=by
  unfold eC;split
  ·exact a
  exact j _
 unfold dJ;split
 ·exact c
 exact a
attribute [local go_sem] Oper.semAt_some
section
variable {P:o9}
theorem yN {f:FuncId} {n:Nat} {x y:Code} {Q:Exit->Act->y4->Prop} {a:Act} {w:y4} (b:∀ c:Act->y4->Prop,(∀ d e,Ld f n P y Q d e->c d e)->x.wp P (Exit.then c Q) a w):Ld f n P (.seq x y) Q a w:=
 eD (fI (wpIn_wide.2 (b _ (λ_ _ b=>b))))
theorem Xx {n:Nat} {fn:Func} {a:r8->y4->Prop} {tmps:Array y5} {D:Nat} {W:y4} {v:y5} (c:W.heap[D]?=M (.deferred (M []))) (d:∀ b,(results fn tmps).run P b=.ok v b) (b:a (zv v) (W.putObj D (.deferred J))) :
  bodyPostM Fence.wide n P fn a .ret { tmps:=tmps,defers:=[{ target:=.collected D,args:=#[]}]} W:=by
 refine⟨by simp,.inl ⟨D,_,rfl,m7 c,?_⟩⟩;exact⟨v,d _,b⟩
theorem Mo {n:Nat} {fn:Func} {b:r8->y4->Prop} {a:Act} {c:List m8} {D:Nat} {W:y4} (f:a.defers=[{ target:=.collected D,args:=#[]}]) (d:W.heap[D]?=M (.deferred (M []))) (e:b (zu c) (W.putObj D (.deferred J))) :
  bodyPostM Fence.wide n P fn b (.panic c) a W:=by
 show LeavesInM Fence.wide n P fn a.tmps b a.defers (.panicking c) W;rw[f];exact⟨by simp,.inl ⟨D,_,rfl,m7 d,e⟩⟩
theorem uV {c:Code} {K:Act->y4->Prop} {Q:Exit->Act->y4->Prop} {a:Act} {w:y4} (i:List i7) (h:List m8->y4->Prop) (j:∀ d b f,b.defers=i->h d f->Q (.panic d) b f)
  (e:c.wp P (Exit.then K (λg b f=>match g with|.panic d=>b.defers=i/\h d f|_=>False)) a w):c.wp P (Exit.then K Q) a w:=by
 refine wp_mono e ?_;rintro g b f e;cases g with
 | normal=>exact e
 | panic d=>exact j d b f e.1 e.2
 | _=>exact e.elim
end
theorem mK {q base e c n:Nat} {W W':y4} {v:y5} {xs:List y5} (b:W.ownsRow base e c v n xs) (j:jM q W W') (k:q<base):W'.ownsRow base e c v n xs:=by
 refine⟨b.1,?_⟩;rcases b.2 with g|⟨a,d,f,rfl,h,i,rest⟩
 ·exact .inl g
 exact .inr ⟨a,d,f,rfl,h,j.same a _ i rfl (by omega),rest⟩
theorem iT.shut {B C D:Nat} {w W:y4} {s S:aG} {r:kT} {x:By} {u v:y5} (g:r=(S,x,0)) (b:KT B w W) (d:Qf B C W S u v) (k:B<C) (h:D<C) (l:w<=D) (j:B<w.heap.size) (o:Obj):iT B w s r (zv (b9 (tx x))) (W.putObj D o):=by
 have a:=grownBy_putObj' W D o;exact iT.yes g ⟨a.os.trans b.os,a.tape.trans b.tape,a.output.trans b.output,aGR b.size a.size,λf e i=>(a.block f (aGs e b.size) (λc=>by have:=b7 c;omega)).trans (b.block f e i)⟩
  ⟨(a.block B (aGq.1 d.1).1 (λc=>by have:=b7 c;omega)).trans d.1,(d.2.past a h).sink (by omega)⟩
theorem eM {w:y4} {v:y5} {l:List Int} (n:fY w v l) (h:l≠[]):∃ a e c,v=O (M ⟨a,e,J⟩) l.length c/\l.length<=c/\a<w.heap.size/\∀ d b,l[d]?=M b->w ⟨a,e+d,J⟩=M (Y Z b)/\I64 b:=by
 rcases n with ⟨g,_⟩|⟨a,e,c,f,k,_,_,j,i⟩
 ·exact absurd g h
 exact⟨a,e,c,f,k,j,λd b m=>by have:=i d b m;rw[Nat.mul_one] at this;exact this⟩
theorem Xs {z x:Nat} {b post:List Nat} (a:List.range z=b++x::post):b.length=x/\x<z:=by
 have c:(List.range z)[b.length]?=M x:=by rw[a,List.getElem?_append_right (aGi _),Nat.sub_self];rfl
 rw[List.getElem?_range] at c
 ·have d:=b7 c;exact⟨d,by have:=congrArg List.length a;simp at this;omega⟩
 have:=congrArg List.length a;simp at this;omega
theorem lJ {w:y4} {base e d n:Nat} {v:y5} {xs:List y5} (c:w.ownsRow base e d v n xs):∃ a b,v=O a n b:=by
 rcases c.2 with ⟨rfl,a⟩|⟨g,b,f,rfl,_⟩
 ·exact⟨J,0,by rw[a]⟩
 exact⟨_,_,rfl⟩
theorem Rq {w:y4} {base e h n:Nat} {v:y5} {xs:List y5} (f:w.ownsRow base e h v n xs):∀ (r:Nat) (o:Obj),v.ownBlock=M r->w.heap[r]?=M o->o.isCells=true:=λr o a c=>by
 rcases f.2 with ⟨b,_⟩|⟨d,i,j,b,_,g,_⟩
 ·rw[b] at a;cases a
 rw[b] at a;obtain rfl:d=r:=by simpa[aHR] using a
 rw[g] at c;cases c;rfl
theorem Is:(prog.info? 110).map (λa=>(a.zero,a.size,a.bytes))=M (M (.agg #[Y Z 0,Y Z 0]),2,16):=by kernel_rfl
def Ib (w0:y4) (base e:Nat) (q a b k:Int) (l:List Int) (c:List Nat) (W:y4):Prop:=∃ (d:y5),W.heap[e]?=M (zt #[q,a,b,k,d] 77 (0,0))/\(dC Piece.mk (l.take (c.length*2))).length=c.length/\
 W.ownsRow base 110 2 d c.length (bH Piece.Len Piece.N (dC Piece.mk (l.take (c.length*2))))/\d7 w0 W/\base<=W
theorem Ib.keep {w0:y4} {base c qq:Nat} {q a b k:Int} {l:List Int} {e:List Nat} {W W':y4} (f:Ib w0 base c q a b k l e W) (d:jM qq W W') (o:d7 w0 W') (g:c≠qq) (h:qq<base):Ib w0 base c q a b k l e W':=by
 obtain⟨p,i,j,m,r,n⟩:=f;exact⟨p,d.same c _ i rfl g,j,mK m d h,o,aGR n d.size⟩
theorem Ib.e {w0:y4} {base d:Nat} {q a b k:Int} {l:List Int} {e:List Nat} {W:y4} (c:Ib w0 base d q a b k l e W):d7 w0 W:=by obtain⟨_,_,_,_,c,_⟩:=c;exact c
theorem Ib.own {w0:y4} {base e B qq:Nat} {q a b k:Int} {l:List Int} (i:qq<base) (j:e≠qq) (m:w0<=B):OwnFrom B (Ib w0 base e q a b k l):=λs c c c f g h=>
 f.keep (qq:=qq) (jM.cells g (λd c=>(h d c).2)) (f.e.gro g (λd c=>aGR m (h d c).1)) j i
theorem Ib.turns {w0:y4} {base c qq:Nat} {q a b k:Int} {l:List Int} (g:qq<base) (h:c≠qq) (i:w0<=qq):pX qq (Ib w0 base c q a b k l):=λs d d d d e f=>
 d.keep (jM.turn e f) (d.e.gro e (λe d=>by have:=f e d;omega)) h g
theorem tT {α:Type} {mk:Int->Int->α} {f g:α->Int} (e:∀ a b,f (mk a b)=a/\g (mk a b)=b):∀ (l:List Int),(∀ n∈l,I64 n)->∀ d∈dC mk l,I64 (f d)/\I64 (g d)
 | [],_,d,c=>by cases c
 | [_],_,d,c=>by cases c
 | a::b::r,hl,d,c=>by
  rcases aH1.1 c with rfl|c
  ·rw[(e a b).1,(e a b).2];exact⟨hl a (by simp),hl b (by simp)⟩
  exact tT e r (λn a=>hl n (by simp[a])) d c
theorem aCk (w0 w:y4) (hw:gC w0) (cg:d7 w0 w) (B:Nat) (ci:w0<=B) (s:aG) (u v:y5) (y:fF B w s u v) (k:Int) (x:By) (lv:y5) (l:List Int) (hl:fY w lv l) (hk:I64 k) (z:Nat) (hz:l.length=(z+1)*2) (dg:1<=z) (dh:z<=3) (hq:0<=cT s.K x) :
  y8 prog 42 #[zz (M ⟨B,0,J⟩),k,b9 (tx x),lv] w (iT B w s (cK s k x l)):=by
 obtain⟨lb,lo,lc,rfl,cu,dd,hE⟩:=eM hl (λE=>by rw[E] at hz;simp at hz);obtain⟨n,F⟩:∃ n,l.length=n:=⟨_,rfl⟩;rw[F] at cu ⊢;obtain⟨a,ha⟩:=aV (f:=l) (k:=0) (by omega);obtain⟨b,hb⟩:=aV (f:=l) (k:=1) (by omega);obtain⟨U,ia⟩:=hE 0 a ha;obtain⟨X,ib⟩:=hE 1 b hb;rw[aGM] at U;obtain⟨QI,HE,HW,HT,bt,bu,bv,bx,bz⟩:=zh (λ(d:y4) (Q:d7 w d)=>(oS d B s u v (y.e Q) x).m λE w' bn=>show d7 d w'/\E=zv (Y Z (cT s.K x)) from by unfold zZ at bn;rwa [c7 hq] at bn) hE hw y ia ib hk ha hb;obtain⟨R,ab⟩:∃ q,cT s.K x=q:=⟨_,rfl⟩;have c3:=I ab;rw[ab] at QI hq;have bm:I64 R:=by
  rcases pV s.K x with V|⟨p,V,T⟩
  ·rw[ab] at V;omega
  rw[ab] at V;have:=y.2.tree.i;obtain⟨_,_,_,_,_,c⟩:=this;exact I64.of (by omega) (by omega)
 have c2:=I bm;have bh:n=(z+1)*2:=F▸hz;have e1:((n:Int) % 2 == 0)=true:=by simp;omega
 have e2:(n:Int)>=4:=by omega
 have e3:(n:Int)<=8:=by omega
 obtain⟨a7,ae⟩:=zr bh F;clear hl hE hw y ia ib hk ab bm ha hb bh F hz;refine pG (n:=5) func42 rfl ?_;simp only[ntmps42,aH2,aGt,aGu,aH3,aH4,aH5,aH6,aH7,aH8,aH9,aGd];refine eD (fI ?_);gi_wp2;refine yN λh c=>?_
 go_cut [] from 15 to 99 (λd=>d=w)
 case first=>
  go_wp2_with fail;refine(dE _ _).m ?_;rintro E g ⟨rfl,e⟩;obtain rfl:=e.symm;go_wp2_with fail;go_meet
  case rel=>exact rfl
 case rest=>
  obtain rfl:=hcut.symm;refine c _ _ ?_;clear c h;refine yN λh c=>?_
  go_cut [9] from 15 to 99 (λah d=>∃ e,ah=zz (M ⟨e,0,J⟩)/\d.heap[e]?=M (zt #[R,a,b,k,O J 0 0] 77 (0,0))/\d7 w d/\w.heap.size<=e)
  case first=>
   have P:0<n:=by omega
   have W:(1:Int)<(n:Int):=by omega
   refine uV [] (λ_ _=>False) (λ_ _ _ _ y=>y.elim) ?_;refine v8 (S:=λK=>K ⟨lb,lo,J⟩=M (Y Z a)/\K ⟨lb,lo+1,J⟩=M (Y Z b)) (by kernel_rfl) ⟨(b8 w).dr.c U,(b8 w).dr.c X⟩ (λg=>?_);refine tkH 0 ?_;refine tkH 1 ?_;refine tkH 3 ?_;refine tkH 4 ?_;refine tkH 5 ?_;refine tkH 6 ?_;refine tkH 7 ?_;refine tkH 8 ?_;refine tkH 9 ?_;refine wpAnyH_ready (rs:=[2,11]) (by kernel_rfl) (by simp) ?_;refine AllReadyH.cons rfl (λh c=>?_) (AllReadyH.cons rfl (λh c=>?_) AllReadyH.nil)
   all_goals simp only[zA,zB,zC]
   ·go_simp;refine(QI _ (b8 w).dr).m ?_;rintro E A ⟨H,rfl⟩;have i:d7 w A:=(b8 w).dr.r H;go_wp2_with fail;refine c.out _ _ (⟨i.c U,i.c X⟩) λg=>?_
    clear c h;refine tkH 10 ?_;refine goH 11 λh c=>?_;simp only[zA,zB,zC];go_simp;have F:=y7 A (zt #[Y Z 0,Y Z 0,Y Z 0,Y Z 0,O J 0 0] 77);obtain⟨m,j⟩:∃ m,A.alloc (zt #[Y Z 0,Y Z 0,Y Z 0,Y Z 0,O J 0 0] 77)=m:=⟨_,rfl⟩;rw[j] at F;rw[j];have L:d7 w m:=j▸i.a _;refine c.out _ _ (⟨L.c U,L.c X⟩) λg=>?_
    clear c h;refine goH 12 λh c=>?_;simp only[zA,zB,zC];rw[c7 (by rfl)];refine o7 77 _ _ rfl A #[R,a,b,k,O J 0 0] rfl rfl 77 _ F size77 rfl (by simp[aGr]) ?_;have G:=L.sr (b:=A) i.size #[R,a,b,k,O J 0 0];refine c.out _ _ (⟨G.c U,G.c X⟩) λg=>?_
    clear c h;refine dnH ?_;go_wp2_with fail;go_meet
    case rel=>exact⟨_,rfl,x5 _ _ _ _ _ _ F,G,i.size⟩
   go_simp;have F:=y7 w (zt #[Y Z 0,Y Z 0,Y Z 0,Y Z 0,O J 0 0] 77);obtain⟨m,j⟩:∃ m,(w.alloc (zt #[Y Z 0,Y Z 0,Y Z 0,Y Z 0,O J 0 0] 77)).drew=m:=⟨_,rfl⟩;have N:m.heap[w.heap.size]?=M (zt #[Y Z 0,Y Z 0,Y Z 0,Y Z 0,O J 0 0] 77 (0,0)):=j▸F;rw[j];have L:d7 w m:=j▸((b8 w).a _).dr;refine c.out _ _ (⟨L.c U,L.c X⟩) λg=>?_
   clear c h;refine goH 2 λh c=>?_;simp only[zA,zB,zC];go_simp;refine(QI _ L).m ?_;rintro E A ⟨H,rfl⟩;have i:d7 w A:=L.r H;have a5:=aO N H
   go_wp2_with fail;refine c.out _ _ (⟨i.c U,i.c X⟩) λg=>?_
   clear c h;refine tkH 10 ?_;refine goH 12 λh c=>?_;simp only[zA,zB,zC];rw[c7 (by rfl)];refine o7 77 _ _ rfl w #[R,a,b,k,O J 0 0] rfl rfl 77 _ a5 size77 rfl (by simp[aGr]) ?_;have G:=i.sr (b:=w) (aGi _) #[R,a,b,k,O J 0 0];refine c.out _ _ (⟨G.c U,G.c X⟩) λg=>?_
   clear c h;refine dnH ?_;go_wp2_with fail;go_meet
   case rel=>exact⟨_,rfl,x5 _ _ _ _ _ _ a5,G,aGi _⟩
  case rest=>
   obtain⟨e,rfl,hR,cE,cn⟩:=hcut;refine c _ _ ?_;clear c h U X;have a8:=I cE;have d6:e<wc.heap.size:=(aGq.1 hR).1;have j1:(2:Int)<=(n:Int):=by omega
   have j2:(n:Int)<=(lc:Int):=by omega
   refine eD (eD (fI ?_));gi_wp2;refine⟨trivial,(callsIn_wide.2 (Tn _ _ _ _)).mono ?_⟩;rintro E w1 ⟨rfl,rfl⟩;gi_wp2;refine sC ?_;rw[show n-2=z*2 from by have:=a7.o;omega];obtain⟨K,W⟩:∃ K,(wc.alloc (zt #[O (M ⟨lb,lo+2,J⟩) (z*2) (lc-2)] 74)).alloc (zt #[Y Z 2] 3)=K:=⟨_,rfl⟩;rw[W];have bo:K.heap.size=wc.heap.size+2:=by rw[<- W];simp
   have b2:s9 K wc 74 (O (M ⟨lb,lo+2,J⟩) (z*2) (lc-2)):=by rw[<- W];exact(Boxed.new wc _ _).alloc _
   have b3:s9 K (wc+1) 3 (Y Z 2):=by
    rw[<- W];have:=Boxed.new (wc.alloc (zt #[O (M ⟨lb,lo+2,J⟩) (z*2) (lc-2)] 74)) 3 (Y Z 2);rwa [aHb] at this
   have aw:d7 wc K:=by rw[<- W];exact((b8 wc).a _).a _
   obtain⟨b0,a3⟩:=zr (Sx 4 (by omega) wc (wc+1) lb (lo+2) z (lc-2) (by omega) (by have:=a7.o;omega) K b2 b3) bo;have ba:=aO hR aw;clear W bo b2 b3 hR;refine uW func42 (gf:=140) (lb:=#[zz (M ⟨wc,0,J⟩),zz (M ⟨wc+1,0,J⟩)]) rfl (enters_of func140 (by kernel_rfl) rfl)
    b0.o (λy k=>y.r k) (bJ.put (by have:=a3.o;intro p hj;simp only[aH1,aHa,or_false] at hj;omega)) (Below.refl _ _) (by have:=a3.o;omega) (λ_=>rfl)
    (Ib w K e R a b k (l.drop 2)) (λ_ _=>False) (Ib.own (qq:=wc.heap.size) (by have:=a3.o;omega) (by omega) (by have:=a3.o;have:=a8.size;omega)) (Ib.turns (by have:=a3.o;omega) (by omega) a8.size) ⟨_,ba,rfl,aGQ _ _ _ _,a8.r aw,aGi _⟩ ?a1 ?assign ?body ?done ?pan
   case assign=>
    intro P x d h c;have HK:=I c;clear c;gi_wp2;exact HK
   case body=>
    intro P ay x post d am hI;refine wpIn_block ?_;obtain⟨pv,hRow,hlen,G,Q,aj⟩:=hI;obtain⟨a2,b6⟩:=Xs am;rw[a2] at hlen G;obtain⟨p0,ad⟩:=aV (f:=l) (k:=x*2+2) (by rw[ae.o,a7.o];omega);obtain⟨p1,ag⟩:=aV (f:=l) (k:=x*2+3) (by rw[ae.o,a7.o];omega);have ac:=I (sJ Piece.mk (l.drop 2) x (a:=p0) (b:=p1) (by rw[aGG,Nat.add_comm];exact ad) (by rw[aGG,show 2+(x*2+1)=x*2+3 by omega];exact ag));have c0:=Q.c (HE _ _ ad).1;have c1:=Q.c (HE _ _ ag).1;rw[show lo+(x*2+2)=lo+2+x*2 by omega] at c0;rw[show lo+(x*2+3)=lo+2+x*2+1 by omega] at c1;obtain⟨pa,pc,rfl⟩:=lJ G;have cR:d ⟨e,4,J⟩=M (O pa x pc):=y6 _ _ 4 _ _ _ hRow;obtain⟨ip,ar,au,av,ax⟩:=s8 Is;obtain⟨HM,an,ao,af,a4,ai⟩:=zl a2 hlen G hRow Q aj;have b5:=a3.o;clear am ad ag a2 hlen G hRow Q aj;refine mP (S:=λj=>j ⟨e,4,J⟩=M (O pa x pc)/\j ⟨lb,lo+2+x*2,J⟩=M (Y Z p0)/\j ⟨lb,lo+2+x*2+1,J⟩=M (Y Z p1)) (t:=12) (λa' j=>o6 K d j/\bJ [wc.heap.size,wc.heap.size+1] d j/\Ib w K e R a b k (l.drop 2) (ay++[x]) j) (λch j=>False) (by kernel_rfl) (by kernel_rfl) (λa' w' y=>y) (λch a' w' hd y=>y.elim) ⟨cR,c0,c1⟩ (λg=>?_);clear cR c0 c1;refine tkT 0 ?_;refine tkT 1 ?_;refine tkT 2 ?_;refine tkT 3 ?_;refine tkT 4 ?_;refine tkT 5 ?_;refine tkT 6 ?_;refine tkT 7 ?_;refine tkT 8 ?_;refine goT 9 λh c=>?_;simp only[zA,zB,zC];go_simp;obtain⟨A,a6⟩:∃ A,(d.alloc (zt #[p0,p1] 110)).drew=A:=⟨_,rfl⟩;have a5:∀ (p:Nat) u,[Y .i64 p0,Y .i64 p1][p]?=M u->A ((⟨d,0,J⟩:Addr).add p)=M u:=a6▸xF d rfl (Y Z p0) (Y Z p1) 110;have i:d7 d A:=a6▸((b8 d).a _).dr;have aa:=aJ ao i;rw[a6];refine c.out _ _ (⟨i.c g.1,i.c g.2.1,i.c g.2.2⟩) λg=>?_
    clear c h;refine goT 10 λh c=>?_;simp only[zA,zB,zC];refine e7 _ _ _ _ (by rfl) K 110 ip _ 2 16 underlying75 ar au av ax rfl (by decide) (O pa x pc) x _ (by rfl) aa ⟨d,0,J⟩ 1 1 [Y Z p0,Y Z p1] (by rfl) (by rfl) a5 (xE _ _ _ _) (by unfold o0;omega) (by omega) (by have:=ai.o;have:=i.size;omega) ?_;intro v2 m al N b4;have a0:∀ r,(O pa x pc).ownBlock=M r->K.heap.size<=r:=λr H=>bN aa r H;have aq:e<d.heap.size:=(aGq.1 af).1;have a1:=(N.block e (aGs aq i.size) (λE=>by have:=a0 _ E.symm;omega)).trans (aO af i);have L:d7 w m:=(a4.r i).gr N (λr H=>by have:=a0 r H;have:=a8.size;omega);have ap:m ⟨e,4,J⟩=M (O pa x pc):=y6 _ _ 4 _ _ _ a1;have az:=x4 m e 4 _ _ a1;obtain⟨va,vc,rfl⟩:=lJ al;have b1:lb<wc.heap.size:=by have:=a8.size;omega
    have ak:=N.block lb (by have:=a4.size;have:=i.size;omega) (λE=>by have:=a0 _ E.symm;omega);refine c.out _ _ (⟨ap,(aHm (a:=⟨lb,lo+2+x*2,J⟩) ak).trans g.2.1,(aHm (a:=⟨lb,lo+2+x*2+1,J⟩) ak).trans g.2.2⟩) λg=>?_
    clear c h;refine tkT 11 ?_;refine laT λh c=>?_;simp only[zA,zB,zC];go_simp;refine c.out _ _ ?_;clear c h;have a9:=aN m e 4 (O va (x+1) vc);have hlen2:(dC Piece.mk ((l.drop 2).take ((x+1)*2))).length=x+1:=by rw[ac.o,aGb,an.o];rfl
    refine⟨((KeepsFrom.ext i).trans ((KeepsOthers.of_grownBy N (Rq aa)).from _)).trans (KeepsFrom.sc m _ e 4 _),
     ((bJ.e i).r (bJ.grown N (λr H hm=>by have:=a0 r H;simp only[aH1,aHa,or_false] at hm;omega))).r (bJ.grown a9 (λr H hm=>by cases H;simp only[aH1,aHa,or_false] at hm;omega)),
     O va (x+1) vc,?_,?_,?_,?_,?_⟩
    ·exact x6 m e 4 _ _ _ a1
    ·rw[aGb,HM.o];exact hlen2
    ·rw[aGb,HM.o];show (m.setCell ⟨e,4,J⟩ (O va (x+1) vc)).ownsRow K 110 2 (O va (x+1) vc) (x+1) (bH Piece.Len Piece.N (dC Piece.mk ((l.drop 2).take ((x+1)*2))));rw[ac.o,lS];exact mK al (jM.turn (q:=e) a9 (λr E=>(b7 E).symm)) (by omega)
    ·exact L.se (b:=e) (o:=4) cn _
    have:=ai.o;have:=i.size;have:=N.size;have:=a9.size;omega
   case pan=>rintro D ch d _ y;exact y.elim
   case done=>
    rintro D d cz ⟨pv,hRow,hlen,G,Q,aj⟩ hD;rw[aIT] at hlen G;rw[show (l.drop 2).take (z*2)=l.drop 2 from aHF (by rw[aI4,ae.o,a7.o];omega)] at hlen G;have bi:d.ownsRow K 110 2 pv (dC Piece.mk (l.drop 2)).length (bH Piece.Len Piece.N (dC Piece.mk (l.drop 2))):=by rw[hlen];exact G
    have bg:∀ n∈l.drop 2,I64 n:=λn F=>by
     obtain⟨p,hj⟩:=aIS (aI3 F);exact(HE p n hj).2
    have bl:aM d pv (dC Piece.mk (l.drop 2)):=bL bi (tT (λ_ _=>⟨rfl,rfl⟩) _ bg) (by omega);have bd:l.getD 0 0=a:=by rw[aGW,bx.o];rfl
    have be:l.getD 1 0=b:=by rw[aGW,bz.o];rfl
    obtain⟨r,H⟩:∃ r,(⟨R,a,b,k,dC Piece.mk (l.drop 2)⟩:aF)=r:=⟨_,rfl⟩;have bb:cK s k x l=if(aW s r).2.2=0 then((aW s r).1,kK ((aW s r).2.1::qJ (aW s r).1),0) else(s,[],(aW s r).2.2):=by
     unfold cK;rw[d8 (by rw[ae.o,a7.o];omega),c3.o,d8 (by omega),bd,be,H]
    have SB:=I (λ(j:y4) (y:d7 d j)=>show y8 prog 92 #[.agg #[s.G,s.H,u,v],.agg #[R,a,b,k,pv]] j (dF j (aW s r)) from by
     have N:=HT.e (Q.r y);have:=aBf j u v pv s r N.2.tree N.2.books (by rw[<- H];exact bl.m y) (by rw[<- H];exact⟨c2.o,bt,bu,bv⟩);rw[<- H] at this ⊢;exact this)
    obtain⟨c5,az,a4,HD,b1⟩:=zm (λy=>sG (s:=s) (r:=r) y) bb Q hD (HT.e Q);have cj:B<w.heap.size:=(aGq.1 HT.1).1;have ck:D<d.heap.size:=(aGq.1 hD).1;have W:w<=D:=by have:=a3.o;have:=a8.size;omega
    obtain⟨ua,un,uc,va,vn,vc,rfl,rfl⟩:=HT.i;obtain⟨pa,pc,rfl⟩:=lJ G;obtain⟨k0,k1,k2,k3⟩:=b1.cells;have r0:=y6 _ _ 0 _ _ _ hRow;have r1:=y6 _ _ 1 _ _ _ hRow;have r2:=y6 _ _ 2 _ _ _ hRow;have r3:=y6 _ _ 3 _ _ _ hRow;have r4:=y6 _ _ 4 _ _ _ hRow;clear hRow hlen G bi Q aj hD bg bl bd be H bb cz b0 aw ba QI;generalize aW s r=sr at *;obtain⟨S,id,er⟩:=sr;refine fI (n:=5) (wpIn_wide.2 ?_);generalize b6:bodyPostM Fence.wide 5 prog f42 (iT B w s (cK s k x l))=QQ;have ay:=I b6;clear b6;have b4:B<d.heap.size:=by have:=a4.size;omega
    go_wp2_with fail;refine uV [{ target:=.collected D,args:=#[]}] (λch j=>ch=iB er/\er≠0/\d7 d j) (λch a' j hd y=>by
     obtain⟨rfl,T,N⟩:=y;rw[<- ay.o];exact Mo hd (aO HD N) (iT.no (by rw[az.o,d8 T]) T ((a4.r N).put W _) HT)) ?_
    refine cN 11 (λj=>j ⟨e,0,J⟩=M (Y Z R)/\j ⟨e,1,J⟩=M (Y Z a)/\j ⟨e,2,J⟩=M (Y Z b)/\j ⟨e,3,J⟩=M (Y Z k)/\j ⟨e,4,J⟩=M (O pa z pc)) (by kernel_rfl) ⟨r0,r1,r2,r3,r4⟩ (λg=>?_);clear r0 r1 r2 r3 r4;refine tkT 0 ?_;refine tkT 1 ?_;refine tkT 2 ?_;refine tkT 3 ?_;refine tkT 5 ?_;refine goT 4 λh c=>?_;simp only[zA,zB,zC];go_simp;refine c.out _ _ g λg=>?_
    clear c h;refine goT 6 λh c=>?_;simp only[zA,zB,zC];go_simp;refine(SB _ (b8 d).dr).m ?_;rintro E A ⟨tu,tv,rfl,hS,i⟩;have a1:d7 d A:=(b8 d).dr.r i;have ag:StS d A tu tv S:=hS;obtain⟨ta,tc,cx,_⟩:=ag.tree.i;obtain⟨cb,cc,co,_⟩:=ag.books.i;subst cx co;obtain⟨TU,ak⟩:=zr (Cj A B d b4 s S _ _ _ _ id er (b1.e a1) ag) a1;clear hS ag i
    go_wp2_with fail;refine c.out _ _ (⟨a1.c g.1,a1.c g.2.1,a1.c g.2.2.1,a1.c g.2.2.2.1,a1.c g.2.2.2.2⟩) λg=>?_
    clear c h;refine tkT 7 ?_;refine tkT 8 ?_;refine tkT 9 ?_;refine goT 10 λh c=>?_;simp only[zA,zB,zC];go_simp;refine TU.m ?_;intro E m hT;unfold Hw at hT;by_cases V:er=0
    ·rw[c7 V] at hT;obtain⟨rfl,hk,a0⟩:=hT;have cl:e≠B:=by omega
     have cm:e<A.heap.size:=by have:=(World.block_lt_of_cell? _ _ g.1:e<A.heap.size);exact this
     have a9:=hk.block e cm (λE=>cl (b7 E));go_wp2_with fail;refine c.out _ _ (⟨(aHm (a:=⟨e,0,J⟩) a9).trans g.1,(aHm (a:=⟨e,1,J⟩) a9).trans g.2.1,(aHm (a:=⟨e,2,J⟩) a9).trans g.2.2.1,(aHm (a:=⟨e,3,J⟩) a9).trans g.2.2.2.1,(aHm (a:=⟨e,4,J⟩) a9).trans g.2.2.2.2⟩) λg=>?_
     clear c h;refine laT λh c=>?_;simp only[zA,zB,zC];go_simp;refine c.out _ _ ?_;clear c h;obtain⟨bj,cw,N,aa,bk,cq⟩:=c5 V;obtain⟨a6,hm⟩:∃ a6,S.F.length=a6+1:=by
      cases hb:S.F with
      | nil=>rw[show (S,id,er).1.F=S.F from rfl,hb] at aa;cases aa
      | cons P r=>exact⟨r.length,rfl⟩
     have a2:S.F[a6]?=M N:=by
      have T:S.F.getLast?=M N:=aa;rw[List.getLast?_eq_getElem?,hm] at T;exact T
     have bf:qJ S=N.L.map (·.At):=by unfold qJ;rw[show S.F.getLast?=M N from aa]
     rw[hm] at a0;have ao:=az.o;rw[c7 V] at ao;obtain⟨c4,bw,bQ,bR⟩:=zp ao bf bj bk;obtain⟨c0,c1,ce,cf⟩:=(⟨y6 _ B 0 _ _ _ a0.1,y6 _ B 1 _ _ _ a0.1,y6 _ B 2 _ _ _ a0.1,y6 _ B 3 _ _ _ a0.1⟩:m ⟨B,0,J⟩=M (Y Z S.G)/\m ⟨B,1,J⟩=M (Y Z S.H)/\m ⟨B,2,J⟩=_/\m ⟨B,3,J⟩=M (O cb (a6+1) cc));have cr:=a0.2.books;rcases cr with ⟨e9,_⟩|⟨vb,vo,dj,e9,_,_,de,cy,b5⟩
     ·rw[e9] at a2;simp at a2
     rw[hm] at e9;cases e9;obtain⟨d1,⟨qs,cd,rfl,⟨di,rfl,_⟩,ar,_⟩,bc⟩:=b5 a6 N a2;have c6:=bc 6 cd rfl;obtain⟨da,dc,rfl,_,_,_⟩:=ar.i;have df:IntKind.i64.wrap (a6:Int)=(a6:Int):=by rw[IntKind.wrap_i64];omega
     obtain⟨af,HM,br,HK⟩:=zp a0 hm ar hk;obtain⟨T,aq⟩:∃ T,N.L.length=T:=⟨_,rfl⟩;have ax:=I aq;rw[aq] at c6 cq;clear a0 ar hk ao bf bj bk aa a2 b5 bc aq cw g a9;go_wp2_with fail;go_upto_region 8 with fail
     go_cut [82,83,84] from 15 to 99 (λah q r d=>ah=O da T dc/\q=Y Z (T:Int)/\r=Y Z 0/\d7 m d)
     case first=>
      go_quiet (fail);go_wp2_with fail;go_meet
      case rel=>exact⟨rfl,rfl,rfl,(b8 m).dn nq⟩
     obtain⟨rfl,rfl,rfl,bp⟩:=hcut;have al:=I bp;clear bp;obtain⟨ii,cF,cL,cR,d0⟩:=s8 Gq;clear c0 c1 ce cf c6 cy;go_wp2;go_loopw [12,84] (λvo ad wr=>∃ k:Nat,ad=Y Z k/\k<=T/\Hid (wr.ownsRow wc 3 1 vo k (Ad ((N.L.map (·.At)).take k)))/\Hid (d7 wc wr)) (λvo ad _=>T-(intOf ad).toNat);exact⟨0,rfl,by omega,I (aGQ _ _ _ _),I (b8 _)⟩;obtain⟨p,rfl,hj,HO,HX⟩:=hrel;by_cases cs:p<T
     ·have ct:=z7 p T;obtain⟨P,hy⟩:=aV (f:=N.L) (k:=p) (by rw[ax.o];exact cs);rcases br.o with ⟨h9,_⟩|⟨db,d5,d4,e8,_,_,_,d9,an⟩
      ·rw[h9] at hy;simp at hy
      cases e8;obtain⟨d2,d3,_,_⟩:=E2.m _ _ _ _ _ (al.r HX) (an p P hy);have ac:=I (by rw[aHZ,aHt,hy];rfl:(N.L.map (·.At)).take (p+1)=(N.L.map (·.At)).take p++[P.At]);obtain⟨Wn,ah⟩:∃ Wn,(wr.alloc (zt #[P.Piece,P.At] 113)).alloc (zt #[P.At] 3)=Wn:=⟨_,rfl⟩;have ai:d7 wr Wn:=ah▸((b8 wr).a _).a _;have G:=aJ HO ai;have a5:∀ (ad:Nat) u,[Y .i64 P.At][ad]?=M u->Wn ((⟨wr+1,0,J⟩:Addr).add ad)=M u:=ah▸wN _ (by simp) _ _;obtain⟨B3,am,av,c8,ca⟩:=zm (by have:=HX.size;have:=ai.size;omega:wc.heap.size<=Wn.heap.size) G a5 ah ai;clear hy an ah G a5 ai;go_wp2_with (at_builtin;rw[c8.o];refine r6 _ rfl _ _ 74 rfl wc 3 ii _ 1 8 underlying74 cF cL cR d0 rfl (by decide) _ _ _ rfl am ⟨wr+1,0,J⟩ 1 1 [Y Z P.At] rfl rfl av (aAw _ _) (by unfold o0;omega) (by omega) B3 ?_);intro v2 W4 au ap cv;obtain⟨c9,bq⟩:=zr ((HX.r ca).gr ap (λr H=>bN am r H)) (by rw[ac.o,uC];exact au:W4.ownsRow wc 3 1 v2 (p+1) (Ad ((N.L.map (·.At)).take (p+1))));clear au ap cv;go_wp2;go_roundw;exact⟨p+1,by go_num,by omega,bq,c9⟩;simp[intOf];omega
     obtain rfl:p=T:=by omega
     have ct:=z8 p p;obtain⟨a5,ah⟩:∃ a5,N.L.map (·.At)=a5:=⟨_,rfl⟩;have ap:a5.length=p:=by rw[<- ah,aHC,ax.o]
     have ai:∀ n∈a5,iF n:=λn F=>by
      rw[<- ah] at F;obtain⟨P,hy,rfl⟩:=aHd.1 F;exact bR P hy
     have G:=HO.o;rw[ah,aHF (by omega),<- ap] at G;have hv:=rP G (λn F=>⟨by have:=(ai n F).1;omega,(ai n F).2⟩) (by omega);obtain⟨am,an,rfl,_,_,_⟩:=hv.i;rw[ap] at G;have ac:=(b8 wr).a (zt #[.iface 3 (Y Z id),.iface 74 (O am p an)] 20);have au:=y7 wr (zt #[.iface 3 (Y Z id),.iface 74 (O am p an)] 20);have bq:d7 w0 (wr.alloc (zt #[.iface 3 (Y Z id),.iface 74 (O am p an)] 20)):=(KT.base (HK.r (KT.e (al.r (HX.r ac)))) (cg.r (a4.r ak)) ci);have LI:=I (rJ _ (HW.e bq) wr 2 [.n id,.l a5] (by simp) (by simp) (by simp) (λad it P=>by
      match ad,P with
      | 0,P=>cases P;exact⟨_,y6 _ _ 0 _ _ _ au,rfl,bQ⟩
      | 1,P=>cases P;exact⟨_,y6 _ _ 1 _ _ _ au,_,rfl,by rw[<- ap] at ac ⊢;exact hv.m ac,ai,by omega⟩
      | ad+2,P=>simp at P))
     have c8:=I ac;clear G hv bq au ai ac;go_wp2_with fail;refine LI.m ?_;rintro E W5 ⟨rfl,ca⟩;have av:=al.r (HX.r (c8.r ca));have c9:D≠B:=by omega
     go_wp2_with fail;rw[<- ay.o];refine Xx (D:=D) (aO (HK.at (aO HD ak) c9) av) (λj=>by simp[results,results42];rfl) ?_;refine iT.shut (S:=S) (C:=d.heap.size) (x:=Lib.join (jO [.n id,.l a5]) [32]) ?_ ((KT.e (a4.r ak)).r (HK.r (KT.e av))) (af.e av) b4 ck W cj _;rw[c4.o];show (S,kK (id::qJ S),(0:Int))=_;rw[bw.o,ah];simp[kK,jO,oR]
    rw[d8 V] at hT;obtain⟨rfl,L⟩:=hT;exact⟨rfl,V,a1.r L⟩
attribute [local go_sem] Oper.semAt_some
theorem aCv:(prog.info? 101).map (λa=>(a.zero,a.size,a.bytes))=M (M (.agg #[Y Z 0,Y Z 0]),2,16):=by kernel_rfl
def If (w0:y4) (base F:Nat) (l:List Int) (a:List Nat) (W:y4):Prop:=∃ (b:y5),s9 W F 61 b/\(dC Run.mk (l.take (a.length*2))).length=a.length/\
 W.ownsRow base 101 2 b a.length (bH Run.At Run.N (dC Run.mk (l.take (a.length*2))))/\d7 w0 W/\base<=W
theorem If.keep {w0:y4} {base F qq:Nat} {l:List Int} {b:List Nat} {W W':y4} (c:If w0 base F l b W) (a:jM qq W W') (j:d7 w0 W') (d:F≠qq) (e:qq<base):If w0 base F l b W':=by
 obtain⟨k,f,g,h,m,i⟩:=c;exact⟨k,Boxed.keep f a d,g,mK h a e,j,aGR i a.size⟩
theorem If.e {w0:y4} {base F:Nat} {l:List Int} {b:List Nat} {W:y4} (a:If w0 base F l b W):d7 w0 W:=by obtain⟨_,_,_,_,a,_⟩:=a;exact a
theorem If.own {w0:y4} {base F B qq:Nat} {l:List Int} (f:qq<base) (g:F≠qq) (h:w0<=B):OwnFrom B (If w0 base F l):=λs a a a c d e=>
 c.keep (qq:=qq) (jM.cells d (λb a=>(e b a).2)) (c.e.gro d (λb a=>aGR h (e b a).1)) g f
theorem If.turns {w0:y4} {base F qq:Nat} {l:List Int} (d:qq<base) (e:F≠qq) (f:w0<=qq):pX qq (If w0 base F l):=λs a a a a b c=>
 a.keep (jM.turn b c) (a.e.gro b (λb a=>by have:=c b a;omega)) e d
theorem zK {f W:y4} {r:Nat} {e:y5} {l:List Int} (d:fY f e l) (i:f.grownBy W (M r)) (u:∀ b,e.ownBlock=M b->b≠r):fY W e l:=by
 rcases d with d|⟨c,j,k,g,p,q,s,h,t⟩
 ·exact .inl d
 refine .inr ⟨c,j,k,g,p,q,s,aGs h i.size,λb w v=>?_⟩;obtain⟨n,o⟩:=t b w v;exact⟨(aHm (a:=⟨c,j+b*1,J⟩) (i.block c h (λm=>u c (by rw[g];rfl) (b7 m)))).trans n,o⟩
theorem StS.boxedJ {B r:Nat} {W c d:y4} {u v:y5} {s:aG} (a:StS B W u v s) (b:W<=r) (e:d7 W c) (k:c.grownBy d (M r)):StS B d u v s:=by
 rcases a with a|a
 ·exact .inl ((((a.box b).e e).kept k (aHv ..)).low (ex2:=[]) (aGi _) (λr b=>by cases b))
 exact .inr a
theorem Dt (a b:List By):Lib.joinTail [32] (a++b)=Lib.joinTail [32] a++Lib.joinTail [32] b:=by simp[Lib.joinTail]
theorem Ve (b a:List Int):Lib.join (jO [.s kR,.l b,.s gO,.l a]) [32]=kR++cY b++(32::gO)++cY a:=by
 have c:jO [.s kR,.l b,.s gO,.l a]=kR::(b.map Lib.itoa++([gO]++a.map Lib.itoa)):=by simp[jO,oR]
 rw[c,Lib.join_cons,Dt,Dt,Bg,Bg];simp[Lib.joinTail]
theorem aDd (w0 w:y4) (hw:gC w0) (bk:d7 w0 w) (B:Nat) (bl:w0<=B) (s:aG) (u v:y5) (p:fF B w s u v) (x:By) (lv:y5) (l:List Int) (hl:fY w lv l) (z:Nat) (hz:l.length=z*2) (bw:1<=z) (bx:z<=48) (hq:0<=cT s.K x) :
  y8 prog 43 #[zz (M ⟨B,0,J⟩),b9 (tx x),lv] w (iT B w s (dS s x l)):=by
 obtain⟨lb,lo,lc,rfl,ax,bv,hE⟩:=eM hl (λj=>by rw[j] at hz;simp at hz;omega);obtain⟨n,A⟩:∃ n,l.length=n:=⟨_,rfl⟩;rw[A] at ax ⊢;obtain⟨QI,HE,HW,HT⟩:=zp (λ(c:y4) (H:d7 w c)=>(oS c B s u v (p.e H) x).m λj w' b4=>show d7 c w'/\j=zv (Y Z (cT s.K x)) from by unfold zZ at b4;rwa [c7 hq] at b4) hE hw p;obtain⟨qi,a4⟩:∃ q,cT s.K x=q:=⟨_,rfl⟩;have bg:=I a4;rw[a4] at QI hq;have b3:I64 qi:=by
  rcases pV s.K x with K|⟨Q,K,d⟩
  ·rw[a4] at K;omega
  rw[a4] at K;have:=p.2.tree.i;obtain⟨_,_,_,_,_,e⟩:=this;exact I64.of (by omega) (by omega)
 have bf:=I b3;have b1:n=z*2:=A▸hz;have e1:((n:Int) % 2 == 0)=true:=by simp;omega
 have e2:(n:Int)>0:=by omega
 have bj:0<n:=by omega
 have e3:(n:Int)<=96:=by omega
 obtain⟨a2,a5⟩:=zr b1 A;clear hl hE hw p a4 b3 b1 A hz;refine pG (n:=5) func43 rfl ?_;simp only[ntmps43,aH2,aGt,aGu,aH3,aH4,aH5,aH6,aH7,aH8,aH9,aGd];refine eD (fI ?_);gi_wp2;refine yN λm d=>?_
 go_cut [] from 14 to 68 (λc=>c=w)
 case first=>
  go_wp2_with fail;refine(dE _ _).m ?_;rintro j g ⟨rfl,e⟩;obtain rfl:=e.symm;go_wp2_with fail;go_meet
  case rel=>exact rfl
 case rest=>
  obtain rfl:=hcut.symm;refine d _ _ ?_;clear d m;refine yN λm d=>?_
  go_wp2_with fail;refine(QI _ (b8 w)).m ?_;rintro j wc ⟨ah,rfl⟩;go_wp2_with fail;refine eD (fI ?_);gi_wp2;refine eD (eD (fI ?_));gi_wp2;refine⟨trivial,(callsIn_wide.2 (Tn _ _ _ _)).mono ?_⟩;rintro j w1 ⟨rfl,rfl⟩;gi_wp2;refine sC ?_;have bq:z*2<=lc:=by have:=a2.o;omega
  rw[a2.o];clear e1 e2 bj e3 ax;obtain⟨G,N⟩:∃ G,((wc.alloc (zt #[O J 0 0] 61)).alloc (zt #[O (M ⟨lb,lo,J⟩) (z*2) lc] 74)).alloc (zt #[Y Z 2] 3)=G:=⟨_,rfl⟩;have b6:G.heap.size=wc.heap.size+3:=by rw[<- N];simp
  have hF:s9 G wc 61 (O J 0 0):=by rw[<- N];exact((Boxed.new wc _ _).alloc _).alloc _
  have ar:s9 G (wc+1) 74 (O (M ⟨lb,lo,J⟩) (z*2) lc):=by
   rw[<- N];have:=(Boxed.new (wc.alloc (zt #[O J 0 0] 61)) 74 (O (M ⟨lb,lo,J⟩) (z*2) lc)).alloc (zt #[Y Z 2] 3);rwa [aHb] at this
  have au:s9 G (wc+1+1) 3 (Y Z 2):=by
   rw[<- N];have:=Boxed.new ((wc.alloc (zt #[O J 0 0] 61)).alloc (zt #[O (M ⟨lb,lo,J⟩) (z*2) lc] 74)) 3 (Y Z 2);rwa [aHb,aHb] at this
  have bb:d7 w G:=ah.r (by rw[<- N];exact(((b8 wc).a _).a _).a _);rw[N];obtain⟨an,X⟩:=zr (Sx 4 (by omega) (wc+1) (wc+1+1) lb lo z lc (by omega) bq G ar au) b6;have bu:=ah.size;clear N b6 ar au ah;refine uW func43 (gf:=140) (lb:=#[zz (M ⟨wc+1,0,J⟩),zz (M ⟨wc+1+1,0,J⟩)]) rfl (enters_of func140 (by kernel_rfl) rfl)
   an.o (λp k=>p.r k) (bJ.put (by have:=X.o;intro Q hj;simp only[aH1,aHa,or_false] at hj;omega)) (Below.refl _ _) (by have:=X.o;omega) (λ_=>rfl)
   (If w G wc l) (λ_ _=>False) (If.own (qq:=wc.heap.size+1) (by have:=X.o;omega) (by omega) (by have:=X.o;omega)) (If.turns (by have:=X.o;omega) (by omega) (by omega)) ⟨_,hF,rfl,aGQ _ _ _ _,bb,aGi _⟩ ?a1 ?assign ?body ?done ?pan
  case assign=>
   intro ay x c m d;have HK:=I d;clear d;gi_wp2;exact HK
  case body=>
   intro ay aw x post c ai hI;refine wpIn_block ?_;obtain⟨pv,hRow,hlen,L,H,ac⟩:=hI;obtain⟨ab,b5⟩:=Xs ai;rw[ab] at hlen L;obtain⟨R,a9⟩:=aV (f:=l) (k:=x*2) (by rw[a5.o,a2.o];omega);obtain⟨T,aa⟩:=aV (f:=l) (k:=x*2+1) (by rw[a5.o,a2.o];omega);have ae:=I (sJ Run.mk l x a9 aa);have c0:=H.c (HE _ _ a9).1;have V:=H.c (HE _ _ aa).1;rw[<- aGB] at V;obtain⟨pa,pc,rfl⟩:=lJ L;have cR:=hRow.cell;obtain⟨ip,ao,ap,aq,av⟩:=s8 aCv;obtain⟨HM,aj,ak,a6,a0,ad⟩:=zl ab hlen L hRow H ac;have b2:=X.o;clear ai a9 aa ab hlen L hRow H ac;refine mP (S:=λh=>h ⟨wc,0,J⟩=M (O pa x pc)/\h ⟨lb,lo+x*2,J⟩=M (Y Z R)/\h ⟨lb,lo+x*2+1,J⟩=M (Y Z T)) (t:=10) (λa' h=>o6 G c h/\bJ [wc.heap.size+1,wc.heap.size+1+1] c h/\If w G wc l (aw++[x]) h) (λch h=>False) (by kernel_rfl) (by kernel_rfl) (λa' w' p=>p) (λch a' w' hd p=>p.elim) ⟨cR,c0,V⟩ (λF=>?_);clear cR c0 V;refine tkT 0 ?_;refine tkT 1 ?_;refine tkT 2 ?_;refine tkT 3 ?_;refine tkT 4 ?_;refine tkT 5 ?_;refine tkT 6 ?_;refine tkT 7 ?_;refine goT 8 λm d=>?_;simp only[zA,zB,zC];go_simp;obtain⟨y,a1⟩:∃ y,(c.alloc (zt #[R,T] 101)).drew=y:=⟨_,rfl⟩;have a7:∀ (Q:Nat) u,[Y .i64 R,Y .i64 T][Q]?=M u->y ((⟨c,0,J⟩:Addr).add Q)=M u:=a1▸xF c rfl (Y Z R) (Y Z T) 101;have e:d7 c y:=a1▸((b8 c).a _).dr;have a8:=aJ ak e;rw[a1];refine d.out _ _ (⟨e.c F.1,e.c F.2.1,e.c F.2.2⟩) λF=>?_
   clear d m;refine goT 9 λm d=>?_;simp only[zA,zB,zC];refine e7 _ _ _ _ (by rfl) G 101 ip _ 2 16 underlying61 ao ap aq av rfl (by decide) (O pa x pc) x _ (by rfl) a8 ⟨c,0,J⟩ 1 1 [Y Z R,Y Z T] (by rfl) (by rfl) a7 (xE _ _ _ _) (by unfold o0;omega) (by omega) (by have:=ad.o;have:=e.size;omega) ?_;intro v2 P ag E b0;have U:∀ g,(O pa x pc).ownBlock=M g->G.heap.size<=g:=λg i=>bN a8 g i;have am:wc.heap.size<c.heap.size:=a6.lt;have W:s9 P wc 61 (O pa x pc):=(E.block wc (aGs am e.size) (λj=>by have:=U _ j.symm;omega)).trans (aO a6 e);have r:d7 w P:=(a0.r e).gr E (λg i=>by have:=U g i;omega);have al:=W.cell;have az:=W.frozen;obtain⟨va,vc,rfl⟩:=lJ ag;have af:=E.block lb (by have:=a0.size;have:=e.size;omega) (λj=>by have:=U _ j.symm;omega);refine d.out _ _ (⟨al,(aHm (a:=⟨lb,lo+x*2,J⟩) af).trans F.2.1,(aHm (a:=⟨lb,lo+x*2+1,J⟩) af).trans F.2.2⟩) λF=>?_
   clear d m;refine laT λm d=>?_;simp only[zA,zB,zC];go_simp;refine d.out _ _ ?_;clear d m;have a3:=aN P wc 0 (O va (x+1) vc);refine⟨((KeepsFrom.ext e).trans ((KeepsOthers.of_grownBy E (Rq a8)).from _)).trans (KeepsFrom.se P wc _),
    ((bJ.e e).r (bJ.grown E (λg i hm=>by have:=U g i;simp only[aH1,aHa,or_false] at hm;omega))).r (bJ.grown a3 (λg i hm=>by cases i;simp only[aH1,aHa,or_false] at hm;omega)),
    O va (x+1) vc,W.set _,?_,?_,?_,?_⟩
   ·rw[aGb,HM.o];show (dC Run.mk (l.take ((x+1)*2))).length=x+1;rw[ae.o,aGb,aj.o];rfl
   ·rw[aGb,HM.o];show (P.setCell ⟨wc,0,J⟩ (O va (x+1) vc)).ownsRow G 101 2 (O va (x+1) vc) (x+1) (bH Run.At Run.N (dC Run.mk (l.take ((x+1)*2))));rw[ae.o,lS];exact mK ag (jM.turn (q:=wc.heap.size) a3 (λg j=>(b7 j).symm)) (by omega)
   ·exact r.se (b:=wc) (o:=0) bu _
   have:=ad.o;have:=e.size;have:=E.size;have:=a3.size;omega
  case pan=>rintro D ch c _ p;exact p.elim
  case done=>
   rintro D c bt ⟨pv,hRow,hlen,L,H,ac⟩ hD;rw[aIT] at hlen L;rw[show l.take (z*2)=l from aHF (by rw[a5.o,a2.o];exact aGi _)] at hlen L;have ay:∀ n∈l,I64 n:=λn A=>by
    obtain⟨Q,hj⟩:=aIS A;exact(HE Q n hj).2
   have b2:aR c pv (dC Run.mk l):=bL (by rw[hlen];exact L) (tT (λ_ _=>⟨rfl,rfl⟩) _ ay) (by omega);have ao:=I (λp=>sP (s:=s) (q:=qi) (f:=dC Run.mk l) p);have be:=I (λ(S:aG) (ad a9:List Int) (p:bD s qi (dC Run.mk l)=(S,ad,a9,0))=>show S.G=s.G/\S.H=s.H from by
    obtain⟨_,_,_,k,_,_,rfl,_⟩:=vU p;exact⟨rfl,rfl⟩)
   obtain⟨Q,aa⟩:∃ Q,bD s qi (dC Run.mk l)=Q:=⟨_,rfl⟩;have am:=I (show dS s x l=if Q.2.2.2=0 then(Q.1,kR++cY Q.2.1++(32::gO)++cY Q.2.2.1,0) else(s,[],Q.2.2.2) from by
    unfold dS;rw[d8 (by rw[a5.o,a2.o];omega),bg.o,d8 (by omega),aa])
   have CH:=I (λ(h:y4) (p:d7 c h)=>show y8 prog 93 #[.agg #[s.G,s.H,u,v],qi,pv] h (lV h Q) from by
    have E:=HT.e (H.r p);rw[<- aa];exact aBu h u v pv s qi _ E.2.tree E.2.books (b2.m p) bf)
   rw[aa] at ao be;obtain⟨a0,HD,ap⟩:=zq H hD (HT.e H);have bm:B<w.heap.size:=(aGq.1 HT.1).1;have bo:D<c.heap.size:=(aGq.1 hD).1;have N:w<=D:=by have:=X.o;omega
   obtain⟨ua,un,uc,va,vn,vc,rfl,rfl⟩:=HT.i;obtain⟨pa,pc,rfl⟩:=lJ L;obtain⟨T,U,V,W⟩:=ap.cells;have R:=hRow.cell;clear hRow hlen L H ac hD ay b2 aa bt an bb hF QI;obtain⟨S,mo,dr,er⟩:=Q;refine fI (n:=5) (wpIn_wide.2 ?_);generalize aw:bodyPostM Fence.wide 5 prog f43 (iT B w s (dS s x l))=QQ;have al:=I aw;clear aw;have av:B<c.heap.size:=by have:=a0.size;omega
   go_wp2_with fail
   go_cut [10,11,12,13] from 14 to 68 (λE ad a9 j h=>∃ (a8:Nat) (u v:y5),E=zz (M ⟨a8,0,J⟩)/\j=Y Z er/\Hid (h.heap[a8]?=M (zt #[S.G,S.H,u,v] 34 (0,0)))/\Hid (StS c h u v S)/\Hid (fY h ad mo)/\Hid (fY h a9 dr)/\Hid ((∀ g,ad.ownBlock=M g->c.heap.size<=g)/\(∀ g,a9.ownBlock=M g->c.heap.size<=g))/\Hid (d7 c h)/\c<=a8)
   case first=>
    refine uV [{ target:=.collected D,args:=#[]}] (λ_ _=>False) (λ_ _ _ _ p=>p.elim) ?_;refine v8 (S:=λh=>h ⟨B,0,J⟩=M (Y Z s.G)/\h ⟨B,1,J⟩=M (Y Z s.H)/\h ⟨B,2,J⟩=M (O ua un uc)/\h ⟨B,3,J⟩=M (O va vn vc)/\h ⟨wc,0,J⟩=M (O pa z pc)) (by kernel_rfl) ⟨(b8 c).dr.c T,(b8 c).dr.c U,(b8 c).dr.c V,(b8 c).dr.c W,(b8 c).dr.c R⟩ (λF=>?_);refine tkH 0 ?_;refine tkH 1 ?_;refine tkH 2 ?_;refine tkH 3 ?_;refine tkH 4 ?_;refine tkH 5 ?_;refine wpAnyH_ready (rs:=[6,12]) (by kernel_rfl) (by simp) ?_;refine AllReadyH.cons rfl (λm d=>?_) (AllReadyH.cons rfl (λm d=>?_) AllReadyH.nil)
    all_goals simp only[zA,zB,zC]
    ·go_simp;refine(CH _ (b8 c).dr).m ?_;rintro j y ⟨u1,v1,mv,dv,rfl,hS,hM,hN,e,a3,ab⟩;obtain⟨ta,tc,e1,_⟩:=hS.tree.i;obtain⟨ba,bc,e2,_⟩:=hS.books.i;subst e1 e2;have ae:d7 c c.drew:=(b8 c).dr;have e:d7 c y:=ae.r e;go_wp2_with fail;refine d.out _ _ (⟨e.c T,e.c U,e.c V,e.c W,e.c R⟩) λF=>?_
     clear d m;refine tkH 7 ?_;refine tkH 8 ?_;refine tkH 9 ?_;refine tkH 10 ?_;refine tkH 11 ?_;refine goH 12 λm d=>?_;simp only[zA,zB,zC];go_simp;have A:=y7 y (zt #[Y Z 0,Y Z 0,O J 0 0,O J 0 0] 34);have a1:=(b8 y).a (zt #[Y Z 0,Y Z 0,O J 0 0,O J 0 0] 34);have r:=e.r a1;refine d.out _ _ (⟨r.c T,r.c U,r.c V,r.c W,r.c R⟩) λF=>?_
     clear d m;refine goH 13 λm d=>?_;simp only[zA,zB,zC];rw[c7 (by rfl)];refine o7 34 _ _ rfl y #[S.G,S.H,O ta S.K.length tc,O ba S.F.length bc] rfl rfl 34 _ A size34 rfl (by simp[aGr]) ?_;have af:=(b8 y).a (zt #[Y Z 0,Y Z 0,O J 0 0,O J 0 0] 34) |>.sr (b:=y) (aGi _) #[S.G,S.H,O ta S.K.length tc,O ba S.F.length bc]
     have E:=e.r af;refine d.out _ _ (⟨E.c T,E.c U,E.c V,E.c W,E.c R⟩) λF=>?_
     clear d m;refine tkH 14 ?_;refine tkH 15 ?_;refine tkH 16 ?_;refine dnH ?_;go_wp2_with fail;go_meet
     case rel=>exact⟨y,_,_,rfl,rfl,I (x5 _ _ _ _ _ _ A),I (StS.boxedJ (hS:StS c y _ _ S) (aGi _) ((b8 y).a _) (aQ _ _ _)),I (hM.m af),I (hN.m af),I ⟨λg i=>aGR ae.size (a3 g i),λg i=>aGR ae.size (ab g i)⟩,I E,e.size⟩
    go_simp;have A:((c.alloc (zt #[Y Z 0,Y Z 0,O J 0 0,O J 0 0] 34)).drew).heap[c.heap.size]?=M (zt #[Y Z 0,Y Z 0,O J 0 0,O J 0 0] 34 (0,0)):=y7 c _;have r:=((b8 c).a (zt #[Y Z 0,Y Z 0,O J 0 0,O J 0 0] 34)).dr;refine d.out _ _ (⟨r.c T,r.c U,r.c V,r.c W,r.c R⟩) λF=>?_
    clear d m;refine goH 6 λm d=>?_;simp only[zA,zB,zC];go_simp;refine(CH _ r).m ?_;rintro j y ⟨u1,v1,mv,dv,rfl,hS,hM,hN,e,a3,ab⟩;obtain⟨ta,tc,e1,_⟩:=hS.tree.i;obtain⟨ba,bc,e2,_⟩:=hS.books.i;subst e1 e2;have a7:=aO A e;have e:d7 c y:=r.r e
    go_wp2_with fail;refine d.out _ _ (⟨e.c T,e.c U,e.c V,e.c W,e.c R⟩) λF=>?_
    clear d m;refine tkH 7 ?_;refine tkH 8 ?_;refine tkH 9 ?_;refine tkH 10 ?_;refine tkH 11 ?_;refine goH 13 λm d=>?_;simp only[zA,zB,zC];rw[c7 (by rfl)];refine o7 34 _ _ rfl c #[S.G,S.H,O ta S.K.length tc,O ba S.F.length bc] rfl rfl 34 _ a7 size34 rfl (by simp[aGr]) ?_;have E:=e.sr (b:=c) (aGi _) #[S.G,S.H,O ta S.K.length tc,O ba S.F.length bc];refine d.out _ _ (⟨E.c T,E.c U,E.c V,E.c W,E.c R⟩) λF=>?_
    clear d m;refine tkH 14 ?_;refine tkH 15 ?_;refine tkH 16 ?_;refine dnH ?_;go_wp2_with fail;go_meet
    case rel=>exact⟨c,_,_,rfl,rfl,I (x5 _ _ _ _ _ _ a7),I ((hS.past (aQ _ _ _) (by simp)).sink (by simp)),I (zK hM (aQ _ _ _) (λg i j=>by have:=a3 g i;simp at this;omega)),I (zK hN (aQ _ _ _) (λg i j=>by have:=ab g i;simp at this;omega)),I ⟨λg i=>aGR r.size (a3 g i),λg i=>aGR r.size (ab g i)⟩,I E,aGi _⟩
   obtain⟨a8,u1,v1,rfl,rfl,a7,ab,aj,ak,ai,y,hX⟩:=hcut;generalize wc=h at *;obtain⟨ta,tc,e1,_⟩:=ab.tree.i;obtain⟨ba,bc,e2,_⟩:=ab.books.i;subst e1 e2;obtain⟨ma,mc,br,_,_,_⟩:=aj.i;obtain⟨da,dc,bp,_,_,_⟩:=ak.i;subst br bp;have x0:=y6 _ _ 0 _ _ _ a7;have x1:=y6 _ _ 1 _ _ _ a7;have x2:=y6 _ _ 2 _ _ _ a7;have x3:=y6 _ _ 3 _ _ _ a7;have TU:=I (Cj h B c av s S _ _ _ _ 0 er (ap.e y) ab);clear T U V W R;go_wp2_with fail;refine TU.m ?_;intro j P F;unfold Hw at F;by_cases K:er=0
   ·rw[c7 K] at F;obtain⟨rfl,hk,b5⟩:=F;obtain⟨_,af,aq⟩:=ao K;simp only[aGb] at aq;have az:=zK aj hk (λg i j=>by have:=ai.1 g i;omega);have b0:=zK ak hk (λg i j=>by have:=ai.2 g i;omega);have a1:=(b8 P).a (zt #[.iface 9 (b9 (tx kR)),.iface 74 (O ma mo.length mc),.iface 9 (b9 (tx gO)),.iface 74 (O da dr.length dc)] 20);have a3:=y7 P (zt #[.iface 9 (b9 (tx kR)),.iface 74 (O ma mo.length mc),.iface 9 (b9 (tx gO)),.iface 74 (O da dr.length dc)] 20);have bd:=KT.base (hk.r (KT.e a1)) (bk.r (a0.r y)) bl;have LI:=I (rJ _ (HW.e bd) P 4 [.s kR,.l mo,.s gO,.l dr] (by simp) (by simp) (by simp) (λae it e=>by
     match ae,e with
     | 0,e=>cases e;exact⟨_,y6 _ _ 0 _ _ _ a3,rfl,by decide⟩
     | 1,e=>cases e;exact⟨_,y6 _ _ 1 _ _ _ a3,_,rfl,az.m a1,λn A=>af n (aHV _ A),by omega⟩
     | 2,e=>cases e;exact⟨_,y6 _ _ 2 _ _ _ a3,rfl,by decide⟩
     | 3,e=>cases e;exact⟨_,y6 _ _ 3 _ _ _ a3,_,rfl,b0.m a1,λn A=>af n (aHW _ A),by omega⟩
     | ae+4,e=>simp at e))
    rw[Ve] at LI;obtain⟨HK,a6,bi⟩:=zq hk b5 a1;have ae:=am.o;rw[c7 K] at ae;have bh:=I ae;clear hk b5 az b0 a1 a3 bd ae af aq x0 x1 x2 x3;go_wp2_with fail;refine LI.m ?_;rintro j W5 ⟨rfl,E⟩;have ag:=bi.r E;have bn:D≠B:=by omega
    go_wp2_with fail;rw[<- al.o];refine Xx (D:=D) (aO (HK.at (aO HD y) bn) ag) (λh=>by simp[results,results43];rfl) ?_;exact iT.shut (s:=s) (S:=S) (C:=c.heap.size) (x:=kR++(cY mo++32::(gO++cY dr))) (by rw[bh.o];simp) ((KT.e (a0.r y)).r (HK.r (KT.e ag))) (a6.e ag) av bo N bm _
   rw[d8 K] at F;obtain⟨rfl,r⟩:=F;rw[<- al.o];exact Mo rfl (aO HD (y.r r)) (iT.no (by rw[am.o,d8 K]) K ((a0.r (y.r r)).put N _) HT)
theorem Sg {l:List Int} (a:∀ n∈l,iF n):(kK l).length<=22*l.length:=by
 cases l with
 | nil=>simp[kK,Lib.join_nil]
 | cons n l=>
  have:=jD (n::l) a;rw[Bc,aGt] at this;omega
theorem Lk {s:aG} (m:aI s=0) (x:By):(eC s x).2.1.length<=600:=by
 have a:([]:By).length<=600:=by simp
 have h:∀ c b l,(cK s c b l).2.1.length<=600:=λc b l=>by
  unfold cK;split
  ·exact a
  split
  ·exact a
  dsimp only;split
  ·rename_i d
   obtain⟨e,_,k,f,i,p⟩:=sG d;have g:qJ (aW s ⟨cT s.K b,l.getD 0 0,l.getD 1 0,c,dC Piece.mk (l.drop 2)⟩).1=k.L.map (·.At):=by unfold qJ;rw[f]
   have:=Sg (l:=(aW s ⟨cT s.K b,l.getD 0 0,l.getD 1 0,c,dC Piece.mk (l.drop 2)⟩).2.1::qJ (aW s ⟨cT s.K b,l.getD 0 0,l.getD 1 0,c,dC Piece.mk (l.drop 2)⟩).1) (λn c=>by
    rcases aH1.1 c with rfl|c
    ·exact e
    rw[g] at c;obtain⟨o,j,rfl⟩:=aHd.1 c;exact i o j)
   rw[aGt,g,aHC] at this;rw[g];show (kK _).length<=600;omega
  exact a
 have i:∀ b l,(dS s b l).2.1.length<=600:=λb l=>by
  unfold dS;split
  ·exact a
  split
  ·exact a
  dsimp only;split
  ·rename_i d
   obtain⟨_,e,f⟩:=sP d;have g:=jD _ (λn c=>e n (aHV _ c));have j:=jD _ (λn c=>e n (aHW _ c));simp only[aGb,aGt] at f ⊢;have k:kR.length=5:=rfl;have o:gO.length=7:=rfl;omega
  exact a
 have g:∀ n:Int,iF n->(Lib.itoa n).length<=600:=λn c=>by have:=pR c;omega
 have f:∀ e b l,(∀ b j,iF (e s b j).1)->(lT e s b l).2.1.length<=600:=λe b l o=>by
  unfold lT;split
  ·exact a
  split
  ·exact a
  dsimp only;split
  ·exact g _ (o _ _)
  exact a
 have e:∀ l,(gH s l).2.1.length<=600:=λl=>by
  unfold gH;split
  ·exact a
  dsimp only;split
  ·show wOk.length<=600;decide
  exact a
 have j:∀ l,(nF s l).2.1.length<=600:=λl=>by
  unfold nF;split
  ·exact a
  dsimp only;split
  ·rename_i d;exact g _ (yQ d).1
  exact a
 have k:∀ d b l,(jJ s d b l).2.1.length<=600:=λd b l=>by
  unfold jJ
  repeat' split
  all_goals first|exact a|exact h _ _ _|exact i _ _|exact f _ _ _ (λ_ _=>Hq)|exact f _ _ _ (λ_ _=>Gl)|exact e _|exact j _
 unfold eC;split
 ·have d:=zL m;have:=Sg (l:=s.F.map aH.Id) (λn c=>by
   obtain⟨x,p,rfl⟩:=aHd.1 c;exact d.1 x p)
  rw[aHC] at this;have:=d.2.2;show (kK _).length<=600;omega
 unfold kQ;generalize (if nS ((fA x).getD 0 []) then 2 else 1)=d;split
 ·exact a
 split
 ·exact a
 exact k _ _ _
noncomputable def mR (s:aG) (l:List By):aG:=l.foldl (λs a=>(dJ s (Lib.trimSuffix a [10])).1) s
noncomputable def jW:aG->List By->By
 | _,[]=>[]
 | s,x::r=>(dJ s (Lib.trimSuffix x [10])).2++10::jW (dJ s (Lib.trimSuffix x [10])).1 r
theorem Tu (s:aG) (l:List By) (x:By):mR s (l++[x])=(dJ (mR s l) (Lib.trimSuffix x [10])).1:=by simp[mR]
theorem Ir:∀ (l:List By) (s:aG) (x:By),jW s (l++[x])=jW s l++(dJ (mR s l) (Lib.trimSuffix x [10])).2++[10]
 | [],s,x=>by simp[jW,mR]
 | y::l,s,x=>by
  show (dJ s (Lib.trimSuffix y [10])).2++10::jW _ (l++[x])=_;rw[Ir l];show _=((dJ s (Lib.trimSuffix y [10])).2++10::jW _ l)++(dJ (mR (dJ s (Lib.trimSuffix y [10])).1 l) _).2++[10];simp
theorem Pr {s:aG} (a:aI s=0) (l:List By):aI (mR s l)=0:=by
 induction l generalizing s with
 | nil=>exact a
 | cons c l b=>exact b (xK a _)
noncomputable def goB:aG->By->By->By
 | _,_,[]=>[]
 | s,cur,c::r=>if c=10 then(dJ s cur).2++10::goB (dJ s cur).1 [] r else goB s (cur++[c]) r
theorem Nu:∀ (a:By) (s:aG) (cur r:By),(∀ b∈a,b≠10)->goB s cur (a++10::r)=(dJ s (cur++a)).2++10::goB (dJ s (cur++a)).1 [] r
 | [],s,cur,r,_=>by rw[aH9,goB,c7 rfl,List.append_nil]
 | c::a,s,cur,r,h=>by
  rw[aGd,goB,d8 (h c (aHv ..)),Nu a s _ r (λb d=>h b (aGc _ d)),aIf];rfl
theorem Gs:∀ (n:Nat) (t:By) (s:aG),t.length<=n->(t≠[]->t.getLast?=M 10)->goB s [] t=jW s (fQ t)
 | n,[],s,_,_=>rfl
 | 0,d::t,s,e,_=>by simp at e
 | n+1,d::t,s,e,hl=>by
  have l:d::t≠[]:=by simp
  have j:=hl l;rw[Dm l];rcases zR (d::t) 10 with u|⟨b,i,k⟩
  ·obtain⟨h,c⟩:=aIS (List.mem_of_getLast? j);exact absurd c (Lib.indexByte_none u h)
  obtain⟨m,o⟩:=Dn i;obtain⟨g,p⟩:=Lib.indexByte_some i;rw[m,o];generalize x:d::t=a at *;have w:a=a.take b++10::a.drop (b+1):=by
   conv=>lhs;rw[<- aIJ b a]
   rw[List.drop_eq_getElem_cons k];congr 2;rw[List.getElem?_eq_getElem k] at g;exact b7 g
  have v:Lib.trimSuffix (a.take (b+1)) [10]=a.take b:=by
   have f:a.take (b+1)=a.take b++[10]:=by rw[aHZ,g];rfl
   rw[f];unfold Lib.trimSuffix;simp[Lib.hasSuffix]
  show _=(dJ s (Lib.trimSuffix (a.take (b+1)) [10])).2++10::jW (dJ s (Lib.trimSuffix (a.take (b+1)) [10])).1 (fQ (a.drop (b+1)));rw[v,<- Gs n (a.drop (b+1)) _ (by rw[aI4];omega) (λq=>by
   rw[List.getLast?_drop,d8 (by intro e;exact q (List.drop_of_length_le e))];exact j)]
  conv=>lhs;rw[w]
  rw[Nu _ s [] _ (λq q=>?_),aH9];obtain⟨h,c⟩:=aIS q;intro f;subst f;have r:=(aGw.1 c).1;rw[aHB] at r;rw[List.getElem?_take_of_lt (by omega)] at c;exact p h (by omega) c
@[irreducible] noncomputable def lI (q t:By):By × Int:=
 if(eK q).2≠0 then([],(eK q).2) else if 4096<t.length\/60<t.count 10 then([],2) else if t≠[]/\t.getLast?≠M 10 then([],1) else(jW ⟨0,0,(eK q).1,[]⟩ (fQ t),0)
theorem cls (s:By):∃ (K C B L X T N:Bool),decide (0<jE s)=K/\((tx s).toList == [99,104,97,110,103,101])=C/\((tx s).toList == [98,117,115,121])=B/\((tx s).toList == [108,101,102,116])=L/\((tx s).toList == [99,97,110,99,101,108])=X/\((tx s).toList == [116,105,99,107])=T/\nS s=N/\
  (∀ a b l,jJ a s b l=bif K then cK a (jE s) b l else bif C then dS a b l else bif B then lT kZ a b l else bif L then lT kY a b l else bif X then gH a l else bif T then nF a l else(a,[],1))/\
  (
   (K,C,B,L,X,T,N)=(true,false,false,false,false,false,true)\/(K,C,B,L,X,T,N)=(false,true,false,false,false,false,true)\/(K,C,B,L,X,T,N)=(false,false,true,false,false,false,true)\/(K,C,B,L,X,T,N)=(false,false,false,true,false,false,true)\/
   (K,C,B,L,X,T,N)=(false,false,false,false,true,false,false)\/(K,C,B,L,X,T,N)=(false,false,false,false,false,true,false)\/(K,C,B,L,X,T,N)=(false,false,false,false,false,false,false)):=by
 have m:∀ a b l,jJ a s b l=bif decide (0<jE s) then cK a (jE s) b l else bif decide (s=yO) then dS a b l else bif decide (s=Qp) then lT kZ a b l else bif decide (s=Qo) then lT kY a b l else bif decide (s=Ci) then gH a l else bif decide (s=Ws) then nF a l else(a,[],1):=λa b l=>by
  unfold jJ;simp only[cond_eq_ite,decide_eq_true_eq]
 have c:∀ l:By,((tx s).toList == l)=decide (s=l):=λl=>by
  by_cases a:s=l
  ·rw[Ig a,decide_eq_true a]
  rw[Ih a,decide_eq_false a]
 refine⟨_,_,_,_,_,_,_,rfl,c yO,c Qp,c Qo,c Ci,c Ws,rfl,m,?_⟩;unfold nS;by_cases e:0<jE s
 ·have d:∀ l:By,jE l=0->¬ s=l:=λl a k=>by rw[k,a] at e;omega
  have f:=d yO (by decide);have g:=d Qp (by decide);have h:=d Qo (by decide);have i:=d Ci (by decide);have j:=d Ws (by decide);left;simp[e,f,g,h,i,j]
 right;by_cases d:s=yO
 ·left;subst d;decide
 right;by_cases a:s=Qp
 ·left;subst a;decide
 right;by_cases l:s=Qo
 ·left;subst l;decide
 right;by_cases g:s=Ci
 ·left;subst g;decide
 right;by_cases f:s=Ws
 ·left;subst f;decide
 right;simp[e,d,a,l,g,f]
def rZ (w:y4) (s:aG) (g f:y5) (r:kT) (e:r8) (w':y4):Prop:=∃ (a:aG) (b c:y5) (d:By),e=zv (zw #[.agg #[a.G,a.H,b,c],b9 (tx d),r.2.2])/\((a=s/\b=g/\c=f)\/StS w w' b c a)/\d7 w w'/\(r.2.2=0->a=r.1/\d=r.2.1)
theorem Mi {w W:y4} {tmps:Array y5} {r:kT} {s S:aG} {T:By} {n:Int} {u v c a:y5} (row:W.heap[w.heap.size+1]?=M (zt #[S.G,S.H,u,v] 34 (0,0))) (j:d7 w W) (i:(S=s/\u=c/\v=a)\/StS w W u v S)
  (e:tmps.getD 4 u5=zz (M ⟨w+1,0,J⟩)) (f:tmps.getD 5 u5=b9 (tx T)) (g:tmps.getD 6 u5=Y Z n) (b:r.2.2=n) (h:n=0->S=r.1/\T=r.2.1) :
  bodyPost prog f18 (rZ w s c a r) .ret { tmps:=tmps,defers:=[]} W:=by
 refine v6 (bC (u1:=5) (u2:=6) rfl _ _ (w+1) 34 #[S.G,S.H,u,v] (0,0) _ e row underlying34 rfl size34) rfl ?_;rw[f,g,<- b];exact⟨S,u,v,T,rfl,i,j,λd=>h (by rw[<- b];exact d)⟩
theorem StS.boxed {B r:Nat} {W c d:y4} {u v:y5} {s:aG} (a:StS B W u v s) (b:W<=r) (e:d7 W c) (k:c.grownBy d (M r)):StS B d u v s:=by
 rcases a with a|a
 ·exact .inl ((((a.box b).e e).kept k (aHv ..)).low (ex2:=[]) (aGi _) (λr b=>by cases b))
 exact .inr a
theorem mQ {r:kT} {S s:aG} {T:By} {m:Int} (a:r=if m=0 then(S,T,0) else(s,[],m)):r.2.2=m/\(m=0->S=r.1/\T=r.2.1):=by
 by_cases b:m=0
 ·rw[c7 b] at a;subst a;exact⟨b.symm,λ_=>⟨rfl,rfl⟩⟩
 rw[d8 b] at a;subst a;exact⟨rfl,λc=>absurd c b⟩
theorem Wx (s:aG) (t:Int):iF (eZ s t).2.1:=by
 by_cases b:(eZ s t).2.2=0
 ·exact(yQ b).1
 by_cases a:aI s=0
 ·by_cases c:0<=t/\t<=48
  ·by_cases d:t<s.G
   ·rw[vB a c d];exact qD (by simp) (by simp)
   rw[tP a c d] at b;exact absurd rfl b
  rw[sE a c];exact qD (by simp) (by simp)
 rw[yR a];exact qD (by simp) (by simp)
theorem aB1 (s:aG) (q:Int) (f:List Run):(∀ n∈(bD s q f).2.1++(bD s q f).2.2.1,iF n)/\((bD s q f).2.1++(bD s q f).2.2.1).length<=12:=by
 by_cases b:(bD s q f).2.2.2=0
 ·exact(sP b).2
 have g:(bD s q f).2.1++(bD s q f).2.2.1=[]:=by
  by_cases a:aI s=0
  ·by_cases c:0<=q/\q<s.K.length
   ·by_cases d:eB f
    ·obtain⟨e,rfl⟩:∃ e:Nat,q=e:=⟨q.toNat,by omega⟩;rw[rU a (by omega) d] at b;exact absurd rfl b
    rw[qS a c d];rfl
   rw[qQ a c];rfl
  rw[sQ a];rfl
 rw[g];exact⟨λn a=>(by cases a),by simp⟩
theorem aCu:(prog.info? 101).map (λa=>(a.zero,a.size,a.bytes))=M (M (.agg #[Y Z 0,Y Z 0]),2,16):=by kernel_rfl
theorem lK {w W:y4} {s:aG} {d a:Option Addr} {n e z c:Nat} (k:d7 w W) (o:aK w (O d n e) s.K) (hb:aS w (O a z c) s.F) (row:W.heap[w.heap.size+1]?=M (zt #[Y Z 0,Y Z 0,O J 0 0,O J 0 0] 34 (0,0))) {tmps:Array y5} {r:kT} {T:By} {m:Int}
  (f:tmps.getD 4 u5=zz (M ⟨w+1,0,J⟩)) (g:tmps.getD 5 u5=b9 (tx T)) (h:tmps.getD 6 u5=Y Z m) (i:r.2.2=m) (j:m=0->s=r.1/\T=r.2.1) :
  bodyPost prog f18 (rZ w s (O d n e) (O a z c) r) .ret { tmps:=tmps,defers:=[]} (W.setRow (w+1) #[s.G,s.H,O d n e,O a z c]):=by
 have l:d7 w (W.setRow (w+1) #[s.G,s.H,O d n e,O a z c]):=k.sr (b:=w+1) (by omega) _;exact Mi (x5 W (w+1) _ _ _ _ row) l (.inl ⟨rfl,rfl,rfl⟩) f g h i j
theorem Up {w W:y4} {B:Nat} {s S:aG} {u f:y5} {d a:Option Addr} {n e z c:Nat} (q:d7 w W) (k:w.heap.size+1<B) (p:StS B W (O d n e) (O a z c) S) (row:W.heap[w.heap.size+1]?=M (zt #[Y Z 0,Y Z 0,O J 0 0,O J 0 0] 34 (0,0))) {tmps:Array y5} {r:kT} {T:By} {m:Int}
  (h:tmps.getD 4 u5=zz (M ⟨w+1,0,J⟩)) (i:tmps.getD 5 u5=b9 (tx T)) (j:tmps.getD 6 u5=Y Z m) (l:r.2.2=m) (o:m=0->S=r.1/\T=r.2.1) :
  bodyPost prog f18 (rZ w s u f r) .ret { tmps:=tmps,defers:=[]} (W.setRow (w+1) #[S.G,S.H,O d n e,O a z c]):=by
 have t:d7 w (W.setRow (w+1) #[S.G,S.H,O d n e,O a z c]):=q.sr (b:=w+1) (by omega) _;have g:=p.past (aQ W (w+1) #[S.G,S.H,O d n e,O a z c]) k;exact Mi (x5 W (w+1) _ _ _ _ row) t (.inr (g.sink (by omega))) h i j l o
theorem Si:(prog.info? 3).map (λa=>(a.zero,a.size,a.bytes))=M (M (Y Z 0),1,8):=by kernel_rfl
theorem aFP {w:y4} {e:Option Addr} {z f:Nat} {b:List aH} (h:aS w (O e z f) b) {k:Nat} {x:aH} (d:b[k]?=M x):∃ a c,e=M ⟨a,c,J⟩/\a<w.heap.size/\w ⟨a,c+k*7,J⟩=M (Y Z x.Id):=by
 rcases h with ⟨i,_⟩|⟨a,c,o,g,_,_,_,m,l⟩
 ·rw[i] at d;simp at d
 cases g;obtain⟨p,⟨q,n,rfl,_⟩,j⟩:=l k x d;exact⟨a,c,rfl,m,j 0 _ rfl⟩
theorem aCJ {ws:List By} {sk k m:Nat} {ns:List Int} {y:By} (f:ws.length=m) (c:cS ((ws.drop sk).take (k-sk))=M ns) (e:sk<=k) (d:ws[k]?=M y) :
  (0<=fU y->cS ((ws.drop sk).take (k+1-sk))=M (ns++[fU y]))/\(¬ 0<=fU y->cS (ws.drop sk)=J):=by
 have b:(ws.drop sk).take (k+1-sk)=(ws.drop sk).take (k-sk)++[y]:=by
  rw[show k+1-sk=(k-sk)+1 by omega,aHZ,aGG,show sk+(k-sk)=k by omega,d];rfl
 refine⟨λa=>by rw[b,rI _ _ _ c,c7 a],λa=>?_⟩;rw[<- aIJ (k+1-sk) (ws.drop sk)];exact Ge _ _ (by rw[b,rI _ _ _ c,d8 a])
def aC5 (l:List Queue) (x:By) (i:Nat) (q:Int):Prop:=(q=-1/\∀ (a:Nat) (b:Queue),a<i->l[a]?=M b->bs b.Q≠x)\/∃ (a:Nat) (b:Queue),q=(a:Int)/\l[a]?=M b/\bs b.Q=x
theorem aCV {l:List Queue} {x:By} {q:Int} (m:cQ l) (c:aC5 l x l.length q):q=cT l x:=by
 rcases c with ⟨rfl,c⟩|⟨e,b,rfl,a,f⟩
 ·exact(Nz (λe b a=>c e b (aGw.1 a).1 a)).symm
 refine(St a f (λk g i j h=>?_)).symm;have d:=m.diff k e i (aGw.1 a).1;unfold nm at d;rw[aGW,aGW,j,a] at d;refine d ?_;show g.Q=b.Q;rw[<- oM g.Q,<- oM b.Q,h,f]
def jN (K C B L X T:Bool) (n:Nat):Prop:=bif K then n % 2=0/\4<=n/\n<=8 else bif C then n % 2=0/\n<=96 else bif B || L || X || T then n=1 else False
theorem vS {b:Bool} (hb:b=false) (n:Int) (w:y4):y8 prog 40 #[zx b,n] w λa c=>a=zu (iB n)/\c=w:=by subst hb;exact nV n w
theorem aAj (w:y4) (B:Nat) (s:aG) (u v:y5) (h:fF B w s u v) (k:Int) (x:By) (m:y5) (l:List Int) (i:fY w m l) (a:¬ (l.length % 2=0/\4<=l.length/\l.length<=8)) :
  y8 prog 42 #[zz (M ⟨B,0,J⟩),k,b9 (tx x),m] w (iT B w s (cK s k x l)):=by
 obtain⟨c,d⟩:=zr (by unfold cK;rw[c7 a]:cK s k x l=(s,[],1)) h;obtain⟨r,t,rfl,_,_,_⟩:=i.i;obtain⟨n,j⟩:∃ n,l.length=n:=⟨_,rfl⟩;rw[j] at a ⊢;clear i h j;by_cases e:n % 2=0
 ·have p:((n:Int) % 2 == 0)=true:=by simp;omega
  by_cases g:4<=n
  ·have q:(n:Int)>=4:=by omega
   have y:¬ (n:Int)<=8:=by omega
   clear a e g;go_enter func42,ntmps42;go_wp2_with fail;refine(vS (by first|rfl|(simp;done)|(simp;omega)) _ _).m ?_;rintro f o ⟨rfl,b⟩;obtain rfl:=b.symm;exact⟨rfl,iT.no c (by decide) (b8 _) d⟩
  have q:¬ (n:Int)>=4:=by omega
  clear a e g;go_enter func42,ntmps42;go_wp2_with fail;refine(vS (by first|rfl|(simp;done)|(simp;omega)) _ _).m ?_;rintro f o ⟨rfl,b⟩;obtain rfl:=b.symm;exact⟨rfl,iT.no c (by decide) (b8 _) d⟩
 have p:((n:Int) % 2 == 0)=false:=by simp;omega
 clear a e;go_enter func42,ntmps42;go_wp2_with fail;refine(vS (by first|rfl|(simp;done)|(simp;omega)) _ _).m ?_;rintro f o ⟨rfl,b⟩;obtain rfl:=b.symm;exact⟨rfl,iT.no c (by decide) (b8 _) d⟩
theorem aB2 (w:y4) (B:Nat) (s:aG) (u v:y5) (g:fF B w s u v) (x:By) (j:y5) (l:List Int) (h:fY w j l) (a:¬ (l.length % 2=0/\0<l.length/\l.length<=96)) :
  y8 prog 43 #[zz (M ⟨B,0,J⟩),b9 (tx x),j] w (iT B w s (dS s x l)):=by
 obtain⟨c,d⟩:=zr (by unfold dS;rw[c7 a]:dS s x l=(s,[],1)) g;obtain⟨p,q,rfl,_,_,_⟩:=h.i;obtain⟨n,i⟩:∃ n,l.length=n:=⟨_,rfl⟩;rw[i] at a ⊢;clear h g i;by_cases e:n % 2=0
 ·have m:((n:Int) % 2 == 0)=true:=by simp;omega
  by_cases r:0<n
  ·have o:(n:Int)>0:=by omega
   have t:¬ (n:Int)<=96:=by omega
   clear a e;go_enter func43,ntmps43;go_wp2_with fail;refine(vS (by first|rfl|(simp;done)|(simp;omega)) _ _).m ?_;rintro f k ⟨rfl,b⟩;obtain rfl:=b.symm;exact⟨rfl,iT.no c (by decide) (b8 _) d⟩
  have o:¬ (n:Int)>0:=by omega
  clear a e;go_enter func43,ntmps43;go_wp2_with fail;refine(vS (by first|rfl|(simp;done)|(simp;omega)) _ _).m ?_;rintro f k ⟨rfl,b⟩;obtain rfl:=b.symm;exact⟨rfl,iT.no c (by decide) (b8 _) d⟩
 have m:((n:Int) % 2 == 0)=false:=by simp;omega
 clear a e;go_enter func43,ntmps43;go_wp2_with fail;refine(vS (by first|rfl|(simp;done)|(simp;omega)) _ _).m ?_;rintro f k ⟨rfl,b⟩;obtain rfl:=b.symm;exact⟨rfl,iT.no c (by decide) (b8 _) d⟩
theorem Zp (w:y4) (B:Nat) (s:aG) (u v:y5) (a:fF B w s u v) (x:By) (h:y5) (l:List Int) (d:fY w h l) (c:l.length % 2=0/\0<l.length/\l.length<=96) (f:cT s.K x<0) :
  y8 prog 43 #[zz (M ⟨B,0,J⟩),b9 (tx x),h] w (iT B w s (dS s x l)):=by
 obtain⟨i,j,k⟩:=zq (by unfold dS;rw[d8 (λa=>a c),c7 f]:dS s x l=(s,[],6)) a ((oS w B s u v a x).m λb q g=>show d7 w q/\b=zu (iB 6) from by unfold zZ at g;rwa [d8 (by omega)] at g);obtain⟨r,t,rfl,_,_,_⟩:=d.i;obtain⟨n,e⟩:∃ n,l.length=n:=⟨_,rfl⟩;rw[e] at c ⊢;obtain⟨m,C,D⟩:=c;have y:((n:Int) % 2 == 0)=true:=by simp;omega
 have z:(n:Int)>0:=by omega
 have A:(n:Int)<=96:=by omega
 clear d a e m f;go_enter func43,ntmps43;go_wp2_with fail;refine(dE _ _).m ?_;rintro b E ⟨rfl,o⟩;obtain rfl:=o.symm;go_wp2_with fail;refine k.m ?_;rintro b F ⟨p,rfl⟩;exact⟨rfl,iT.no i (by decide) p j⟩
theorem Xb (w:y4) (B:Nat) (s:aG) (u v:y5) (a:fF B w s u v) (k:Int) (x:By) (L:y5) (l:List Int) (E:fY w L l) (c:l.length % 2=0/\4<=l.length/\l.length<=8) (G:cT s.K x<0) :
  y8 prog 42 #[zz (M ⟨B,0,J⟩),k,b9 (tx x),L] w (iT B w s (cK s k x l)):=by
 obtain⟨N,P,p⟩:=zq (by unfold cK;rw[d8 (λa=>a c),c7 G]:cK s k x l=(s,[],6)) a (λ(h:y4) (m:d7 w h)=>(oS h B s u v (a.e m) x).m λb w' H=>show d7 h w'/\b=zu (iB 6) from by unfold zZ at H;rwa [d8 (by omega)] at H);obtain⟨K,lo,lc,rfl,X,a0,j⟩:=eM E (λb=>by rw[b] at c;simp at c);obtain⟨t,C⟩:=aV (f:=l) (k:=0) (by omega);obtain⟨y,D⟩:=aV (f:=l) (k:=1) (by omega);obtain⟨i,ia⟩:=j 0 t C;obtain⟨z,ib⟩:=j 1 y D;rw[aGM] at i;obtain⟨n,F⟩:∃ n,l.length=n:=⟨_,rfl⟩;rw[F] at c ⊢;obtain⟨R,T,U⟩:=c;have f1:((n:Int) % 2 == 0)=true:=by simp;omega
 have f2:(n:Int)>=4:=by omega
 have f3:(n:Int)<=8:=by omega
 have i0:0<n:=by omega
 have i1:(1:Int)<(n:Int):=by omega
 clear E a F R T U G j C D X;go_enter func42,ntmps42;go_wp2_with fail;refine(dE _ _).m ?_;rintro b w2 ⟨rfl,hw⟩;obtain rfl:=hw.symm;go_wp2_with fail;refine uV [] (λA q=>A=iB 6/\d7 w q) (λA a' q W a=>⟨W,by obtain⟨rfl,m⟩:=a;exact iT.no N (by decide) m P⟩) ?_;refine v8 (S:=λr=>r ⟨K,lo,J⟩=M (Y Z t)/\r ⟨K,lo+1,J⟩=M (Y Z y)) (by kernel_rfl) ⟨(b8 w).dr.c i,(b8 w).dr.c z⟩ (λV=>?_);refine tkH 0 ?_;refine tkH 1 ?_;refine tkH 3 ?_;refine tkH 4 ?_;refine tkH 5 ?_;refine tkH 6 ?_;refine tkH 7 ?_;refine tkH 8 ?_;refine tkH 9 ?_;refine wpAnyH_ready (rs:=[2,11]) (by kernel_rfl) (by simp) ?_;refine AllReadyH.cons rfl (λg d=>?_) (AllReadyH.cons rfl (λg d=>?_) AllReadyH.nil)
 all_goals simp only[zA,zB,zC]
 ·go_simp;refine(p _ (b8 w).dr).m ?_;rintro b Q ⟨o,rfl⟩;exact⟨rfl,(b8 w).dr.r o⟩
 go_simp;have e:=((b8 w).a (zt #[Y Z 0,Y Z 0,Y Z 0,Y Z 0,O J 0 0] 77)).dr;refine d.out _ _ (⟨e.c i,e.c z⟩) λV=>?_
 clear d g;refine goH 2 λg d=>?_;simp only[zA,zB,zC];go_simp;refine(p _ e).m ?_;rintro b Q ⟨o,rfl⟩;exact⟨rfl,e.r o⟩
theorem aAk (w0 w:y4) (i:gC w0) (e:d7 w0 w) (B:Nat) (f:w0<=B) (s:aG) (u v:y5) (b:fF B w s u v) (k:Int) (x:By) (a:y5) (l:List Int) (c:fY w a l) (g:I64 k) :
  y8 prog 42 #[zz (M ⟨B,0,J⟩),k,b9 (tx x),a] w (iT B w s (cK s k x l)):=by
 by_cases d:l.length % 2=0/\4<=l.length/\l.length<=8
 ·by_cases h:cT s.K x<0
  ·exact Xb w B s u v b k x a l c d h
  exact aCk w0 w i e B f s u v b k x a l c g (l.length / 2-1) (by omega) (by omega) (by omega) (by omega)
 exact aAj w B s u v b k x a l c d
theorem aB3 (w0 w:y4) (h:gC w0) (e:d7 w0 w) (B:Nat) (f:w0<=B) (s:aG) (u v:y5) (b:fF B w s u v) (x:By) (a:y5) (l:List Int) (c:fY w a l) :
  y8 prog 43 #[zz (M ⟨B,0,J⟩),b9 (tx x),a] w (iT B w s (dS s x l)):=by
 by_cases d:l.length % 2=0/\0<l.length/\l.length<=96
 ·by_cases g:cT s.K x<0
  ·exact Zp w B s u v b x a l c d g
  exact aDd w0 w h e B f s u v b x a l c (l.length / 2) (by omega) (by omega) (by omega) (by omega)
 exact aB2 w B s u v b x a l c d
@[go_sem] theorem as_rr (v:y5) (w:y4):(Instr.typeAssert (.iface 72 v) 20 72 true).run prog w=.ok (zw #[v,zx true]) w:=by kernel_rfl
@[go_sem] theorem as_rn (w:y4):(Instr.typeAssert .nilIface 20 72 true).run prog w=.ok (zw #[.agg #[Y Z 0],zx false]) w:=by kernel_rfl
theorem Yn (a:Nat) (m:Int) (g:iF m) (j:List m8) (w:y4) (h:gC w) (b:∃ c,w ⟨a,0,J⟩=M c) (n:w.frozen? ⟨a,0,J⟩=false) :
  CallsD prog 34 #[zz (M ⟨a,0,J⟩)] (.panicking ({ v:=.iface 72 (.agg #[m]),recovered:=false }::j)) w λf c d=>
   f=zv (zw #[])/\c=.panicking ({ v:=.iface 72 (.agg #[m]),recovered:=true }::j)/\∃ e,d7 w e/\d=e.setCell ⟨a,0,J⟩ (b9 (tx (rS++32::Lib.itoa m))):=by
 have d:=(b8 w).a (zt #[m] 72);obtain⟨l,k⟩:=zr (Fc m g _ (h.e d)) d;have q:=pR g;have s:=I (show (⟨#[101,114,114,111,114,32]⟩:ByteArray)++tx (Lib.itoa m)=tx (rS++32::Lib.itoa m) from by
  rw[show (⟨#[101,114,114,111,114,32]⟩:ByteArray)=tx (rS++[32]) from rfl,gJ];simp)
 have z:¬ 9223372036854775807<6+(tx (Lib.itoa m)).size:=by rw[aP];omega
 obtain⟨y,b⟩:=b;have o:a<w.heap.size:=vV b;clear d h q;refine callsD_of_wpS func34 rfl λc x r=>?_;apply wpS_seq;apply wpS_region;simp[wpOpsS,go_sem,recoverD,r,ntmps34,Exit.thenS];refine wpS_of_wp ?_;show Code.wp _ _ _ { tmps:=#[zz (M ⟨a,0,J⟩),.iface 72 (.agg #[m]),u5,u5,.iface 72 (.agg #[m]),u5,u5,u5,u5,u5,u5,u5,u5,u5,u5,u5,u5,u5],defers:=[]} w
 go_wp2_with fail;refine l.m ?_;rintro f e ⟨rfl,i⟩;have c:=I (k.r i);have t:=c.c b;have u:=(c.frozen (p:=⟨a,0,J⟩) o).trans n;clear i;go_wp2_with fail;simp[bodyPostS,results,results34];exact⟨_,c,rfl⟩
theorem aCS (a:Nat) (w:y4) :
  CallsD prog 34 #[zz (M ⟨a,0,J⟩)] .returning w λb c d=>b=zv (zw #[])/\c=.returning/\d7 w d:=by
 have b:=I ((b8 w).a (zt #[Y Z 0] 72));refine callsD_of_wpS func34 rfl λc e d=>?_;apply wpS_seq;apply wpS_region;simp[wpOpsS,go_sem,recoverD,d,ntmps34,Exit.thenS];refine wpS_of_wp ?_;cases c;show Code.wp _ _ _ { tmps:=#[zz (M ⟨a,0,J⟩),.nilIface,u5,u5,.nilIface,u5,u5,u5,u5,u5,u5,u5,u5,u5,u5,u5,u5,u5],defers:=[]} w
 go_wp2_with fail;have:=b.o;simp_all [bodyPostS,results,results34]
theorem Gz {s:aG} (e:aI s=0) (x:By):iF (eC s x).2.2:=by
 have A:∀ n:Int,0<=n/\n<=9->iF n:=λn B=>qD (by omega) (by omega);have v:∀ c,0<=fZ s.K c/\fZ s.K c<=9:=λc=>by
  unfold fZ;have:=Zo s.K
  repeat' split
  all_goals omega
 have u:∀ c,0<=nO s c/\nO s c<=9:=λc=>by
  unfold nO;rw[d8 (by simp[e])];have:=v c
  repeat' split
  all_goals omega
 have w:∀ c,0<=(aW s c).2.2/\(aW s c).2.2<=9:=λc=>by
  have:=u c;unfold aW
  repeat' split
  all_goals (dsimp only;omega)
 have r:∀ a d,0<=(bD s a d).2.2.2/\(bD s a d).2.2.2<=9:=λa d=>by
  unfold bD;rw[d8 (by simp[e])]
  repeat' split
  all_goals (dsimp only;omega)
 have i:∀ a b,0<=jI s a b/\jI s a b<=9:=λa b=>by
  unfold jI;rw[d8 (by simp[e])]
  repeat' split
  all_goals omega
 have q:∀ a b,0<=(kZ s a b).2/\(kZ s a b).2<=9:=λa b=>by
  have:=i a b;unfold kZ;split
  all_goals (dsimp only;omega)
 have t:∀ a b,0<=(kY s a b).2/\(kY s a b).2<=9:=λa b=>by
  have:=i a b;unfold kY;split
  all_goals (dsimp only;omega)
 have g:∀ n,0<=(jQ s n).2/\(jQ s n).2<=9:=λn=>by
  unfold jQ;rw[d8 (by simp[e])];split
  all_goals (dsimp only;omega)
 have z:∀ n,0<=(fR s n).2/\(fR s n).2<=9:=λn=>by
  have:=g n;unfold fR;split
  all_goals (dsimp only;omega)
 have y:∀ n,0<=(eZ s n).2.2/\(eZ s n).2.2<=9:=λn=>by
  unfold eZ;rw[d8 (by simp[e])]
  repeat' split
  all_goals (dsimp only;omega)
 have j:∀ f a l,0<=(cK s f a l).2.2/\(cK s f a l).2.2<=9:=λf a l=>by
  have:=w ⟨cT s.K a,l.getD 0 0,l.getD 1 0,f,dC Piece.mk (l.drop 2)⟩;unfold cK;dsimp only
  repeat' split
  all_goals (dsimp only;omega)
 have k:∀ a l,0<=(dS s a l).2.2/\(dS s a l).2.2<=9:=λa l=>by
  have:=r (cT s.K a) (dC Run.mk l);unfold dS;dsimp only
  repeat' split
  all_goals (dsimp only;omega)
 have h:∀ d a l,(∀ a b,0<=(d s a b).2/\(d s a b).2<=9)->0<=(lT d s a l).2.2/\(lT d s a l).2.2<=9:=λd a l g=>by
  have:=g (cT s.K a) (l.getD 0 0);unfold lT;dsimp only
  repeat' split
  all_goals (dsimp only;omega)
 have m:∀ l,0<=(gH s l).2.2/\(gH s l).2.2<=9:=λl=>by
  have:=z (l.getD 0 0);unfold gH;dsimp only
  repeat' split
  all_goals (dsimp only;omega)
 have o:∀ l,0<=(nF s l).2.2/\(nF s l).2.2<=9:=λl=>by
  have:=y (l.getD 0 0);unfold nF;dsimp only
  repeat' split
  all_goals (dsimp only;omega)
 have p:∀ f a l,0<=(jJ s f a l).2.2/\(jJ s f a l).2.2<=9:=λf a l=>by
  unfold jJ
  repeat' split
  all_goals first|exact j _ _ _|exact k _ _|exact h _ _ _ q|exact h _ _ _ t|exact m _|exact o _|(dsimp only;omega)
 refine A _ ?_;unfold eC;split
 ·dsimp only;omega
 unfold kQ;generalize (if nS ((fA x).getD 0 []) then 2 else 1)=f;split
 ·dsimp only;omega
 split
 ·dsimp only;omega
 exact p _ _ _
theorem aDw (w:y4) (g:Nat) (x:By) (b:w.heap[g]?=M (zt #[b9 (⟨#[]⟩:ByteArray),b9 (⟨#[97,108,108]⟩:ByteArray),b9 (⟨#[97,110,121]⟩:ByteArray),b9 (⟨#[111,114,100,101,114]⟩:ByteArray),b9 (⟨#[116,105,103,104,116]⟩:ByteArray)] 9 (0,0))) :
  y8 prog 38 #[O (M ⟨g,0,J⟩) 5 5,b9 (tx x)] w λc j=>(∃ n:Int,c=zv (Y Z n)/\(0<n↔0<jE x)/\(0<n->n=jE x))/\j=w:=by
 refine(Tryz.slices_Index_string g 0 5 5 [⟨#[]⟩,⟨#[97,108,108]⟩,⟨#[97,110,121]⟩,⟨#[111,114,100,101,114]⟩,⟨#[116,105,103,104,116]⟩] (tx x) w (by simp) (by omega) (λa s=>by
  match a,s with
  | 0,_=>exact y6 _ _ 0 _ _ _ b
  | 1,_=>exact y6 _ _ 1 _ _ _ b
  | 2,_=>exact y6 _ _ 2 _ _ _ b
  | 3,_=>exact y6 _ _ 3 _ _ _ b
  | 4,_=>exact y6 _ _ 4 _ _ _ b)).mono ?_
 rintro c j ⟨rfl,rfl⟩;refine⟨⟨_,rfl,?_⟩,rfl⟩;unfold Lib.idxOfS jE;simp only[List.take,Lib.idxFromS];by_cases i:x=[]
 ·subst i;decide
 by_cases d:x=[97,108,108]
 ·subst d;decide
 by_cases e:x=[97,110,121]
 ·subst e;decide
 by_cases f:x=[111,114,100,101,114]
 ·subst f;decide
 by_cases h:x=[116,105,103,104,116]
 ·subst h;decide
 have a:∀ l:By,¬ x=l->¬ tx l=tx x:=λl r c=>r (by have:=congrArg bs c;simpa[mM] using this.symm);have k:¬ (⟨#[]⟩:ByteArray)=tx x:=a _ i;have m:¬ (⟨#[97,108,108]⟩:ByteArray)=tx x:=a _ d;have o:¬ (⟨#[97,110,121]⟩:ByteArray)=tx x:=a _ e;have p:¬ (⟨#[111,114,100,101,114]⟩:ByteArray)=tx x:=a _ f;have q:¬ (⟨#[116,105,103,104,116]⟩:ByteArray)=tx x:=a _ h;rw[d8 k,d8 m,d8 o,d8 p,d8 q,d8 d,d8 e,d8 f,d8 h];omega
theorem Vy (w:y4) (g:Nat) (x:By) (d:w.heap[g]?=M (zt #[b9 (⟨#[99,104,97,110,103,101]⟩:ByteArray),b9 (⟨#[98,117,115,121]⟩:ByteArray),b9 (⟨#[108,101,102,116]⟩:ByteArray)] 9 (0,0))) :
  y8 prog 39 #[O (M ⟨g,0,J⟩) 3 3,b9 (tx x)] w λa e=>a=zv (zx (((tx x).toList == [99,104,97,110,103,101]) || ((tx x).toList == [98,117,115,121]) || ((tx x).toList == [108,101,102,116])))/\e=w:=by
 refine(Tryz.slices_Contains_string g 0 3 3 [⟨#[99,104,97,110,103,101]⟩,⟨#[98,117,115,121]⟩,⟨#[108,101,102,116]⟩] (tx x) w (by simp) (by omega) (λb f=>by
  match b,f with
  | 0,_=>exact y6 _ _ 0 _ _ _ d
  | 1,_=>exact y6 _ _ 1 _ _ _ d
  | 2,_=>exact y6 _ _ 2 _ _ _ d)).mono ?_
 rintro a e ⟨rfl,rfl⟩;refine⟨?_,rfl⟩;have c:∀ l:By,((tx x).toList == l)=decide (x=l):=λl=>by
  by_cases b:x=l
  ·rw[Ig b,decide_eq_true b]
  rw[Ih b,decide_eq_false b]
 have b:∀ l:By,tx x=tx l↔x=l:=λl=>⟨λa=>by have:=congrArg bs a;simpa[mM] using this,λa=>by rw[a]⟩
 congr 2;rw[c,c,c,Bool.eq_iff_iff,Lib.containsS_iff];simp only[List.take,aH1,aHa,or_false,Bool.or_eq_true,decide_eq_true_eq,or_assoc];exact or_congr (b _) (or_congr (b _) (b _))
def Ox (c:List i7) (p:y5) (d:List m8->y4->Prop) (e:y4->Prop):Exit->Act->y4->Prop
 | .panic f,a,b=>(a.defers=c/\a.tmps[4]?.getD u5=p)/\d f b
 | .ret,a,b=>(a.defers=c/\a.tmps[4]?.getD u5=p)/\e b
 | _,_,_=>False
theorem aFM {g:List i7} {p:y5} {c:List m8->y4->Prop} {e:y4->Prop} {f:List m8} {a:Act} {w:y4} {d:Tmp} {v:y5} (h:d≠4) (b:Ox g p c e (.panic f) (a.put (M d) v) w):Ox g p c e (.panic f) a w:=by
 refine⟨⟨b.1.1,?_⟩,b.2⟩;have:=b.1.2;simpa[Act.put,Array.getElem?_setIfInBounds,h] using this
theorem lqp {e:List i7} {p:y5} {a:List m8->y4->Prop} {d:Tmp} {v:y5} (g:d≠4):∀ c b f,Ox e p a (λ_=>True) (.panic c) (b.put (M d) v) f->Ox e p a (λ_=>True) (.panic c) b f:=λ_ _ _ b=>aFM g b
def dU (w:y4) (r:kT) (a:List m8) (W:y4):Prop:=r.2.2≠0/\a=iB r.2.2/\d7 w W
def Vv (w:y4) (B a:Nat) (s:aG) (r:kT) (W:y4):Prop:=r.2.2=0/\KT B w W/\W ⟨a,0,J⟩=M (b9 (tx r.2.1))/\((r.1=s/\d7 w W)\/∃ b c,Qf B w W r.1 b c)
def Vw (B:Nat) (w:y4) (s:aG) (r:aG × By) (e:r8) (w':y4):Prop:=KT B w w'/\e=zv (b9 (tx r.2))/\((r.1=s/\d7 w w')\/∃ a b,Qf B w w' r.1 a b)
theorem KT.set {B a:Nat} {w W:y4} (k:KT B w W) (c:w<=a) (v:y5):KT B w (W.setCell ⟨a,0,J⟩ v):=by
 have g:KT w W W:=KT.e (b8 W);have f:d7 w (w.setCell ⟨a,0,J⟩ v):=(b8 w).se c v;refine⟨k.os,k.tape,k.output,?_,λb d e=>?_⟩
 ·have:=k.size;simpa using this
 rw[x7 _ ⟨a,0,J⟩ _ _ (show b≠a by omega)];exact k.block b d e
theorem Kq {w w1 W:y4} {B a:Nat} {s:aG} {r:kT} {u v:y5} {T:By} (f:r.2.2=0) (i:T=r.2.1) (d:d7 w w1) (b:KT B w1 W) (c:Qf B w1 W r.1 u v) (m:B<w.heap.size) (g:w<=a) (h:a<w1.heap.size) (e:y5) (k:w1.heap[a]?=M (zt #[e] 9 (0,0))) :
  Vv w B a s r (W.setCell ⟨a,0,J⟩ (b9 (tx T))):=by
 subst i;have l:KT B w W:=(KT.e d).r b;have j:W.heap[a]?=M (zt #[e] 9 (0,0)):=b.at k (by omega);refine⟨f,l.set g _,y6 _ _ 0 _ _ _ (x6 W a 0 _ _ _ j),.inr ⟨u,v,?_,?_⟩⟩
 ·rw[x7 _ ⟨a,0,J⟩ _ _ (show B≠a by omega)];exact c.1
 exact(c.2.past (aN W a 0 _) h).sink d.size
theorem Mn {w W:y4} {B a:Nat} {r:kT} {s:aG} {u v:y5} {T:By} (d:r=(s,T,0)) (c:d7 w W) (g:fF B w s u v) (b:w<=a) (f:y5) (e:W.heap[a]?=M (zt #[f] 9 (0,0))) :
  Vv w B a s r (W.setCell ⟨a,0,J⟩ (b9 (tx T))):=by
 subst d;exact⟨rfl,(KT.e c).set b _,y6 _ _ 0 _ _ _ (x6 W a 0 _ _ _ e),.inl ⟨rfl,c.se b _⟩⟩
theorem dU.at {w W:y4} {r:kT} {s:aG} {m:Int} (a:r=(s,[],m)) (b:m≠0) (c:d7 w W):dU w r (iB m) W:=by
 subst a;exact⟨b,rfl,c⟩
theorem Ym {w0 w:y4} (y:gC w0) (q:d7 w0 w) {B:Nat} (E:w0<=B) (D:B<w.heap.size) {s:aG} {u v:y5} (F:fF B w s u v) {x:By} (t:aI s=0) (e:Exit) (a:Act) (W:y4)
  (b:Ox [{ target:=.fn (.func 34) #[zz (M ⟨w,0,J⟩)],args:=#[]}] (zz (M ⟨w,0,J⟩)) (dU (w.alloc (zt #[b9 (⟨#[]⟩:ByteArray)] 9)) (eC s x)) (Vv w B w s (eC s x)) e a W) :
  bodyPostD prog f13 (Vw B w s (dJ s x)) e a W:=by
 have r:=(b8 w).a (zt #[b9 (⟨#[]⟩:ByteArray)] 9);cases e with
 | panic C=>
  obtain⟨⟨h,g⟩,j,rfl,c⟩:=b;have k:=aO (y7 w (zt #[b9 (⟨#[]⟩:ByteArray)] 9)) c;have n:=r.r c;show Leaves _ _ a.tmps _ a.defers (.panicking _) W;rw[h];refine leaves_cons (f:=34) (args:=#[zz (M ⟨w,0,J⟩)]) (by simp) (by simp[go_sem]) ?_;refine(Yn w (eC s x).2.2 (Gz t x) [] W (y.e (q.r n)) ⟨_,y6 _ _ 0 _ _ _ k⟩ (x4 _ _ 0 _ _ k)).mono ?_;rintro e z A ⟨rfl,rfl,o,l,rfl⟩;have p:=x6 o w 0 _ _ (b9 (tx (rS++32::Lib.itoa (eC s x).2.2))) (aO k l);have d:=y6 _ _ 0 _ _ _ p;have i:dJ s x=(s,rS++32::Lib.itoa (eC s x).2.2):=by unfold dJ;rw[d8 j]
  have m:d7 w (o.setCell ⟨w,0,J⟩ (b9 (tx (rS++32::Lib.itoa (eC s x).2.2)))):=(n.r l).se (aGi _) _;show Leaves _ _ _ _ [] (settle _) _;refine⟨b9 (tx (rS++32::Lib.itoa (eC s x).2.2)),?_,?_⟩
  ·simp[results,results13,g,asAddr,d,go_sem]
  rw[i];exact⟨KT.e m,rfl,.inl ⟨rfl,m⟩⟩
 | ret=>
  obtain⟨⟨h,g⟩,j,l,k,m⟩:=b;show Leaves _ _ a.tmps _ a.defers .returning W;rw[h];refine leaves_cons (f:=34) (args:=#[zz (M ⟨w,0,J⟩)]) (by simp) (by simp[go_sem]) ?_;refine(aCS w W).mono ?_;rintro e z A ⟨rfl,rfl,c⟩;have d:=c.c k;have i:dJ s x=((eC s x).1,(eC s x).2.1):=by unfold dJ;rw[c7 j]
  show Leaves _ _ _ _ [] (settle _) _;refine⟨b9 (tx (eC s x).2.1),?_,?_⟩
  ·simp[results,results13,g,asAddr,d,go_sem]
  rw[i];exact⟨l.r (KT.e c),rfl,m.imp (λb=>⟨b.1,b.2.r c⟩) (λ⟨u2,n,b⟩=>⟨u2,n,b.e c⟩)⟩
 | _=>exact b.elim
theorem Cn (s:By):(fA s).length=Lib.count s [32]+1:=by
 rcases aFz s with b|⟨i,a,d⟩
 ·rw[Il s b,Lib.count_miss (by rw[Lib.index_one];exact b)];rfl
 have c:=Lib.count_hit (s:=s) (sub:=[32]) (i:=i) (by simp) (by rw[Lib.index_one];exact a);rw[Lp s i a,aGt,Cn (s.drop (i+1)),c];simp;omega
 termination_by s.length
 decreasing_by simp;omega
theorem aEx (w:y4) (j:gC w) (s:By) (m:s.length<=4096) :
  y8 prog 37 #[b9 (tx s),b9 (⟨#[32]⟩:ByteArray)] w λb a=>∃ c,b=zv c/\pY a c (fA s)/\d7 w a:=by
 obtain⟨l,h⟩:=j.max;refine(Tryz.strings_Split (tx s) (⟨#[32]⟩:ByteArray) l w (by rw[aP];omega) h (by decide)).m ?_;rintro b a ⟨rfl,rfl⟩;have e:Lib.countB (tx s) (⟨#[32]⟩:ByteArray)=Lib.count s [32]:=rfl;have g:Lib.count s [32]+1=(fA s).length:=(Cn s).symm;have f:=Lib.splitB_data (⟨#[32]⟩:ByteArray) 0 (Lib.count s [32]) (tx s);have i:Lib.splitB (⟨#[32]⟩:ByteArray) 0 (Lib.count s [32]) (tx s)=(fA s).map tx:=by
  have d:(Lib.splitB (⟨#[32]⟩:ByteArray) 0 (Lib.count s [32]) (tx s)).map bs=fA s:=f.trans (Xe _ s (aGi _));rw[<- d,List.map_map];rw[show tx ∘ bs=id from funext λc=>oM c,List.map_id]
 rw[e,i,g];have d:d7 w (w.alloc (zt (((fA s).map tx).map aIA).toArray 9)):=(b8 w).a _;refine⟨_,rfl,⟨w,0,_,rfl,by simp,aGi _,?_,λk n c=>?_⟩,d⟩
 ·have:=pM s [];show (eA [] s).length<=_;omega
 rw[Nat.zero_add,y6 _ _ k _ _ _ (y7 w _)];simp[c]
def StX (ex:List Nat) (B:Nat) (W:y4) (u v:y5) (s:aG):Prop:=cH ex B W u v s.K s.F\/(s.K=[]/\s.F=[]/\u=O J 0 0/\v=O J 0 0)
theorem StX.st {ex:List Nat} {B:Nat} {W:y4} {u v:y5} {s:aG} (a:StX ex B W u v s):StS B W u v s:=a.imp_left (λa=>a.low (aGi _) (λb b=>by cases b))
theorem StX.e {ex:List Nat} {B:Nat} {W W':y4} {u v:y5} {s:aG} (a:StX ex B W u v s) (b:d7 W W'):StX ex B W' u v s:=a.imp_left (λa=>a.e b)
theorem StX.kept {ex:List Nat} {B r:Nat} {W W':y4} {u v:y5} {s:aG} (a:StX ex B W u v s) (b:W.grownBy W' (M r)) (c:r∈ex):StX ex B W' u v s:=a.imp_left (λa=>a.kept b c)
theorem StX.low {ex ex2:List Nat} {B B2:Nat} {W:y4} {u v:y5} {s:aG} (a:StX ex B W u v s) (hb:B2<=B) (b:∀ c∈ex2,c∈ex):StX ex2 B2 W u v s:=a.imp_left (λa=>a.low hb b)
theorem StX.box {ex:List Nat} {B r:Nat} {W:y4} {u v:y5} {s:aG} (a:StX ex B W u v s) (b:W<=r):StX (r::ex) B W u v s:=a.imp_left (λa=>a.box b)
theorem StX.under {ex:List Nat} {B:Nat} {W:y4} {u v:y5} {s:aG} (a:StS B W u v s) (c:∀ b∈ex,b<B):StX ex B W u v s:=by
 induction ex with
 | nil=>exact a
 | cons b ex e=>exact(e (λf d=>c f (aGc _ d))).imp_left (λa=>a.under (c b (aHv ..)))
theorem Ns {W W':y4} {row:Option Nat} {r:Nat} (a:W.grownBy W' row) (f:∀ b,row=M b->b=r):W.grownBy W' (M r):=
 ⟨a.os,a.tape,a.output,a.size,λb d e=>a.block b d (λc=>e (by rw[f b c.symm]))⟩
theorem Fs {α:Type} {f g:α->Int} {W:y4} {v:y5} {xs:List α} (b:SV 2 (E2 f g) W v xs) (d:xs≠[]):∀ a n c,v=O (M a) n c->∃ e,W.heap[a.block]?=M e/\e.isCells=true:=by
 rcases b with ⟨b,_⟩|⟨j,q,k,rfl,l,m,p,o,h⟩
 ·exact absurd b d
 intro a n c e;cases e;cases xs with
 | nil=>exact absurd rfl d
 | cons i xs=>exact cells_of_cell (h 0 i rfl).1
theorem Vf {W:y4} {css:List (List y5)} {b:List aH} (e:fP W css b) (q:Am b):∀ c∈css,∀ j∈c,∀ a n d,j=O (M a) n d->∃ g,W.heap[a.block]?=M g/\g.isCells=true:=by
 intro c p j h;obtain⟨k,g⟩:=List.mem_iff_getElem?.1 p;obtain⟨l,i⟩:=aV (f:=b) (k:=k) (by rw[<- e.len];exact(aGw.1 g).1);obtain⟨⟨s,t⟩,_⟩:=q l (aGC i);obtain⟨w,u,rfl,⟨v,rfl,r,_⟩,o,_⟩:=e.each k c l g i;simp only[aGd,aH9,aH1,aHa,or_false] at h;rcases h with rfl|rfl|rfl|rfl|rfl|rfl|rfl
 iterate 5 · intro a n d m;cases m
 ·exact Fs r s
 exact Fs o t
theorem cH.none {ex:List Nat} {B r:Nat} {W:y4} {u v:y5} {l:List Queue} {b:List aH} (a:cH ex B W u v l b) {o:Obj} (ho:W.heap[r]?=M o) (hn:o.isCells=false):cH (r::ex) B W u v l b:=by
 obtain⟨m,N,rfl,S,U,V,T,hg,hs,X,C,y,⟨P,E,F,G,o4⟩,D,vs,H,q2⟩:=a;have k:∀ c:Nat,(∃ o,W.heap[c]?=M o/\o.isCells=true)->c≠r:=λc ⟨o',x,z⟩ e=>by
  rw[e,ho] at x;cases x;rw[hn] at z;cases z
 have ng:m≠r:=k m ⟨_,H,rfl⟩;have nv:∀ c,v.ownBlock=M c->c≠r:=λc d=>by
  rcases E.2 with ⟨f,_⟩|⟨g,i,j,f,_,h,_⟩
  ·rw[f] at d;cases d
  rw[f] at d;obtain rfl:g=c:=by simpa[aHR] using d
  exact k g ⟨_,h,rfl⟩
 refine⟨m,N,rfl,S,U,V,T,hg,hs,λa=>?_,C,y,⟨P,E,F,λh p u s f n g e q=>?_,o4⟩,λc d=>⟨(D c d).1,λa=>?_⟩,vs,H,λi K A=>?_⟩
 ·rcases aH1.1 a with a|a
  ·exact ng a
  exact X a
 ·rcases aH1.1 q with a|a
  ·exact G h p u s f n g e (a▸aHv ..)
  rcases aH1.1 a with a|a
  ·exact k _ (Vf F C h p u s f n g e) a
  exact G h p u s f n g e (aGc _ a)
 ·rcases aH1.1 a with a|a
  ·exact nv c d a
  exact(D c d).2 a
 obtain⟨f,L,g,R,Q,e,w,t⟩:=q2 i K A;refine⟨f,L,g,R,Q,e,w,λh n j i q=>?_⟩;rcases aH1.1 q with a|a
 ·exact t h n j i (a▸aHv ..)
 rcases aGe.1 a with a|a
 ·exact t h n j i (aGc _ (aHV _ a))
 rcases aH1.1 a with a|a
 ·exact k _ (Fs w (y K (aGC A)) h n j i) a
 exact t h n j i (aGc _ (aHW _ a))
theorem StX.off {ex:List Nat} {B:Nat} {W W':y4} {u v:y5} {s:aG} {row:Option Nat} (a:StX ex B W u v s) (e:W.grownBy W' row) (c:∀ b,row=M b->∃ d,W.heap[b]?=M d/\d.isCells=false):StX ex B W' u v s:=by
 cases row with
 | none=>exact((a.box (aGi W)).kept (Ns e (λf f=>by cases f)) (aHv ..)).low (aGi _) (λb c=>aGc _ c)
 | some b=>
  obtain⟨d,h,g⟩:=c b rfl;rcases a with a|a
  ·exact .inl (((a.none h g).kept e (aHv ..)).low (aGi _) (λb c=>aGc _ c))
  exact .inr a
section
variable {P:o9}
theorem aDH (w:y4) (base:Nat) (t u d e:o8) (i:TypeInfo) (l:P.underlying t=M (.slice e)) (m:P.underlying u=M .string) (j:P.info? e=M i) (q:i.zero=M (.int .u8 0)) (k:i.size=1) (p:i.bytes=1)
  (v:y5) (n:Nat) (xs:List y5) (c:w.ownsRowF base e 1 v n xs) (s:ByteArray) (o:n+s.size<=o0) (B:n+s.size<=140737488355328) {r:y5} {w':y4}
  (a:(Builtin.append_ #[t,u] d #[v,b9 s]).run P w=.ok r w'):∀ b,r.ownBlock=M b->v.ownBlock=M b\/w.heap.size<=b:=by
 intro b h;rcases c.2 with ⟨rfl,rfl⟩|⟨g,f,x,y,rfl,G,D,C,L,H,K,Q⟩
 ·obtain⟨E,F,z,A,_⟩:=Lib.run_append_own_string (P:=P) w w t u d e i l m j q k p (O J 0 0) 0 xs ⟨c.1,.inl ⟨rfl,rfl⟩⟩ s o B (aGi _);rw[z] at a;cases a;exact .inr (bN A b h)
 have E:xs.length=n:=by simpa using c.1
 have N:n+s.size<=9223372036854775807:=by simp only[o0] at o;omega
 by_cases A:n+s.size<=f
 ·rw[Lib.run_append_room_stringF (P:=P) w t u d e i l m j k g n f x y D (by simpa using C) s A (by omega)] at a;cases a;exact .inl h
 rw[Lib.run_append_grow_string (P:=P) w t u d e i (.int .u8 0) l m j q ⟨g,0,J⟩ n f xs (by rw[k];simpa using E) (λF u z=>c.cells (g:=g) rfl F u z) s (by omega) (by omega) (by rw[p];exact growslice_fits (by omega) (by omega))] at a;cases a;right;simp[aHR] at h;omega
theorem Ce {r:Array Oper} {rest:List Oper} {o:Oper} {a:Act} {w:y4} {Q:Exit->Act->y4->Prop} (E:o.guard=J) (y x:Operand) (t u:o8)
  (G:o.op=.call { callee:=.builtin .append,args:=#[y,x],argTypes:=#[t,u]})
  (base:Nat) (e:o8) (i:TypeInfo) (m:P.underlying t=M (.slice e)) (p:P.underlying u=M .string) (j:P.info? e=M i) (q:i.zero=M (.int .u8 0)) (l:i.size=1) (g:i.bytes=1)
  (v:y5) (n:Nat) (xs:List y5) (H:a.eval y=v) (k:w.ownsRowF base e 1 v n xs) (s:ByteArray) (K:a.eval x=b9 s) (f:n+s.size<=o0) (h:n+s.size<=140737488355328) (D:base<=w)
  (z:∀ b c,c.ownsRowF base e 1 b (n+s.size) (xs++Lib.strCells s)->w.grownBy c v.ownBlock->(∀ d,b.ownBlock=M d->v.ownBlock=M d\/w.heap.size<=d)->wpList P r Q rest (a.put o.dst b) c):wpList P r Q (o::rest) a w:=by
 refine wpList_plain E λd C=>?_;obtain⟨b,c,d,A,B,_⟩:=Lib.run_append_own_stringF (P:=P) w base t u o.type e i m p j q l g v n xs k s f h D;have F:=aDH w base t u o.type e i m p j q l g v n xs k s f h d;unfold Oper.wp execOp;simp only[G,resolve,invoke,builtin,Sem.run_bind,Sem.run_pure,Result.andThen_ok,List.map_toArray,List.map_cons,List.map_nil,H,K,d];exact C _ _ (z b c A B F)
end
def Pp (ex:List Nat) (b C:Nat) (u v:y5) (s:aG) (W:y4):Prop:=∃ c a,W.heap[b]?=M (zt #[c,a] 42 (0,0))/\StX (b::(a.ownBlock.toList++ex)) C W u v s/\∀ c,a.ownBlock=M c->c∉ex
theorem aEo (B b:Nat) (bs:List y5) (w:y4) (a:Lib.IsBuilderF 42 5 B b bs w) (ex:List Nat) (C:Nat) (u v:y5) (s:aG) (e:Pp ex b C u v s w) (f:b∉ex) :
  y8 prog 33 #[zz (M ⟨b,0,J⟩)] w λd c=>d=zv (zw #[])/\(Lib.BuilderAtF 42 5 B b (zz (M ⟨b,0,J⟩)) bs c/\Below B w c/\Lib.OthersKept 5 (M b) w c)/\Pp ex b C u v s c/\bJ ex w c:=by
 rcases a with a|a
 ·refine(Of b w a.cell0 a.shape a.frozen0).m ?_;rintro d c ⟨rfl,rfl⟩;obtain⟨p,j,h,i,g⟩:=e;exact⟨rfl,⟨a.used _,(Below.refl B w).setCell (p:=⟨b,0,J⟩) a.1 _,(Lib.OthersKept.refl _ _ w).setCell ⟨b,0,J⟩ rfl _⟩,⟨_,j,x6 w b 0 _ _ _ h,i.kept (aN w b 0 _) (aHv ..),g⟩,bJ.se _ f⟩
 refine(Sw b w a.cell0).m ?_;rintro d c ⟨rfl,rfl⟩;exact⟨rfl,⟨a,Below.refl B _,Lib.OthersKept.refl _ _ _⟩,e,bJ.rf _ _⟩
theorem Kh (B b:Nat) (l m:By) (S:ByteArray) (H:S=tx m) (w:y4) (f:BIs B b l w) (hlen:l.length<=100000000) (E:m.length<=1000000) (ag:B<=w) (ex:List Nat) (a0:∀ r∈ex,r<w.heap.size) (D:Nat) (u v:y5) (s:aG) (t:Pp ex b D u v s w) (K:b∉ex) :
  y8 prog 12 #[zz (M ⟨b,0,J⟩),b9 S] w λe a=>(∃ k,e=zv (zw #[k,.nilIface]))/\BTo B b (l++m) w a/\Pp ex b D u v s a/\bJ ex w a:=by
 obtain⟨i0,hi,ac,ad,ae⟩:=s8 Hj;have X:=Lib.byteCells_length l;have Q:=I (aEo B b (Lib.byteCells l) w f ex D u v s t K);have ah:S.size<=1000000:=by rw[H,aP];exact E
 obtain⟨HS,HE⟩:=zr H a0;clear f H t a0;go_enter func12,ntmps12;go_wp2_with fail;refine Q.m ?_;rintro e z ⟨rfl,⟨C,W,a1⟩,t,a2⟩;obtain⟨a5,a8⟩:=zr K a2;clear a2 K;obtain⟨V,i,x,N,a3⟩:=C;have c0:z ⟨b,0,J⟩=M (zz (M ⟨b,0,J⟩)):=by rw[Lib.cell_of_heap x];rfl
 have c1:z ⟨b,1,J⟩=M i:=by rw[Lib.cell_of_heap x];rfl
 rw[X] at N;have o:=I (show StX (b::(i.ownBlock.toList++ex)) D z u v s/\∀ c,i.ownBlock=M c->c∉ex from by
  obtain⟨p,d,C,a⟩:=t;rw[x] at C;cases C;exact a)
 obtain⟨R,a7,G,U,aa⟩:=zm W a1 N x a3;clear W a1 N x a3 Q t;have ai:=R.size;have ab:b<z.heap.size:=(aGq.1 U).1;generalize hn:l.length=n at *;clear hn;go_wp2_with (at_builtin;refine Ce rfl _ _ 40 9 rfl B 5 i0 underlying40 underlying9 hi ac ad ae _ _ _ rfl G S rfl ?c3 ?c4 ?c5 ?_)
 case c3=>unfold o0;omega
 case c4=>omega
 case c5=>omega
 intro h d P g L;have j:d.heap[b]?=M (zt #[zz (M ⟨b,0,J⟩),i] 42 (0,0)):=by
  rw[g.block b ab (λe=>aa e.symm)];exact U
 have d0:d ⟨b,0,J⟩=M (zz (M ⟨b,0,J⟩)):=by rw[Lib.cell_of_heap j];rfl
 have d1:d ⟨b,1,J⟩=M i:=by rw[Lib.cell_of_heap j];rfl
 have f1:d.frozen? ⟨b,1,J⟩=false:=Lib.frozen_of_heap j 1;have a4:=I (show StX (b::(h.ownBlock.toList++ex)) D (d.setCell ⟨b,1,J⟩ h) u v s from by
  have q:StX (h.ownBlock.toList++(b::(i.ownBlock.toList++ex))) D z u v s:=by
   cases y:h.ownBlock with
   | none=>exact o.1
   | some r=>
    rcases L r y with f|f
    ·exact o.1.low (aGi _) (λk a=>by
      simp only[Option.toList_some,aGd,aH9,aH1,f] at a ⊢;rcases a with a|a
      ·exact .inr (.inl a)
      exact a)
    exact o.1.box f
  have F:StX (h.ownBlock.toList++(b::(i.ownBlock.toList++ex))) D d u v s:=by
   cases A:i.ownBlock with
   | none=>
    rw[A] at g q;exact q.kept (Ns g (λk e=>by cases e)) (r:=b) (by simp)
   | some r=>
    rw[A] at g q;exact q.kept g (by simp)
  exact(F.kept (aN d b 1 _) (by simp)).low (aGi _) (λk a=>by
   rcases aH1.1 a with rfl|a
   ·simp
   rcases aGe.1 a with a|a
   ·exact aHV _ a
   simp[a]))
 have a6:=I (show ∀ c,h.ownBlock=M c->c∉ex from λc hg E=>by
  rcases L c hg with f|f
  ·exact o.2 c f E
  have:=HE c E;omega)
 have a9:=I (show bJ ex w (d.setCell ⟨b,1,J⟩ h) from (a8.r (bJ.grown g (λr hr=>o.2 r hr))).r (bJ.grown (aN d b 1 h) (λr e=>by cases e;exact a5)));obtain⟨A,F,q,rfl⟩:∃ A F q,h=O A F q:=by
  rcases P.2 with ⟨y,_⟩|⟨c,q,af,fz,y,_⟩
  ·exact⟨_,_,_,y⟩
  exact⟨_,_,_,y⟩
 obtain⟨R1,R2,R3,y⟩:=zp ((a7.grown g (Lib.ownsRowF_kind G)).setCell ⟨b,1,J⟩ rfl (O A F q)) ((R.grown g (by omega) (λk a=>(G.lt k a).1)).setCell (p:=⟨b,1,J⟩) V (O A F q)) (Lib.BuilderAtF.put (T:=42) (e:=5) V j (bs':=Lib.byteCells l++Lib.strCells S) (by simpa[X,Lib.strCells_length] using P) (by decide)) j;clear P g j L;go_wp2;go_ret2;refine⟨⟨_,rfl⟩,⟨.inr ?_,R2,R1⟩,⟨_,_,x6 d b 1 _ _ _ y,a4,a6⟩,a9⟩;rw[Tc,<- HS.o];exact R3
theorem Xy {b n:Nat} {w w':y4} (f:Lib.OthersKept 5 (M b) w w') (g:w.heap.size<=w'.heap.size) {cs:Array y5} {t:o8} {e:Nat × Nat} (hb:w.heap[b]?=M (zt cs t e)):o6 n w w':=
 ⟨g,λh i _ c d=>f h i c (λa=>by
  rw[b7 a,hb] at c;cases c;cases d) (λj j a=>by subst a;cases d)⟩
theorem BIs.same {B b:Nat} {l:By} {W W':y4} (p:BIs B b l W) (hb:∀ c,W.heap[b]?=M c->W'.heap[b]?=M c) (o:∀ a e d c,W.heap[b]?=M (zt #[e,d] 42 (0,0))->d.ownBlock=M a->W.heap[a]?=M c->c.isCells=true->W'.heap[a]?=M c):BIs B b l W':=by
 rcases p with ⟨j,d,c,e,n⟩|⟨j,d,c,e,n⟩
 ·refine .inl ⟨j,d,hb _ c,⟨e.1,?_⟩,n⟩;rcases e.2 with i|⟨a,f,g,h,rfl,k,m,rest⟩
  ·exact .inl i
  exact .inr ⟨a,f,g,h,rfl,k,o a _ _ _ c rfl m rfl,rest⟩
 refine .inr ⟨j,d,hb _ c,⟨e.1,?_⟩,n⟩;rcases e.2 with i|⟨a,f,g,h,rfl,k,m,rest⟩
 ·exact .inl i
 exact .inr ⟨a,f,g,h,rfl,k,o a _ _ _ c rfl m rfl,rest⟩
theorem BIs.row {B b:Nat} {l:By} {W:y4} (g:BIs B b l W) {p x:y5} (f:W.heap[b]?=M (zt #[p,x] 42 (0,0))):∀ a,x.ownBlock=M a->B<=a/\a<W.heap.size:=by
 rcases g with ⟨h,j,c,e,i⟩|⟨h,j,c,e,i⟩
 ·rw[f] at c;cases c;exact λa d=>e.lt a d
 rw[f] at c;cases c;exact λa d=>e.lt a d
def PB (base b C:Nat) (ex:List Nat) (l:By) (u v:y5) (s:aG) (W:y4):Prop:=BIs base b l W/\Pp ex b C u v s W/\b∉ex
theorem PB.turn {base b C:Nat} {ex:List Nat} {l:By} {u v:y5} {s:aG} {W W':y4} {row:Option Nat} (p:PB base b C ex l u v s W) (g:W.grownBy W' row) (n:∀ r,row=M r->r∈ex):PB base b C ex l u v s W':=by
 obtain⟨q,⟨x,y,k,o,j⟩,f⟩:=p;have h:∀ a c,a∉ex->W.heap[a]?=M c->W'.heap[a]?=M c:=λa c t d=>(g.block a (aGq.1 d).1 (λe=>t (n a e.symm))).trans d;refine⟨q.same (λc d=>h b c f d) (λi z A c m w d _=>?_),⟨x,y,h b _ f k,?_,j⟩,f⟩
 ·rw[k] at m;cases m;exact h i c (j i w) d
 cases row with
 | none=>exact o.kept (r:=b) (Ns g (λa e=>by cases e)) (aHv ..)
 | some r=>exact o.kept g (aGc _ (aHW _ (n r rfl)))
theorem PB.off {base b C:Nat} {ex:List Nat} {l:By} {u v:y5} {s:aG} {W W':y4} {row:Option Nat} (n:PB base b C ex l u v s W) (i:W.grownBy W' row) (k:∀ c,row=M c->∃ a,W.heap[c]?=M a/\a.isCells=false):PB base b C ex l u v s W':=by
 obtain⟨o,⟨t,w,f,r,q⟩,p⟩:=n;have g:∀ (d:Nat) (a:Obj),a.isCells=true->W.heap[d]?=M a->W'.heap[d]?=M a:=λd a e c=>(i.block d (aGq.1 c).1 (λm=>by
  obtain⟨x,j,h⟩:=k d m.symm;rw[c] at j;cases j;rw[e] at h;cases h)).trans c
 refine⟨o.same (λa c=>?_) (λh x y a j m c e=>g h a e c),⟨t,w,g b _ rfl f,r.off i k,q⟩,p⟩;rw[f] at c;cases c;exact g b _ rfl f
theorem PB.line {base b C B:Nat} {ex:List Nat} {l:By} {u v j k:y5} {s i:aG} {W W':y4} (o:PB base b C ex l u v s W) (w:KT B W W') (H:B<base) (t:∀ f∈ex,f<W.heap.size) (q:C<=W) (g:(i=s/\j=u/\k=v/\d7 W W')\/StS W W' j k i):PB base b C ex l j k i W':=by
 obtain⟨d,⟨E,F,n,A,y⟩,p⟩:=o;have h:∀ a c,a≠B->W.heap[a]?=M c->W'.heap[a]?=M c:=λa c x e=>w.at e x;have K:=d.base;have L:=d.lt;refine⟨d.same (λc e=>h b c (by omega) e) (λm N P c z D e _=>h m c (by have:=(d.row z m D).1;omega) e),⟨E,F,h b _ (by omega) n,?_,y⟩,p⟩;rcases g with ⟨rfl,rfl,rfl,r⟩|g
 ·exact A.e r
 exact(StX.under g (λf a=>by
  rcases aH1.1 a with G|a
  ·omega
  rcases aGe.1 a with a|a
  ·exact(d.row n f (by simpa using a)).2
  exact t f a)).low q (λf a=>a)
theorem PB.e {base b C:Nat} {ex:List Nat} {l:By} {u v:y5} {s:aG} {W W':y4} (d:PB base b C ex l u v s W) (a:d7 W W'):PB base b C ex l u v s W':=
 d.turn (row:=J) ⟨a.os,a.tape,a.output,a.size,λf e _=>a.block f e⟩ (λc c=>by cases c)
theorem PB.new {base C:Nat} {ex:List Nat} {u v:y5} {s:aG} {w:y4} (hb:base<=w) (a:StX ex C w u v s) (b:∀ c∈ex,c≠w):PB base w C ex [] u v s (w.alloc (zt #[zz J,O J 0 0] 42)):=
 ⟨Jo base w hb,⟨_,_,y7 w _,(a.box (aGi _)).e ((b8 w).a _),λc c=>(by cases c)⟩,λd=>b _ d rfl⟩
theorem aDI {B g cap:Nat} {W:y4} {l:List Queue} (k:iM (List.range B) W g l) (h:l.length<=cap) (i:cap<=9223372036854775807) (j:B<=g) (c:cQ l):StS B W (O (M ⟨g,0,J⟩) l.length cap) (O J 0 0) ⟨0,0,l,[]⟩:=by
 obtain⟨n,b,e⟩:=k;have f:fH (g::([]++List.range B)) B W (O J 0 0) []:=⟨[],aGQ _ _ _ _,⟨rfl,λa d o a=>by simp at a⟩,(λd a=>by cases a),(λg a=>by cases a)⟩;exact .inl ⟨g,cap,rfl,h,i,c.n5,by simp,j,b.lt,by simp,(λo m=>by cases m),sD c,f,(λp a=>by cases a),⟨n,b,e⟩⟩
theorem aEN (w:y4) (v:y5) (l:List Queue) (f:aK w v l) (j:aT l=0) :
  y8 prog 10 #[v] w λh b=>∃ a,h=zv (zw #[.agg #[Y Z 0,Y Z 0,a,O J 0 0],Y Z 0])/\StS w b a (O J 0 0) ⟨0,0,l,[]⟩/\d7 w b:=by
 obtain⟨m,u⟩:=zr (λ(a:y4) (i:d7 w a)=>mH a v l (f.m i)) (y7 w (zt #[Y Z 0,Y Z 0,O J 0 0,O J 0 0] 34));have k:=gG j;rw[j] at m;obtain⟨y,z⟩:=zr (λ(a:y4) (i:d7 w a) (N:w.heap.size<a.heap.size)=>wI [w.heap.size] w a v l f i k (λp d=>by have:=aHf.1 d;omega)) k;obtain⟨L,cap,rfl,_,_,_⟩:=f.i;clear f k j;generalize s:l.length=n at *;go_enter func10,ntmps10;go_wp2_with fail;refine(m _ ((b8 w).a _)).m ?_;rintro h K ⟨rfl,e⟩;go_wp2_with fail;refine(y _ (((b8 w).a _).r e) (by have:=e.size;simp at this;omega)).m ?_;rintro h g ⟨b,c,rfl,G,H,P,C,A,t⟩;have Q:w.heap.size+1<=K.heap.size:=by have:=e.size;simpa using this
 have r:b≠w:=by omega
 have o:=I (show g.heap[w.heap.size]?=M (zt #[Y Z 0,Y Z 0,O J 0 0,O J 0 0] 34 (0,0)) from ((e.r t).block _ (by simp)).trans u);have F:d7 w (g.setRow w #[Y Z 0,Y Z 0,O (M ⟨b,0,J⟩) n c,O J 0 0]):=((((b8 w).a _).r e).r t).sr (aGi _) _;go_wp2_with (refine y9 rfl 34 _ _ rfl w #[Y Z 0,Y Z 0,O (M ⟨b,0,J⟩) n c,O J 0 0] rfl rfl 34 #[Y Z 0,Y Z 0,O J 0 0,O J 0 0] o size34 rfl (by simp[aGr]) ?_);have x:=x5 g w _ #[Y Z 0,Y Z 0,O (M ⟨b,0,J⟩) n c,O J 0 0] _ _ o;have q:=aQ g w #[Y Z 0,Y Z 0,O (M ⟨b,0,J⟩) n c,O J 0 0];have D:=C.kept q (aHf.2 rfl) r;have B:=(A.kept q r).less (l:=l.length) (b2:=w.heap.size) (by omega) (by omega);have E:=(D.fresh (cs:=List.range w) B (λp d=>by have:=aGN.1 d;omega)).less (cs:=List.range w) (λp d=>aHW _ d);have p:=aDI (cap:=c) E (by rw[s];exact G) H (by omega) z;rw[s] at p;exact v6 (kH rfl _ _ w 34 #[Y Z 0,Y Z 0,O (M ⟨b,0,J⟩) n c,O J 0 0] (0,0) _ rfl x underlying34 rfl size34) rfl ⟨_,rfl,p,F⟩
theorem aBy (w:y4) (v:y5) (l:List Queue) (f:aK w v l) (g:cQ l) :
  y8 prog 17 #[v] w λi b=>∃ a,i=zv (.agg #[Y Z 0,Y Z 0,a,O J 0 0])/\StS w b a (O J 0 0) ⟨0,0,l,[]⟩/\d7 w b:=by
 obtain⟨p,r,s⟩:=zq (y7 w (zt #[Y Z 0,Y Z 0,O J 0 0,O J 0 0] 34)) (λ(d:y4) (t:d7 w d) (E:w.heap.size<d.heap.size)=>xC (List.range (w+1)) d v l (f.m t) g (λj e=>by have:=aGN.1 e;omega)) g;obtain⟨D,cap,rfl,_,_,_⟩:=f.i;clear f g;generalize m:l.length=n at *;go_enter func17,ntmps17;go_wp2_with fail;refine(r _ ((b8 w).a _) (by simp)).m ?_;rintro i c ⟨a,b,rfl,z,A,k,u,o⟩;have C:a≠w:=by simp at k;omega
 have B:w<=a:=by simp at k;omega
 have h:=I (show c.heap[w.heap.size]?=M (zt #[Y Z 0,Y Z 0,O J 0 0,O J 0 0] 34 (0,0)) from (o.block _ (by simp)).trans p);have y:d7 w (c.setRow w #[Y Z 0,Y Z 0,O (M ⟨a,0,J⟩) n b,O J 0 0]):=(((b8 w).a _).r o).sr (aGi _) _;go_wp2_with (refine y9 rfl 34 _ _ rfl w #[Y Z 0,Y Z 0,O (M ⟨a,0,J⟩) n b,O J 0 0] rfl rfl 34 #[Y Z 0,Y Z 0,O J 0 0,O J 0 0] h size34 rfl (by simp[aGr]) ?_);have q:=x5 c w _ #[Y Z 0,Y Z 0,O (M ⟨a,0,J⟩) n b,O J 0 0] _ _ h;have x:=(u.kept (aQ c w #[Y Z 0,Y Z 0,O (M ⟨a,0,J⟩) n b,O J 0 0]) (aGN.2 (by omega)) C).less (cs:=List.range w) (λj e=>aGN.2 (by have:=aGN.1 e;omega));have j:=aDI (cap:=b) x (by rw[m];exact z) A B s;rw[m] at j;exact v6 (results_cell_row rfl _ _ w 34 #[Y Z 0,Y Z 0,O (M ⟨a,0,J⟩) n b,O J 0 0] (0,0) _ rfl q underlying34 rfl size34) rfl ⟨_,rfl,j,y⟩
theorem Jv {l:List Queue} (a:aT l=0):aI ⟨0,0,l,[]⟩=0:=by
 have e:=gG a;have c:eX l []=0:=by rw[eY a (by decide)];rfl
 exact tR (xV c ⟨by show (0:Int)<=0;decide,by show (0:Int)<=48;decide,by show (0:Int)<=0;decide,by show (0:Int)<=1048576;decide⟩ (by show iV (-1) 0 []=true;rfl) rfl) (Ao (λs f g b d=>by
  have:=zQ e d s;unfold bE;show 0<=sp (cp l b) s-aU l [] b s;simp only[aU];omega))
theorem aBD {t:By} (a:t≠[]):(tx t).toList.isEmpty=false:=by
 cases t with
 | nil=>exact absurd rfl a
 | cons c b=>simp[tx,ByteArray.toList_eq]
theorem aCF {q t:By} (b:4096<q.length):lI q t=([],2):=by
 have a:eK q=([],2):=by unfold eK;rw[c7 b]
 unfold lI;rw[a,c7 (by simp)]
theorem Rm {q t:By} (a:(eK q).2=0) (b:4096<t.length\/60<t.count 10):lI q t=([],2):=by
 unfold lI;rw[d8 (by rw[a];simp),c7 b]
theorem Rl {q t:By} (a:(eK q).2=0) (b:¬ (4096<t.length\/60<t.count 10)) (c:t≠[]/\t.getLast?≠M 10):lI q t=([],1):=by
 unfold lI;rw[d8 (by rw[a];simp),d8 b,c7 c]
theorem Ul {q t:By} (a:(eK q).2=0) (b:¬ (4096<t.length\/60<t.count 10)) (c:¬ (t≠[]/\t.getLast?≠M 10)):lI q t=(jW ⟨0,0,(eK q).1,[]⟩ (fQ t),0):=by
 unfold lI;rw[d8 (by rw[a];simp),d8 b,d8 c]
def oC (w:y4) (r:By × Int) (e:r8) (w':y4):Prop:=e=zv (zw #[b9 (tx r.1),r.2])/\d7 w w'
theorem aAJ (w0 w:y4) (W:gC w0) (K:d7 w0 w) (B:Nat) (a8:w0<=B) (s:aG) (u v:y5) (g:fF B w s u v) (U:aI s=0) :
  y8 prog 13 #[zz (M ⟨B,0,J⟩),b9 (tx kS)] w (Vw B w s (dJ s kS)):=by
 have aj:∀ (H:Fn) (first F:Array y5) (w:y4),(Instr.makeFunc H first F).run prog w=.ok (.func H first F) w:=λ_ _ _ _=>rfl;have a9:B<w.heap.size:=(aGq.1 g.1).1;obtain⟨j,_,ah⟩:=zL U;obtain⟨HP,HR⟩:=zr j (by unfold eC;rw[c7 rfl]:eC s kS=(s,kK (s.F.map aH.Id),0));have q0:=Ig (s:=kS) (l:=[98,111,111,107,115]) rfl;obtain⟨ii,ac,ad,ae,af⟩:=s8 Gq;obtain⟨b,q⟩:∃ b,w.alloc (zt #[b9 (⟨#[]⟩:ByteArray)] 9)=b:=⟨_,rfl⟩;have m:=y7 w (zt #[b9 (⟨#[]⟩:ByteArray)] 9);have r:=(b8 w).a (zt #[b9 (⟨#[]⟩:ByteArray)] 9);have V:b.heap.size=w.heap.size+1:=by rw[<- q];simp
 have z:=Ym (x:=kS) W K a8 a9 g U;rw[q] at m r z;have a4:=I V;clear V
 go_enter_defers func13,ntmps13
 refine wp_mono ?_ z;generalize N:Ox _ _ _ _=QQ;obtain⟨a2,y,HX,HH,a3,a6⟩:=zl N (g.e r) r g m q;clear N z j g q r m;go_upto_region 2 with fail;rw[a6.o];obtain⟨b0,b1,b2,b3⟩:=y.cells;obtain⟨ua,un,uc,va,vn,vc,rfl,e2⟩:=y.i;obtain⟨va,vc,rfl,_,_,_,P⟩:=jH y.2.books;have a0:=I P;clear e2 P;go_wp2;go_loopw [5,25] (λc a wr=>∃ k:Nat,a=Y Z k/\k<=s.F.length/\Hid (wr.ownsRow b 3 1 c k (Ad ((s.F.map aH.Id).take k)))/\Hid (d7 b wr)) (λc a _=>s.F.length-(intOf a).toNat);exact⟨0,rfl,by omega,I (aGQ _ _ _ _),I (b8 _)⟩;obtain⟨k,rfl,hk,t,e⟩:=hrel;by_cases S:k<s.F.length
 ·have aa:=z7 k s.F.length;obtain⟨a,o⟩:=aV (f:=s.F) (k:=k) S;obtain⟨bb,bo,rfl,ai,L⟩:=a0 (by omega);obtain⟨pv,bv,c0,c1,c2,c3,c4,c5,c6,j,Q⟩:=dN (kM.m b wr bb _ a e (L k a o));have a5:=I (by rw[aHZ,aHt,o];rfl:(s.F.map aH.Id).take (k+1)=(s.F.map aH.Id).take k++[a.Id]);obtain⟨D,E,rfl,_,_,_⟩:=j.i;obtain⟨A,C,rfl,_,_,_⟩:=Q.i;clear o L j Q;go_upto_region 7 with fail;obtain⟨i,p⟩:∃ i,wr.alloc (zt #[a.Id,a.P.B,a.P.D,a.P.C,a.P.E,O D a.P.A.length E,O A a.L.length C] 80)=i:=⟨_,rfl⟩;have G:=y6 _ _ 0 _ _ _ (y7 wr (zt #[a.Id,a.P.B,a.P.D,a.P.C,a.P.E,O D a.P.A.length E,O A a.L.length C] 80));have h:=(b8 wr).a (zt #[a.Id,a.P.B,a.P.D,a.P.C,a.P.E,O D a.P.A.length E,O A a.L.length C] 80);rw[p] at G h;rw[p];have c:=aJ t h;have d:=e.r h;have X:=I (by have:=d.size;simp;omega:b.heap.size<=(i.alloc (zt #[a.Id] 3)).heap.size);go_wp2_with (at_builtin;refine r6 _ rfl _ _ 74 rfl b 3 ii _ 1 8 underlying74 ac ad ae af rfl (by decide) _ _ _ rfl (c.alloc _) ⟨i,0,J⟩ 1 1 [Y Z a.Id] rfl rfl (wN _ rfl _ _) (aAw _ _) (by unfold o0;omega) (by omega) X ?_);intro v2 W2 T R ab;obtain⟨a7,a1⟩:=zr ((d.a (zt #[a.Id] 3)).gr R (λag m=>bN c ag m)) (by rw[a5.o,uC];exact T:W2.ownsRow b 3 1 v2 (k+1) (Ad ((s.F.map aH.Id).take (k+1))));clear c T R ab d h G p;go_wp2;go_roundw;exact⟨k+1,by go_num,by omega,a1,a7⟩;simp[intOf];omega
 have L:k=s.F.length:=by omega
 have aa:=z8 k s.F.length;obtain⟨l,h⟩:∃ l,s.F.map aH.Id=l:=⟨_,rfl⟩;have Q:l.length=k:=by rw[<- h,aHC,L]
 have p:∀ n∈l,iF n:=λn i=>by
  rw[<- h] at i;obtain⟨a,o,rfl⟩:=aHd.1 i;exact HP a o
 have c:=t.o;rw[h,aHF (by omega),<- Q] at c;have A:=rP c (λn i=>⟨by have:=(p n i).1;omega,(p n i).2⟩) (by omega);obtain⟨C,D,rfl,_,_,_⟩:=A.i;have a:=(b8 wr).a (zt #[.iface 74 (O C l.length D)] 20);have E:=y6 _ _ 0 _ _ _ (y7 wr (zt #[.iface 74 (O C l.length D)] 20));have d:=HX.r (e.r a);have a7:=I (rJ _ (W.e (K.r d)) wr 1 [.l l] (by simp) (by simp) (by simp) (λT al G=>by
  cases T with
  | zero=>cases G;exact⟨_,E,_,rfl,A.m a,p,by omega⟩
  | succ T=>simp at G))
 obtain⟨a1,X⟩:=zr d (e.r a);have ag:w.heap.size<wr.heap.size:=by have:=e.size;have:=a4.o;omega
 have HJ:=I (by rw[HR.o,h];simp[kK,jO,oR]:(s,Lib.join (jO [.l l]) [32],(0:Int))=eC s kS);clear a E d c A p h L S hk t;subst Q;go_wp2_with fail;refine a7.m ?_;rintro ab w5 ⟨rfl,R⟩;have o:=aO a3 (X.r R);have ai:=y6 _ _ 0 _ _ _ o;have ak:=x4 _ _ 0 _ _ o;have a5:=I (a1.r R);go_wp2_with fail;rw[<- a2.o];exact⟨⟨rfl,rfl⟩,Mn HJ.symm a5 HH (aGi _) _ o⟩
theorem pY.skip {w:y4} {b o m c:Nat} {l:List By} (k:Nat) (hb:b<w.heap.size) (i:l.length=m) (q:m<=c) (p:m<=9223372036854775807) (g:∀ a e,l[a]?=M e->w ⟨b,o+a,J⟩=M (b9 (tx e))) {n d:Nat} (j:n=m-k) (h:d=c-k):pY w (O (M ⟨b,o+k,J⟩) n d) (l.drop k):=by
 subst j h i;refine⟨b,o+k,c-k,by simp,hb,by simp;omega,by simp;omega,λa e f=>?_⟩;rw[aGG] at f;rw[aGB];exact g (k+a) e f
theorem nW {b:Bool} (n:Int) (w:y4) (c:b=false:=by first|rfl|(simp;done)|(simp;omega)):y8 prog 40 #[zx b,n] w λa d=>a=zu (iB n)/\d=w:=vS c n w
theorem jR {s:aG} {ws:List By} {sk:Nat} (b:(if nS (ws.getD 0 []) then 2 else 1)=sk) (a:ws.length<=sk):kQ s ws=(s,[],1):=by
 unfold kQ;rw[b,c7 a]
theorem lG {s:aG} {ws:List By} {sk:Nat} (b:(if nS (ws.getD 0 []) then 2 else 1)=sk) (a:¬ ws.length<=sk) (c:cS (ws.drop sk)=J):kQ s ws=(s,[],1):=by
 unfold kQ;rw[b,d8 a,c]
theorem lF {s:aG} {ws:List By} {sk:Nat} {l:List Int} (b:(if nS (ws.getD 0 []) then 2 else 1)=sk) (a:¬ ws.length<=sk) (c:cS (ws.drop sk)=M l):kQ s ws=jJ s (ws.getD 0 []) (ws.getD 1 []) l:=by
 unfold kQ;rw[b,d8 a,c]
theorem aCW (s:By):I64 (jE s):=by
 unfold jE I64
 repeat' split
 all_goals omega
theorem aAI (w0 w:y4) (hw:gC w0) (an:d7 w0 w) (B:Nat) (bz:w0<=B) (s:aG) (u v:y5) (h:fF B w s u v) (hs:aI s=0) (x:By) (cv:x.length<=4096) (ba:x≠kS) :
  y8 prog 13 #[zz (M ⟨B,0,J⟩),b9 (tx x)] w (Vw B w s (dJ s x)):=by
 have cz:∀ (fn:Fn) (first ci:Array y5) (w:y4),(Instr.makeFunc fn first ci).run prog w=.ok (.func fn first ci) w:=λ_ _ _ _=>rfl;have bm:B<w.heap.size:=(aGq.1 h.1).1;have q0:=Ih (s:=x) (l:=[98,111,111,107,115]) ba;obtain⟨wa,bQ⟩:∃ wa,w.alloc (zt #[b9 (⟨#[]⟩:ByteArray)] 9)=wa:=⟨_,rfl⟩;have hr:=y7 w (zt #[b9 (⟨#[]⟩:ByteArray)] 9);have bw:=(b8 w).a (zt #[b9 (⟨#[]⟩:ByteArray)] 9);have cl:wa.heap.size=w.heap.size+1:=by rw[<- bQ];simp
 have c5:=Ym (x:=x) hw an bz bm h hs;rw[bQ] at hr bw c5;obtain⟨bd,SP⟩:=zr cl (aEx wa (hw.e (an.r bw)) x cv)
 go_enter_defers func13,ntmps13
 refine wp_mono ?_ c5;have cj:eC s x=kQ s (fA x):=by unfold eC;rw[d8 ba]
 rw[cj];generalize c4:Ox _ _ _ _=QQ;obtain⟨A,T,HX,HH,ao,cf,b2,b3⟩:=zi c4 (h.e bw) bw h hr bQ (λj (hy:j∈fA x)=>show j.length<=4096 from by have:=sH x [] j hy;simp at this;omega) (by have:=pM x [];show (eA [] x).length<=4097;omega:(fA x).length<=4097);have c9:fA x≠[]:=vE x [];obtain⟨ws,cm⟩:∃ ws,fA x=ws:=⟨_,rfl⟩;rw[cm] at b2 b3 SP c9 c4 A;obtain⟨f0,c6⟩:∃ f0,ws[0]?=M f0:=by
  cases ws with
  | nil=>exact absurd rfl c9
  | cons a ar=>exact⟨a,rfl⟩
 obtain⟨az,b0⟩:=zr (by rw[aGW,c6];rfl:ws.getD 0 []=f0) c6;obtain⟨r,cw,B2,cg,bx,cx,co,a,hC,bg,hL,hX,hT,hN,hA,cs⟩:=cls f0;clear c4 c5 h bQ bw hr cl cj c9 cm c6 ba;go_upto_region 2 with fail;rw[cf.o];go_wp2_with fail;refine SP.m ?_;rintro c w1 ⟨v1,rfl,ct,i⟩;obtain⟨wb,wo,wc,rfl,bh,b5,b6,cb⟩:=ct;have aa:=I cb;obtain⟨g,hm⟩:∃ g,ws.length=g:=⟨_,rfl⟩;rw[hm] at b5 b6;rw[hm];have m:=I hm;have c1:=cb 0 f0 b0;rw[aGM] at c1;have cy:0<g:=by have:=(aGw.1 b0).1;omega
 have bf:=I i;clear hm cb i;have br:=(b8 w1).a (zt #[b9 (⟨#[]⟩:ByteArray),b9 (⟨#[97,108,108]⟩:ByteArray),b9 (⟨#[97,110,121]⟩:ByteArray),b9 (⟨#[111,114,100,101,114]⟩:ByteArray),b9 (⟨#[116,105,103,104,116]⟩:ByteArray)] 9);have ch:=br.c c1;have IX:=I (aDw _ w1 f0 (y7 w1 _));go_wp2_with fail;refine IX.m ?_;rintro c w3 ⟨⟨n,rfl,bp,ck⟩,cu⟩;obtain rfl:=cu.symm;obtain⟨w2,ca⟩:∃ w2,w1.alloc (zt #[b9 (⟨#[]⟩:ByteArray),b9 (⟨#[97,108,108]⟩:ByteArray),b9 (⟨#[97,110,121]⟩:ByteArray),b9 (⟨#[111,114,100,101,114]⟩:ByteArray),b9 (⟨#[116,105,103,104,116]⟩:ByteArray)] 9)=w2:=⟨_,rfl⟩;rw[ca] at br ch;rw[ca];obtain⟨bk,al⟩:=zr (bf.r br) (Vy _ w2 f0 (y7 w2 _));have X:=I (bk.r ((b8 w2).a (zt #[b9 (⟨#[99,104,97,110,103,101]⟩:ByteArray),b9 (⟨#[98,117,115,121]⟩:ByteArray),b9 (⟨#[108,101,102,116]⟩:ByteArray)] 9)));have c2:=((b8 w2).a (zt #[b9 (⟨#[99,104,97,110,103,101]⟩:ByteArray),b9 (⟨#[98,117,115,121]⟩:ByteArray),b9 (⟨#[108,101,102,116]⟩:ByteArray)] 9)).c ch;obtain⟨U,HA,ce,ai,cn⟩:=zm (by rw[az.o,hN]:(if nS (ws.getD 0 []) then 2 else 1)=(if co then 2 else 1)) hA br bp ck;clear br c1 ca IX SP cf hA bp ck hN;obtain⟨wq,bR⟩:∃ wq,w2.alloc (zt #[b9 (⟨#[99,104,97,110,103,101]⟩:ByteArray),b9 (⟨#[98,117,115,121]⟩:ByteArray),b9 (⟨#[108,101,102,116]⟩:ByteArray)] 9)=wq:=⟨_,rfl⟩;rw[bR] at X;obtain⟨bc,be⟩:=zr (ce.r (bR▸(b8 w2).a (zt #[b9 (⟨#[99,104,97,110,103,101]⟩:ByteArray),b9 (⟨#[98,117,115,121]⟩:ByteArray),b9 (⟨#[108,101,102,116]⟩:ByteArray)] 9):d7 w2 wq)) bR;clear bR;rcases cs with h|h|h|h|h|h|h <;> cases h
 ·as_aux_lemma=>
  have hn:n>0:=ai.2 (of_decide_eq_true a);have a7:=I (λ(h:g<=2)=>jR (s:=s) (ws:=ws) (sk:=2) U (by rw[m.o];exact h));have L:=ce;clear ai al a;go_wp2_with fail;refine(dE _ _).m ?_;rintro c H ⟨rfl,d⟩;obtain rfl:=d.symm;by_cases af:g<=2
  ·have W:¬ (g:Int)>2:=by omega
   by_cases ag:g=2
   ·have e2:((g:Int) == 2)=true:=by simp;omega
    clear ag;go_wp2_with fail;refine(nW _ _).m ?_;rintro c H ⟨rfl,d⟩;obtain rfl:=d.symm;rw[<- A.o];exact⟨⟨rfl,rfl⟩,dU.at (a7 af) (by decide) bk⟩
   have e2:((g:Int) == 2)=false:=by simp;omega
   clear ag;go_wp2_with fail;refine(nW _ _).m ?_;rintro c H ⟨rfl,d⟩;obtain rfl:=d.symm;rw[<- A.o];exact⟨⟨rfl,rfl⟩,dU.at (a7 af) (by decide) bk⟩
  have W:(g:Int)>2:=by omega
  go_wp2_with fail;refine(dE _ _).m ?_;rintro c H ⟨rfl,d⟩;obtain rfl:=d.symm;have NM:=I (tV w2 (hw.e (an.r (HX.r bk))) _ (ws.drop 2) (pY.skip 2 (aGs bh L.size) m b5 b6 (λak x hj=>L.c (aa ak x hj)) rfl rfl) (λj hy=>b2 j (aI3 hy)) (by rw[aI4,m.o];have:=m.o▸b3.o;omega));go_wp2_with fail;refine NM.m ?_;rintro c p ⟨C,F⟩;obtain⟨e,ac⟩:=zr (bk.r C) (L.r C);clear C;cases z:cS (ws.drop 2) with
  | none=>
   rw[z] at F;obtain rfl:=F;rw[<- A.o];exact⟨⟨rfl,rfl⟩,dU.at (lG (sk:=2) U (by rw[m.o];omega) z) (by decide) e⟩
  | some l=>
   rw[z] at F;obtain⟨lv,rfl,R⟩:=F;have y:=I (lF (s:=s) (sk:=2) U (by rw[m.o];omega) z);rw[az.o,HA.o] at y;simp only[cond_true,cond_false] at y;clear z;have ae:1<g:=by omega
   obtain⟨K,ad⟩:=aV (f:=ws) (k:=1) (by rw[m.o];exact ae);have c3:=ac.c (aa 1 K ad);have ab:=ac.c (aa 0 f0 b0);rw[aGM] at ab;rw[show ws.getD 1 []=K from by rw[aGW,ad];rfl] at y;clear ad c2 af;have E:=cn hn;have N:I64 n:=by rw[E];exact aCW f0
   rw[<- E] at y;clear E;have P:=I (aAk w0 p hw (an.r (HX.r e)) B bz s u v (T.e e) n K lv l R N);obtain⟨la,lc,rfl,_,_,_⟩:=R.i;clear R N;go_wp2_with fail;refine P.m ?_;rintro c G ⟨hk,o⟩;by_cases D:(cK s n K l).2.2=0
   ·rw[c7 D] at o;obtain⟨rfl,u2,Q,a5⟩:=o;have aq:=aO ao e;have aj:=hk.at aq (by omega);have bu:=y6 _ _ 0 _ _ _ aj;have bv:=x4 _ _ 0 _ _ aj;obtain⟨b1,HK,bi⟩:=zq a5 hk aq;clear a5 hk aq aj;go_wp2_with fail;rw[<- A.o,y.o];exact⟨⟨rfl,rfl⟩,Kq D rfl (HX.r e) HK b1 bm (aGi _) (by have:=e.size;have:=bd.o;omega) _ bi⟩
   rw[d8 D] at o;obtain⟨rfl,hx⟩:=o;rw[<- A.o,y.o];exact⟨⟨rfl,rfl⟩,D,rfl,e.r hx⟩
 ·as_aux_lemma=>
  have hn:¬ n>0:=λh=>absurd (ai.1 h) (of_decide_eq_false a);have bq:decide (0<n)=false:=decide_eq_false hn;have a7:=I (λ(h:g<=2)=>jR (s:=s) (ws:=ws) (sk:=2) U (by rw[m.o];exact h));have P:=al.o;rw[hC,bg,hL] at P;have au:=I P;clear P;clear ai al a
  go_wp2_with fail;refine au.m ?_;rintro c H ⟨rfl,d⟩;obtain rfl:=d.symm;rw[be.o] at c2 ⊢;have L:=bc
  try simp only[Bool.or_true,Bool.true_or,Bool.or_false,Bool.false_or]
  go_wp2_with fail;refine(dE _ _).m ?_;rintro c H ⟨rfl,d⟩;obtain rfl:=d.symm;by_cases af:g<=2
  ·have W:¬ (g:Int)>2:=by omega
   by_cases ag:g=2
   ·have e2:((g:Int) == 2)=true:=by simp;omega
    clear ag;go_wp2_with fail;refine(nW _ _).m ?_;rintro c H ⟨rfl,d⟩;obtain rfl:=d.symm;rw[<- A.o];exact⟨⟨rfl,rfl⟩,dU.at (a7 af) (by decide) X⟩
   have e2:((g:Int) == 2)=false:=by simp;omega
   clear ag;go_wp2_with fail;refine(nW _ _).m ?_;rintro c H ⟨rfl,d⟩;obtain rfl:=d.symm;rw[<- A.o];exact⟨⟨rfl,rfl⟩,dU.at (a7 af) (by decide) X⟩
  have W:(g:Int)>2:=by omega
  go_wp2_with fail;refine(dE _ _).m ?_;rintro c H ⟨rfl,d⟩;obtain rfl:=d.symm;have NM:=I (tV wq (hw.e (an.r (HX.r X))) _ (ws.drop 2) (pY.skip 2 (aGs bh L.size) m b5 b6 (λak x hj=>L.c (aa ak x hj)) rfl rfl) (λj hy=>b2 j (aI3 hy)) (by rw[aI4,m.o];have:=m.o▸b3.o;omega));go_wp2_with fail;refine NM.m ?_;rintro c p ⟨C,F⟩;obtain⟨e,ac⟩:=zr (X.r C) (L.r C);clear C;cases z:cS (ws.drop 2) with
  | none=>
   rw[z] at F;obtain rfl:=F;rw[<- A.o];exact⟨⟨rfl,rfl⟩,dU.at (lG (sk:=2) U (by rw[m.o];omega) z) (by decide) e⟩
  | some l=>
   rw[z] at F;obtain⟨lv,rfl,R⟩:=F;have y:=I (lF (s:=s) (sk:=2) U (by rw[m.o];omega) z);rw[az.o,HA.o] at y;simp only[cond_true,cond_false] at y;clear z;have ae:1<g:=by omega
   obtain⟨K,ad⟩:=aV (f:=ws) (k:=1) (by rw[m.o];exact ae);have c3:=ac.c (aa 1 K ad);have ab:=ac.c (aa 0 f0 b0);rw[aGM] at ab;rw[show ws.getD 1 []=K from by rw[aGW,ad];rfl] at y;clear ad c2 af;have E:=I (aB3 w0 p hw (an.r (HX.r e)) B bz s u v (T.e e) K lv l R);obtain⟨la,lc,rfl,_,_,_⟩:=R.i;clear R;go_wp2_with fail;refine E.m ?_;rintro c G ⟨hk,o⟩;by_cases D:(dS s K l).2.2=0
   ·rw[c7 D] at o;obtain⟨rfl,u2,Q,a5⟩:=o;have aq:=aO ao e;have aj:=hk.at aq (by omega);have bu:=y6 _ _ 0 _ _ _ aj;have bv:=x4 _ _ 0 _ _ aj;obtain⟨b1,HK,bi⟩:=zq a5 hk aq;clear a5 hk aq aj;go_wp2_with fail;rw[<- A.o,y.o];exact⟨⟨rfl,rfl⟩,Kq D rfl (HX.r e) HK b1 bm (aGi _) (by have:=e.size;have:=bd.o;omega) _ bi⟩
   rw[d8 D] at o;obtain⟨rfl,hx⟩:=o;rw[<- A.o,y.o];exact⟨⟨rfl,rfl⟩,D,rfl,e.r hx⟩
 ·as_aux_lemma=>
  have hn:¬ n>0:=λh=>absurd (ai.1 h) (of_decide_eq_false a);have bq:decide (0<n)=false:=decide_eq_false hn;have a7:=I (λ(h:g<=2)=>jR (s:=s) (ws:=ws) (sk:=2) U (by rw[m.o];exact h));have P:=al.o;rw[hC,bg,hL] at P;have au:=I P;clear P;clear ai al a
  go_wp2_with fail;refine au.m ?_;rintro c H ⟨rfl,d⟩;obtain rfl:=d.symm;rw[be.o] at c2 ⊢;have L:=bc
  try simp only[Bool.or_true,Bool.true_or,Bool.or_false,Bool.false_or]
  go_wp2_with fail;refine(dE _ _).m ?_;rintro c H ⟨rfl,d⟩;obtain rfl:=d.symm;by_cases af:g<=2
  ·have W:¬ (g:Int)>2:=by omega
   by_cases ag:g=2
   ·have e2:((g:Int) == 2)=true:=by simp;omega
    clear ag;go_wp2_with fail;refine(nW _ _).m ?_;rintro c H ⟨rfl,d⟩;obtain rfl:=d.symm;rw[<- A.o];exact⟨⟨rfl,rfl⟩,dU.at (a7 af) (by decide) X⟩
   have e2:((g:Int) == 2)=false:=by simp;omega
   clear ag;go_wp2_with fail;refine(nW _ _).m ?_;rintro c H ⟨rfl,d⟩;obtain rfl:=d.symm;rw[<- A.o];exact⟨⟨rfl,rfl⟩,dU.at (a7 af) (by decide) X⟩
  have W:(g:Int)>2:=by omega
  go_wp2_with fail;refine(dE _ _).m ?_;rintro c H ⟨rfl,d⟩;obtain rfl:=d.symm;have NM:=I (tV wq (hw.e (an.r (HX.r X))) _ (ws.drop 2) (pY.skip 2 (aGs bh L.size) m b5 b6 (λak x hj=>L.c (aa ak x hj)) rfl rfl) (λj hy=>b2 j (aI3 hy)) (by rw[aI4,m.o];have:=m.o▸b3.o;omega));go_wp2_with fail;refine NM.m ?_;rintro c p ⟨C,F⟩;obtain⟨e,ac⟩:=zr (X.r C) (L.r C);clear C;cases z:cS (ws.drop 2) with
  | none=>
   rw[z] at F;obtain rfl:=F;rw[<- A.o];exact⟨⟨rfl,rfl⟩,dU.at (lG (sk:=2) U (by rw[m.o];omega) z) (by decide) e⟩
  | some l=>
   rw[z] at F;obtain⟨lv,rfl,R⟩:=F;have y:=I (lF (s:=s) (sk:=2) U (by rw[m.o];omega) z);rw[az.o,HA.o] at y;simp only[cond_true,cond_false] at y;clear z;have ae:1<g:=by omega
   obtain⟨K,ad⟩:=aV (f:=ws) (k:=1) (by rw[m.o];exact ae);have c3:=ac.c (aa 1 K ad);have ab:=ac.c (aa 0 f0 b0);rw[aGM] at ab;rw[show ws.getD 1 []=K from by rw[aGW,ad];rfl] at y;clear ad c2 af;obtain⟨ua,un,uc,va,vn,vc,rfl,rfl⟩:=T.i;obtain⟨la,lc,e8,_,_,_⟩:=R.i;obtain⟨a6,hz⟩:∃ a6,l.length=a6:=⟨_,rfl⟩;rw[hz] at e8;subst e8;by_cases ax:a6=1;rotate_left
   ·have e3:((a6:Int) == 1)=false:=by simp;omega
    go_wp2_with fail;refine(nW _ _).m ?_;rintro c G ⟨rfl,ah⟩;obtain rfl:=ah.symm;rw[<- A.o];exact⟨⟨rfl,rfl⟩,dU.at (y.trans (by unfold lT;rw[c7 (by rw[hz];exact ax)])) (by decide) e⟩
   subst ax;obtain⟨D,rfl⟩:∃ D,l=[D]:=by
    match l,hz with
    | [j],_=>exact⟨j,rfl⟩
   obtain⟨lb,lo,cd,e8,_,c8,av⟩:=eM R (by simp);obtain⟨N,cc⟩:=av 0 D rfl;rw[aGM] at N;cases e8;clear av hz R;go_wp2_with fail;refine(dE _ _).m ?_;rintro c G ⟨rfl,ah⟩;obtain rfl:=ah.symm;obtain⟨TQ,am⟩:=zr (oS p B s _ _ (T.e e) K) (λ(ar:kT) (h:(if cT s.K K<0 then(s,[],6) else(λj:Int × Int=>if j.2=0 then(s,Lib.itoa j.1,0) else(s,[],j.2)) (kZ s (cT s.K K) D))=ar)=>(y.trans (by unfold lT;rw[d8 (by simp)];exact h:lT kZ s K [D]=ar)));clear y;generalize cT s.K K=qi at *;go_wp2_with fail;refine TQ.m ?_;rintro c G ⟨aw,o⟩;by_cases bt:0<=qi;rotate_left
   ·rw[d8 bt] at o;obtain rfl:=o;rw[<- A.o];exact⟨⟨rfl,rfl⟩,dU.at (am _ (c7 (by omega))) (by decide) (e.r aw)⟩
   rw[c7 bt] at o;obtain rfl:=o;have a8:=I (e.r aw);have cq:=aw.c ab;have d6:=aw.c N;have bj:=I (am _ (d8 (by omega)));clear aw ab N am;have b4:lb≠w:=λc=>by
    rw[c] at d6;have:=(y6 _ _ lo _ _ _ (aO ao a8)).symm.trans d6;cases lo <;> simp at this
   obtain⟨a0,a1,a2,a3⟩:=(T.e a8).cells;have BU:=I (λ(V:y4) (hx:d7 G V)=>aEL V _ _ s qi D ((T.e (a8.r hx)).2.tree) ((T.e (a8.r hx)).2.books));have bo:=Hq (s:=s) (q:=qi) (t:=D);generalize kZ s qi D=c0 at *;obtain⟨bn,bl⟩:=c0;have TD:=I (λ(V:y4) (hx:d7 wa V)=>Wv V (hw.e (an.r (HX.r hx))) bn bl bo);clear bo;go_wp2_with fail;rw[<- A.o];refine v8 (S:=(λa9=>a9 ⟨B,0,J⟩=M (Y Z s.G)/\a9 ⟨B,1,J⟩=M (Y Z s.H)/\a9 ⟨B,2,J⟩=M (O ua un uc)/\a9 ⟨B,3,J⟩=M (O va vn vc)/\a9 ⟨lb,lo,J⟩=M (Y Z D))) (by kernel_rfl) ⟨(b8 G).dr.c a0,(b8 G).dr.c a1,(b8 G).dr.c a2,(b8 G).dr.c a3,(b8 G).dr.c d6⟩ (λQ=>?_);refine tkH 0 ?_ (hQ:=by exact lqp (by decide));refine tkH 1 ?_ (hQ:=by exact lqp (by decide));refine tkH 2 ?_ (hQ:=by exact lqp (by decide));refine tkH 3 ?_ (hQ:=by exact lqp (by decide));refine tkH 4 ?_ (hQ:=by exact lqp (by decide));refine tkH 5 ?_ (hQ:=by exact lqp (by decide));refine tkH 6 ?_ (hQ:=by exact lqp (by decide));refine tkH 7 ?_ (hQ:=by exact lqp (by decide));refine goH 8 λr a=>?_;simp only[zA,zB,zC];go_simp;refine(BU _ (b8 G).dr).m ?_;rintro c W1 ⟨rfl,ba⟩;have i:d7 G W1:=(b8 G).dr.r ba
   go_wp2_with fail;refine a.out _ _ (⟨i.c a0,i.c a1,i.c a2,i.c a3,i.c d6⟩) λQ=>?_
   clear a r;refine tkH 9 ?_ (hQ:=by exact lqp (by decide));refine tkH 10 ?_ (hQ:=by exact lqp (by decide));refine goH 11 λr a=>?_;simp only[zA,zB,zC];go_simp;refine(TD _ (a8.r i)).m ?_;rintro c W2 ⟨a4,o⟩;by_cases ap:bl=0;rotate_left
   ·rw[d8 ap] at o;obtain rfl:=o;exact⟨⟨rfl,rfl⟩,dU.at (bj.trans (d8 ap)) ap (a8.r (i.r a4))⟩
   rw[c7 ap] at o;obtain rfl:=o;have E:=i.r a4;go_wp2_with fail;refine a.out _ _ (⟨E.c a0,E.c a1,E.c a2,E.c a3,E.c d6⟩) λQ=>?_
   clear a r;have a5:=aO ao (a8.r E);have bu:=y6 _ _ 0 _ _ _ a5;have bv:=x4 _ _ 0 _ _ a5;refine goH 12 λr a=>?_;simp only[zA,zB,zC];go_simp;have st:∀ (k bb:Nat) (j:y5),w≠k->W2 ⟨k,bb,J⟩=M j->(W2.setCell ⟨w,0,J⟩ (b9 (tx (Lib.itoa bn)))) ⟨k,bb,J⟩=M j:=λk bb j h c=>(aHn _ _ _ _ h).trans c;have ay:w≠B:=by omega
   refine a.out _ _ (⟨st _ _ _ ay (E.c a0),st _ _ _ ay (E.c a1),st _ _ _ ay (E.c a2),st _ _ _ ay (E.c a3),st _ _ _ b4.symm (E.c d6)⟩) λQ=>?_
   clear a r;refine dnH ?_;go_wp2_with fail;rw[<- A.o];exact⟨⟨rfl,rfl⟩,Mn (bj.trans (c7 ap)) (HX.r (a8.r E)) HH (aGi _) _ a5⟩
 ·as_aux_lemma=>
  have hn:¬ n>0:=λh=>absurd (ai.1 h) (of_decide_eq_false a);have bq:decide (0<n)=false:=decide_eq_false hn;have a7:=I (λ(h:g<=2)=>jR (s:=s) (ws:=ws) (sk:=2) U (by rw[m.o];exact h));have P:=al.o;rw[hC,bg,hL] at P;have au:=I P;clear P;clear ai al a
  go_wp2_with fail;refine au.m ?_;rintro c H ⟨rfl,d⟩;obtain rfl:=d.symm;rw[be.o] at c2 ⊢;have L:=bc
  try simp only[Bool.or_true,Bool.true_or,Bool.or_false,Bool.false_or]
  go_wp2_with fail;refine(dE _ _).m ?_;rintro c H ⟨rfl,d⟩;obtain rfl:=d.symm;by_cases af:g<=2
  ·have W:¬ (g:Int)>2:=by omega
   by_cases ag:g=2
   ·have e2:((g:Int) == 2)=true:=by simp;omega
    clear ag;go_wp2_with fail;refine(nW _ _).m ?_;rintro c H ⟨rfl,d⟩;obtain rfl:=d.symm;rw[<- A.o];exact⟨⟨rfl,rfl⟩,dU.at (a7 af) (by decide) X⟩
   have e2:((g:Int) == 2)=false:=by simp;omega
   clear ag;go_wp2_with fail;refine(nW _ _).m ?_;rintro c H ⟨rfl,d⟩;obtain rfl:=d.symm;rw[<- A.o];exact⟨⟨rfl,rfl⟩,dU.at (a7 af) (by decide) X⟩
  have W:(g:Int)>2:=by omega
  go_wp2_with fail;refine(dE _ _).m ?_;rintro c H ⟨rfl,d⟩;obtain rfl:=d.symm;have NM:=I (tV wq (hw.e (an.r (HX.r X))) _ (ws.drop 2) (pY.skip 2 (aGs bh L.size) m b5 b6 (λak x hj=>L.c (aa ak x hj)) rfl rfl) (λj hy=>b2 j (aI3 hy)) (by rw[aI4,m.o];have:=m.o▸b3.o;omega));go_wp2_with fail;refine NM.m ?_;rintro c p ⟨C,F⟩;obtain⟨e,ac⟩:=zr (X.r C) (L.r C);clear C;cases z:cS (ws.drop 2) with
  | none=>
   rw[z] at F;obtain rfl:=F;rw[<- A.o];exact⟨⟨rfl,rfl⟩,dU.at (lG (sk:=2) U (by rw[m.o];omega) z) (by decide) e⟩
  | some l=>
   rw[z] at F;obtain⟨lv,rfl,R⟩:=F;have y:=I (lF (s:=s) (sk:=2) U (by rw[m.o];omega) z);rw[az.o,HA.o] at y;simp only[cond_true,cond_false] at y;clear z;have ae:1<g:=by omega
   obtain⟨K,ad⟩:=aV (f:=ws) (k:=1) (by rw[m.o];exact ae);have c3:=ac.c (aa 1 K ad);have ab:=ac.c (aa 0 f0 b0);rw[aGM] at ab;rw[show ws.getD 1 []=K from by rw[aGW,ad];rfl] at y;clear ad c2 af;obtain⟨ua,un,uc,va,vn,vc,rfl,rfl⟩:=T.i;obtain⟨la,lc,e8,_,_,_⟩:=R.i;obtain⟨a6,hz⟩:∃ a6,l.length=a6:=⟨_,rfl⟩;rw[hz] at e8;subst e8;by_cases ax:a6=1;rotate_left
   ·have e3:((a6:Int) == 1)=false:=by simp;omega
    go_wp2_with fail;refine(nW _ _).m ?_;rintro c G ⟨rfl,ah⟩;obtain rfl:=ah.symm;rw[<- A.o];exact⟨⟨rfl,rfl⟩,dU.at (y.trans (by unfold lT;rw[c7 (by rw[hz];exact ax)])) (by decide) e⟩
   subst ax;obtain⟨D,rfl⟩:∃ D,l=[D]:=by
    match l,hz with
    | [j],_=>exact⟨j,rfl⟩
   obtain⟨lb,lo,cd,e8,_,c8,av⟩:=eM R (by simp);obtain⟨N,cc⟩:=av 0 D rfl;rw[aGM] at N;cases e8;clear av hz R;go_wp2_with fail;refine(dE _ _).m ?_;rintro c G ⟨rfl,ah⟩;obtain rfl:=ah.symm;obtain⟨TQ,am⟩:=zr (oS p B s _ _ (T.e e) K) (λ(ar:kT) (h:(if cT s.K K<0 then(s,[],6) else(λj:Int × Int=>if j.2=0 then(s,Lib.itoa j.1,0) else(s,[],j.2)) (kY s (cT s.K K) D))=ar)=>(y.trans (by unfold lT;rw[d8 (by simp)];exact h:lT kY s K [D]=ar)));clear y;generalize cT s.K K=qi at *;go_wp2_with fail;refine TQ.m ?_;rintro c G ⟨aw,o⟩;by_cases bt:0<=qi;rotate_left
   ·rw[d8 bt] at o;obtain rfl:=o;rw[<- A.o];exact⟨⟨rfl,rfl⟩,dU.at (am _ (c7 (by omega))) (by decide) (e.r aw)⟩
   rw[c7 bt] at o;obtain rfl:=o;have a8:=I (e.r aw);have cq:=aw.c ab;have d6:=aw.c N;have bj:=I (am _ (d8 (by omega)));clear aw ab N am;have b4:lb≠w:=λc=>by
    rw[c] at d6;have:=(y6 _ _ lo _ _ _ (aO ao a8)).symm.trans d6;cases lo <;> simp at this
   obtain⟨a0,a1,a2,a3⟩:=(T.e a8).cells;have BU:=I (λ(V:y4) (hx:d7 G V)=>aEH V _ _ s qi D ((T.e (a8.r hx)).2.tree) ((T.e (a8.r hx)).2.books));have bo:=Gl (s:=s) (q:=qi) (t:=D);generalize kY s qi D=c0 at *;obtain⟨bn,bl⟩:=c0;have TD:=I (λ(V:y4) (hx:d7 wa V)=>Wv V (hw.e (an.r (HX.r hx))) bn bl bo);clear bo;go_wp2_with fail;rw[<- A.o];refine v8 (S:=(λa9=>a9 ⟨B,0,J⟩=M (Y Z s.G)/\a9 ⟨B,1,J⟩=M (Y Z s.H)/\a9 ⟨B,2,J⟩=M (O ua un uc)/\a9 ⟨B,3,J⟩=M (O va vn vc)/\a9 ⟨lb,lo,J⟩=M (Y Z D))) (by kernel_rfl) ⟨(b8 G).dr.c a0,(b8 G).dr.c a1,(b8 G).dr.c a2,(b8 G).dr.c a3,(b8 G).dr.c d6⟩ (λQ=>?_);refine tkH 0 ?_ (hQ:=by exact lqp (by decide));refine tkH 1 ?_ (hQ:=by exact lqp (by decide));refine tkH 2 ?_ (hQ:=by exact lqp (by decide));refine tkH 3 ?_ (hQ:=by exact lqp (by decide));refine tkH 4 ?_ (hQ:=by exact lqp (by decide));refine tkH 5 ?_ (hQ:=by exact lqp (by decide));refine tkH 6 ?_ (hQ:=by exact lqp (by decide));refine tkH 7 ?_ (hQ:=by exact lqp (by decide));refine goH 8 λr a=>?_;simp only[zA,zB,zC];go_simp;refine(BU _ (b8 G).dr).m ?_;rintro c W1 ⟨rfl,ba⟩;have i:d7 G W1:=(b8 G).dr.r ba
   go_wp2_with fail;refine a.out _ _ (⟨i.c a0,i.c a1,i.c a2,i.c a3,i.c d6⟩) λQ=>?_
   clear a r;refine tkH 9 ?_ (hQ:=by exact lqp (by decide));refine tkH 10 ?_ (hQ:=by exact lqp (by decide));refine goH 11 λr a=>?_;simp only[zA,zB,zC];go_simp;refine(TD _ (a8.r i)).m ?_;rintro c W2 ⟨a4,o⟩;by_cases ap:bl=0;rotate_left
   ·rw[d8 ap] at o;obtain rfl:=o;exact⟨⟨rfl,rfl⟩,dU.at (bj.trans (d8 ap)) ap (a8.r (i.r a4))⟩
   rw[c7 ap] at o;obtain rfl:=o;have E:=i.r a4;go_wp2_with fail;refine a.out _ _ (⟨E.c a0,E.c a1,E.c a2,E.c a3,E.c d6⟩) λQ=>?_
   clear a r;have a5:=aO ao (a8.r E);have bu:=y6 _ _ 0 _ _ _ a5;have bv:=x4 _ _ 0 _ _ a5;refine goH 12 λr a=>?_;simp only[zA,zB,zC];go_simp;have st:∀ (k bb:Nat) (j:y5),w≠k->W2 ⟨k,bb,J⟩=M j->(W2.setCell ⟨w,0,J⟩ (b9 (tx (Lib.itoa bn)))) ⟨k,bb,J⟩=M j:=λk bb j h c=>(aHn _ _ _ _ h).trans c;have ay:w≠B:=by omega
   refine a.out _ _ (⟨st _ _ _ ay (E.c a0),st _ _ _ ay (E.c a1),st _ _ _ ay (E.c a2),st _ _ _ ay (E.c a3),st _ _ _ b4.symm (E.c d6)⟩) λQ=>?_
   clear a r;refine dnH ?_;go_wp2_with fail;rw[<- A.o];exact⟨⟨rfl,rfl⟩,Mn (bj.trans (c7 ap)) (HX.r (a8.r E)) HH (aGi _) _ a5⟩
 ·as_aux_lemma=>
  have hn:¬ n>0:=λh=>absurd (ai.1 h) (of_decide_eq_false a);have bq:decide (0<n)=false:=decide_eq_false hn;have a7:=I (λ(h:g<=1)=>jR (s:=s) (ws:=ws) (sk:=1) U (by rw[m.o];exact h));have P:=al.o;rw[hC,bg,hL] at P;have au:=I P;clear P;clear ai al a
  go_wp2_with fail;refine au.m ?_;rintro c H ⟨rfl,d⟩;obtain rfl:=d.symm;rw[be.o] at c2 ⊢;have L:=bc
  try simp only[Bool.or_true,Bool.true_or,Bool.or_false,Bool.false_or]
  go_wp2_with fail;refine(dE _ _).m ?_;rintro c H ⟨rfl,d⟩;obtain rfl:=d.symm;by_cases ae:g<=1
  ·have W:¬ (g:Int)>2:=by omega
   have e2:((g:Int) == 2)=false:=by simp;omega
   go_wp2_with fail;refine(nW _ _).m ?_;rintro c H ⟨rfl,d⟩;obtain rfl:=d.symm;rw[<- A.o];exact⟨⟨rfl,rfl⟩,dU.at (a7 ae) (by decide) X⟩
  by_cases ag:g=2;have W:¬ (g:Int)>2:=by omega
  have e2:((g:Int) == 2)=true:=by simp;omega
  rotate_left;have W:(g:Int)>2:=by omega
  all_goals
   clear ag;go_wp2_with fail;refine(dE _ _).m ?_;rintro c H ⟨rfl,d⟩;obtain rfl:=d.symm;have NM:=I (tV wq (hw.e (an.r (HX.r X))) _ (ws.drop 1) (pY.skip 1 (aGs bh L.size) m b5 b6 (λak x hj=>L.c (aa ak x hj)) rfl rfl) (λj hy=>b2 j (aI3 hy)) (by rw[aI4,m.o];have:=m.o▸b3.o;omega));go_wp2_with fail;refine NM.m ?_;rintro c p ⟨C,F⟩;obtain⟨e,ac⟩:=zr (X.r C) (L.r C);clear C;cases z:cS (ws.drop 1) with
   | none=>
    rw[z] at F;obtain rfl:=F;rw[<- A.o];exact⟨⟨rfl,rfl⟩,dU.at (lG (sk:=1) U (by rw[m.o];omega) z) (by decide) e⟩
   | some l=>
    rw[z] at F;obtain⟨lv,rfl,R⟩:=F;have y:=I (lF (s:=s) (sk:=1) U (by rw[m.o];omega) z);rw[az.o,HA.o] at y;simp only[cond_true,cond_false] at y;clear z;have ab:=ac.c (aa 0 f0 b0);rw[aGM] at ab;clear c2;obtain⟨ua,un,uc,va,vn,vc,rfl,rfl⟩:=T.i;obtain⟨la,lc,e8,_,_,_⟩:=R.i;obtain⟨a6,hz⟩:∃ a6,l.length=a6:=⟨_,rfl⟩;rw[hz] at e8;subst e8;by_cases ax:a6=1;rotate_left
    ·have e3:((a6:Int) == 1)=false:=by simp;omega
     go_wp2_with fail;refine(nW _ _).m ?_;rintro c G ⟨rfl,ah⟩;obtain rfl:=ah.symm;rw[<- A.o];exact⟨⟨rfl,rfl⟩,dU.at (y.trans (by unfold gH;rw[c7 (by rw[hz];exact ax)])) (by decide) e⟩
    subst ax;obtain⟨D,rfl⟩:∃ D,l=[D]:=by
     match l,hz with
     | [j],_=>exact⟨j,rfl⟩
    obtain⟨lb,lo,cd,e8,_,c8,av⟩:=eM R (by simp);obtain⟨N,cc⟩:=av 0 D rfl;rw[aGM] at N;cases e8;clear av hz R;go_wp2_with fail;refine(dE _ _).m ?_;rintro c G ⟨rfl,ah⟩;obtain rfl:=ah.symm;have b4:lb≠w:=λc=>by
     rw[c] at N;have:=(y6 _ _ lo _ _ _ (aO ao e)).symm.trans N;cases lo <;> simp at this
    clear b4;obtain⟨a0,a1,a2,a3⟩:=(T.e e).cells;obtain⟨CA,am⟩:=zr (λ(V:y4) (hx:d7 p V)=>aBv V _ _ s D ((T.e (e.r hx)).2.tree) ((T.e (e.r hx)).2.books)) (λ(ar:kT) (h:(λj:aG × Int=>if j.2=0 then(j.1,wOk,0) else(s,[],j.2)) (fR s D)=ar)=>(y.trans (by unfold gH;rw[d8 (by simp)];exact h:gH s [D]=ar)));clear y;generalize fR s D=cr at *;obtain⟨S,er⟩:=cr;go_upto_region 30 with fail
    go_cut [14,15] from 172 to 181 (λK c V=>∃ (bx:Nat) (u v:y5),K=zz (M ⟨bx,0,J⟩)/\c=Y Z er/\Hid (V.heap[bx]?=M (zt #[S.G,S.H,u,v] 34 (0,0)))/\Hid (StS p V u v S)/\Hid (d7 p V))
    case first=>
     rw[<- A.o];refine v8 (S:=(λa9=>a9 ⟨B,0,J⟩=M (Y Z s.G)/\a9 ⟨B,1,J⟩=M (Y Z s.H)/\a9 ⟨B,2,J⟩=M (O ua un uc)/\a9 ⟨B,3,J⟩=M (O va vn vc)/\a9 ⟨lb,lo,J⟩=M (Y Z D))) (by kernel_rfl) ⟨(b8 p).dr.c a0,(b8 p).dr.c a1,(b8 p).dr.c a2,(b8 p).dr.c a3,(b8 p).dr.c N⟩ (λQ=>?_);refine tkH 0 ?_ (hQ:=by exact lqp (by decide));refine tkH 1 ?_ (hQ:=by exact lqp (by decide));refine tkH 2 ?_ (hQ:=by exact lqp (by decide));refine tkH 3 ?_ (hQ:=by exact lqp (by decide));refine tkH 4 ?_ (hQ:=by exact lqp (by decide));refine tkH 5 ?_ (hQ:=by exact lqp (by decide));refine tkH 6 ?_ (hQ:=by exact lqp (by decide));refine wpAnyH_ready (rs:=[7,11]) (by kernel_rfl) (by simp) ?_;refine AllReadyH.cons rfl (λr a=>?_) (AllReadyH.cons rfl (λr a=>?_) AllReadyH.nil)
     all_goals simp only[zA,zB,zC]
     ·go_simp;refine(CA _ (b8 p).dr).m ?_;rintro c W1 ⟨u1,v1,rfl,K,i⟩;obtain⟨xa,xc,W,_⟩:=K.tree.i;obtain⟨ya,yc,e2,_⟩:=K.books.i;subst W e2;have i:d7 p W1:=(b8 p).dr.r i;go_wp2_with fail;refine a.out _ _ (⟨i.c a0,i.c a1,i.c a2,i.c a3,i.c N⟩) λQ=>?_
      clear a r;refine tkH 8 ?_ (hQ:=by exact lqp (by decide));refine tkH 9 ?_ (hQ:=by exact lqp (by decide));refine tkH 10 ?_ (hQ:=by exact lqp (by decide));refine goH 11 λr a=>?_;simp only[zA,zB,zC];go_simp;have hn:=y7 W1 (zt #[Y Z 0,Y Z 0,O J 0 0,O J 0 0] 34);have a4:=i.a (zt #[Y Z 0,Y Z 0,O J 0 0,O J 0 0] 34);refine a.out _ _ (⟨a4.c a0,a4.c a1,a4.c a2,a4.c a3,a4.c N⟩) λQ=>?_
      clear a r;refine goH 12 λr a=>?_;simp only[zA,zB,zC];rw[c7 (by rfl)];refine o7 34 _ _ rfl W1 #[S.G,S.H,O xa S.K.length xc,O ya S.F.length yc] rfl rfl 34 _ hn size34 rfl (by simp[aGr]) ?_;have C:=a4.sr (b:=W1) i.size #[S.G,S.H,O xa S.K.length xc,O ya S.F.length yc];refine a.out _ _ (⟨C.c a0,C.c a1,C.c a2,C.c a3,C.c N⟩) λQ=>?_
      clear a r;refine tkH 13 ?_ (hQ:=by exact lqp (by decide));refine dnH ?_;go_wp2_with fail;go_meet
      case rel=>exact⟨W1,_,_,rfl,rfl,I (x5 _ _ _ _ _ _ hn),I (K.boxed (aGi _) ((b8 W1).a _) (aQ _ _ _)),I C⟩
     go_simp;have hn:((p.alloc (zt #[Y Z 0,Y Z 0,O J 0 0,O J 0 0] 34)).drew).heap[p.heap.size]?=M (zt #[Y Z 0,Y Z 0,O J 0 0,O J 0 0] 34 (0,0)):=y7 p (zt #[Y Z 0,Y Z 0,O J 0 0,O J 0 0] 34);have a4:=((b8 p).a (zt #[Y Z 0,Y Z 0,O J 0 0,O J 0 0] 34)).dr;refine a.out _ _ (⟨a4.c a0,a4.c a1,a4.c a2,a4.c a3,a4.c N⟩) λQ=>?_
     clear a r;refine goH 7 λr a=>?_;simp only[zA,zB,zC];go_simp;refine(CA _ a4).m ?_;rintro c W1 ⟨u1,v1,rfl,K,i⟩;obtain⟨xa,xc,W,_⟩:=K.tree.i;obtain⟨ya,yc,e2,_⟩:=K.books.i;subst W e2;have bp:=aO hn i;have i:d7 p W1:=a4.r i
     go_wp2_with fail;refine a.out _ _ (⟨i.c a0,i.c a1,i.c a2,i.c a3,i.c N⟩) λQ=>?_
     clear a r;refine tkH 8 ?_ (hQ:=by exact lqp (by decide));refine tkH 9 ?_ (hQ:=by exact lqp (by decide));refine tkH 10 ?_ (hQ:=by exact lqp (by decide));refine goH 12 λr a=>?_;simp only[zA,zB,zC];rw[c7 (by rfl)];refine o7 34 _ _ rfl p #[S.G,S.H,O xa S.K.length xc,O ya S.F.length yc] rfl rfl 34 _ bp size34 rfl (by simp[aGr]) ?_;have C:=i.sr (b:=p) (aGi _) #[S.G,S.H,O xa S.K.length xc,O ya S.F.length yc];refine a.out _ _ (⟨C.c a0,C.c a1,C.c a2,C.c a3,C.c N⟩) λQ=>?_
     clear a r;refine tkH 13 ?_ (hQ:=by exact lqp (by decide));refine dnH ?_;go_wp2_with fail;go_meet
     case rel=>exact⟨p,_,_,rfl,rfl,I (x5 _ _ _ _ _ _ bp),I ((K.past (aQ _ _ _) (by simp)).sink (by simp)),I C⟩
    obtain⟨bx,u1,v1,rfl,rfl,ad,a9,bf⟩:=hcut;have K:=a9.o;obtain⟨xa,xc,W,_⟩:=K.tree.i;obtain⟨ya,yc,e2,_⟩:=K.books.i;subst W e2;have hX:=ad.o;obtain⟨x0,x1,x2,x3⟩:=(⟨y6 _ _ 0 _ _ _ hX,y6 _ _ 1 _ _ _ hX,y6 _ _ 2 _ _ _ hX,y6 _ _ 3 _ _ _ hX⟩:_/\_/\_/\_);have TU:=I (Cj _ B p (by have:=e.size;have:=bd.o;omega) s S _ _ _ _ 0 er (T.e (e.r bf)) a9);clear K hX a0 a1 a2 a3 N ab;go_wp2_with fail;refine TU.m ?_;rintro c w7 o;unfold Hw at o;by_cases a4:er=0;rotate_left
    ·rw[d8 a4] at o;obtain⟨rfl,a8⟩:=o;rw[<- A.o];exact⟨⟨rfl,rfl⟩,dU.at (am _ (d8 a4)) a4 (e.r (bf.r a8))⟩
    rw[c7 a4] at o;obtain⟨rfl,hk,a5⟩:=o;have aq:=aO ao (e.r bf);have aj:=hk.at aq (by omega);have bu:=y6 _ _ 0 _ _ _ aj;have bv:=x4 _ _ 0 _ _ aj;obtain⟨b1,HK,bi⟩:=zq a5 hk (aO ao e);clear a5 hk aq aj x0 x1 x2 x3;go_wp2_with fail;rw[<- A.o,am _ (c7 a4)];exact⟨⟨rfl,rfl⟩,Kq (w1:=p) rfl rfl (HX.r e) ((KT.e bf).r HK) b1 bm (aGi _) (by have:=e.size;have:=bd.o;omega) _ bi⟩
 ·as_aux_lemma=>
  have hn:¬ n>0:=λh=>absurd (ai.1 h) (of_decide_eq_false a);have bq:decide (0<n)=false:=decide_eq_false hn;have a7:=I (λ(h:g<=1)=>jR (s:=s) (ws:=ws) (sk:=1) U (by rw[m.o];exact h));have P:=al.o;rw[hC,bg,hL] at P;have au:=I P;clear P;clear ai al a
  go_wp2_with fail;refine au.m ?_;rintro c H ⟨rfl,d⟩;obtain rfl:=d.symm;rw[be.o] at c2 ⊢;have L:=bc
  try simp only[Bool.or_true,Bool.true_or,Bool.or_false,Bool.false_or]
  go_wp2_with fail;refine(dE _ _).m ?_;rintro c H ⟨rfl,d⟩;obtain rfl:=d.symm;by_cases ae:g<=1
  ·have W:¬ (g:Int)>2:=by omega
   have e2:((g:Int) == 2)=false:=by simp;omega
   go_wp2_with fail;refine(nW _ _).m ?_;rintro c H ⟨rfl,d⟩;obtain rfl:=d.symm;rw[<- A.o];exact⟨⟨rfl,rfl⟩,dU.at (a7 ae) (by decide) X⟩
  by_cases ag:g=2;have W:¬ (g:Int)>2:=by omega
  have e2:((g:Int) == 2)=true:=by simp;omega
  rotate_left;have W:(g:Int)>2:=by omega
  all_goals
   clear ag;go_wp2_with fail;refine(dE _ _).m ?_;rintro c H ⟨rfl,d⟩;obtain rfl:=d.symm;have NM:=I (tV wq (hw.e (an.r (HX.r X))) _ (ws.drop 1) (pY.skip 1 (aGs bh L.size) m b5 b6 (λak x hj=>L.c (aa ak x hj)) rfl rfl) (λj hy=>b2 j (aI3 hy)) (by rw[aI4,m.o];have:=m.o▸b3.o;omega));go_wp2_with fail;refine NM.m ?_;rintro c p ⟨C,F⟩;obtain⟨e,ac⟩:=zr (X.r C) (L.r C);clear C;cases z:cS (ws.drop 1) with
   | none=>
    rw[z] at F;obtain rfl:=F;rw[<- A.o];exact⟨⟨rfl,rfl⟩,dU.at (lG (sk:=1) U (by rw[m.o];omega) z) (by decide) e⟩
   | some l=>
    rw[z] at F;obtain⟨lv,rfl,R⟩:=F;have y:=I (lF (s:=s) (sk:=1) U (by rw[m.o];omega) z);rw[az.o,HA.o] at y;simp only[cond_true,cond_false] at y;clear z;have ab:=ac.c (aa 0 f0 b0);rw[aGM] at ab;clear c2;obtain⟨ua,un,uc,va,vn,vc,rfl,rfl⟩:=T.i;obtain⟨la,lc,e8,_,_,_⟩:=R.i;obtain⟨a6,hz⟩:∃ a6,l.length=a6:=⟨_,rfl⟩;rw[hz] at e8;subst e8;by_cases ax:a6=1;rotate_left
    ·have e3:((a6:Int) == 1)=false:=by simp;omega
     go_wp2_with fail;refine(nW _ _).m ?_;rintro c G ⟨rfl,ah⟩;obtain rfl:=ah.symm;rw[<- A.o];exact⟨⟨rfl,rfl⟩,dU.at (y.trans (by unfold nF;rw[c7 (by rw[hz];exact ax)])) (by decide) e⟩
    subst ax;obtain⟨D,rfl⟩:∃ D,l=[D]:=by
     match l,hz with
     | [j],_=>exact⟨j,rfl⟩
    obtain⟨lb,lo,cd,e8,_,c8,av⟩:=eM R (by simp);obtain⟨N,cc⟩:=av 0 D rfl;rw[aGM] at N;cases e8;clear av hz R;go_wp2_with fail;refine(dE _ _).m ?_;rintro c G ⟨rfl,ah⟩;obtain rfl:=ah.symm;have b4:lb≠w:=λc=>by
     rw[c] at N;have:=(y6 _ _ lo _ _ _ (aO ao e)).symm.trans N;cases lo <;> simp at this
    clear b4;obtain⟨a0,a1,a2,a3⟩:=(T.e e).cells;obtain⟨CA,am⟩:=zr (λ(V:y4) (hx:d7 p V)=>aEw V _ _ s D ((T.e (e.r hx)).2.tree) ((T.e (e.r hx)).2.books)) (λ(ar:kT) (h:(λj:aG × Int × Int=>if j.2.2=0 then(j.1,Lib.itoa j.2.1,0) else(s,[],j.2.2)) (eZ s D)=ar)=>(y.trans (by unfold nF;rw[d8 (by simp)];exact h:nF s [D]=ar)));clear y;have a9:=Wx s D;generalize eZ s D=cr at *;obtain⟨S,en,er⟩:=cr;have ad:=I a9;have ap:=(b8 p).dr.c a0;have ay:=(b8 p).dr.c a1;have bb:=(b8 p).dr.c a2;have bi:=(b8 p).dr.c a3;have bj:=(b8 p).dr.c N;clear a9;go_wp2_with fail;rw[<- A.o];refine v8 (S:=λ_=>True) (by kernel_rfl) trivial (λQ=>?_);refine tkH 0 ?_ (hQ:=by exact lqp (by decide));refine tkH 1 ?_ (hQ:=by exact lqp (by decide));refine tkH 2 ?_ (hQ:=by exact lqp (by decide));refine tkH 3 ?_ (hQ:=by exact lqp (by decide));refine tkH 5 ?_ (hQ:=by exact lqp (by decide));refine tkH 6 ?_ (hQ:=by exact lqp (by decide));refine wpAnyH_ready (rs:=[4,7]) (by kernel_rfl) (by simp) ?_;refine AllReadyH.cons rfl (λr a=>?_) (AllReadyH.cons rfl (λr a=>?_) AllReadyH.nil)
    all_goals simp only[zA,zB,zC]
    focus
     go_simp;refine a.out _ _ trivial λQ=>?_
     clear a r;refine wpAnyH_ready (rs:=[7]) (by kernel_rfl) (by simp) ?_
    rotate_left
    focus
     go_simp;refine a.out _ _ trivial λQ=>?_
     clear a r;refine wpAnyH_ready (rs:=[4]) (by kernel_rfl) (by simp) ?_
    all_goals
     refine AllReadyH.cons rfl (λr a=>?_) AllReadyH.nil;simp only[zA,zB,zC];go_simp;refine a.out _ _ trivial λQ=>?_
     clear a r;refine goH 8 λr a=>?_;simp only[zA,zB,zC];go_simp;refine(CA _ (b8 p).dr).m ?_;rintro c W1 ⟨u1,v1,rfl,K,i⟩;obtain⟨xa,xc,W,_⟩:=K.tree.i;obtain⟨ya,yc,e2,_⟩:=K.books.i;subst W e2;have i:d7 p W1:=(b8 p).dr.r i;have TU:=I (Cj W1 B p (by have:=e.size;have:=bd.o;omega) s S _ _ _ _ en er (T.e (e.r i)) (K.sink (by simp)))
     go_wp2_with fail;refine a.out _ _ trivial λQ=>?_
     clear a r;refine tkH 9 ?_ (hQ:=by exact lqp (by decide));refine tkH 10 ?_ (hQ:=by exact lqp (by decide));refine tkH 11 ?_ (hQ:=by exact lqp (by decide));refine goH 12 λr a=>?_;simp only[zA,zB,zC];go_simp;refine TU.m ?_;rintro c W2 o;unfold Hw at o;by_cases a4:er=0;rotate_left
     ·rw[d8 a4] at o;obtain⟨rfl,a8⟩:=o;exact⟨⟨rfl,rfl⟩,dU.at (am _ (d8 a4)) a4 (e.r (i.r a8))⟩
     rw[c7 a4] at o;obtain⟨rfl,hk,a5⟩:=o;obtain⟨b1,HK⟩:=zr a5 hk;clear a5 hk;go_wp2_with fail;refine a.out _ _ trivial λQ=>?_
     clear a r;refine tkH 13 ?_ (hQ:=by exact lqp (by decide));refine goH 14 λr a=>?_;simp only[zA,zB,zC];go_simp;have a8:=(b8 W2).a (zt #[.iface 3 (Y Z en)] 20);have af:=y6 _ _ 0 _ _ _ (y7 W2 (zt #[.iface 3 (Y Z en)] 20));have cg:=I (rJ _ (hw.e ((HK.base (an.r (HX.r (e.r i))) bz).r a8)) W2 1 [.n en] (by simp) (by simp) (by simp) (λak bl hj=>by
      cases ak with
      | zero=>cases hj;exact⟨_,af,rfl,ad⟩
      | succ ak=>simp at hj))
     refine a.out _ _ trivial λQ=>?_
     clear a r;refine goH 15 λr a=>?_;simp only[zA,zB,zC];go_simp;refine cg.m ?_;rintro c W3 ⟨rfl,E⟩;have aw:Lib.join (jO [.n en]) [32]=Lib.itoa en:=by simp[jO,oR,Lib.join]
     rw[aw];have E:d7 W2 W3:=a8.r E;go_wp2_with fail;refine a.out _ _ trivial λQ=>?_
     clear a r;have aq:=aO ao (e.r i);have aj:=aO (HK.at aq (by omega)) E;have bu:=y6 _ _ 0 _ _ _ aj;have bv:=x4 _ _ 0 _ _ aj;refine goH 16 λr a=>?_;simp only[zA,zB,zC];go_simp;refine a.out _ _ trivial λQ=>?_
     clear a r;refine dnH ?_;go_wp2_with fail;rw[<- A.o,am _ (c7 a4)];exact⟨⟨rfl,rfl⟩,Kq (w1:=p) rfl rfl (HX.r e) ((KT.e i).r (HK.r (KT.e E))) (b1.e E) bm (aGi _) (by have:=e.size;have:=bd.o;omega) _ (aO ao e)⟩
 as_aux_lemma=>
 have hn:¬ n>0:=λh=>absurd (ai.1 h) (of_decide_eq_false a);have bq:decide (0<n)=false:=decide_eq_false hn;have a7:=I (λ(h:g<=1)=>jR (s:=s) (ws:=ws) (sk:=1) U (by rw[m.o];exact h));have P:=al.o;rw[hC,bg,hL] at P;have au:=I P;clear P;clear ai al a
 go_wp2_with fail;refine au.m ?_;rintro c H ⟨rfl,d⟩;obtain rfl:=d.symm;rw[be.o] at c2 ⊢;have L:=bc
 try simp only[Bool.or_true,Bool.true_or,Bool.or_false,Bool.false_or]
 go_wp2_with fail;refine(nV _ _).m ?_;rintro c H ⟨rfl,d⟩;obtain rfl:=d.symm;have e:kQ s ws=(s,[],1):=by
  by_cases ae:g<=1
  ·exact a7 ae
  cases z:cS (ws.drop 1) with
  | none=>exact lG (sk:=1) U (by rw[m.o];exact ae) z
  | some l=>
   have:=lF (s:=s) (sk:=1) U (by rw[m.o];exact ae) z;rw[az.o,HA.o] at this;simpa only[cond_false] using this
 rw[<- A.o];exact⟨⟨rfl,rfl⟩,dU.at (e) (by decide) X⟩
attribute [local go_sem] Oper.semAt_some
theorem aCh (w0 w:y4) (e:gC w0) (b:d7 w0 w) (B:Nat) (c:w0<=B) (s:aG) (u v:y5) (a:fF B w s u v) (d:aI s=0) (x:By) (g:x.length<=4096) :
  y8 prog 13 #[zz (M ⟨B,0,J⟩),b9 (tx x)] w (Vw B w s (dJ s x)):=by
 by_cases f:x=kS
 ·subst f;exact aAJ w0 w e b B c s u v a d
 exact aAI w0 w e b B c s u v a d x g f
theorem Xa (t:By):Lib.hasSuffix t [10]=decide (t.getLast?=M 10):=by
 unfold Lib.hasSuffix;rw[Bool.eq_iff_iff,List.isSuffixOf_iff_suffix,decide_eq_true_iff];constructor
 ·rintro⟨a,rfl⟩;simp
 intro b;obtain⟨a,c⟩:=List.getLast?_eq_some_iff.1 b;exact⟨a,c.symm⟩
theorem Vu (w:y4) (g:gC w) (q t:By) (f:q.length<=9223372036854775807) (a:(eK q).2≠0):y8 prog 4 #[b9 (tx q),b9 (tx t)] w (oC w (lI q t)):=by
 obtain⟨c,d⟩:=zr (by unfold lI;rw[c7 a]:lI q t=([],(eK q).2)) (Ey w g q f);generalize eK q=i at *;obtain⟨l,e⟩:=i;have k:(e != 0)=true:=by simpa using a
 clear a;go_enter func4,ntmps4;go_wp2_with fail;refine d.m ?_;rintro j p ⟨m,rfl,b,h⟩;obtain⟨n,o,rfl,_,_,_⟩:=b.i;clear b;go_wp2;go_ret2;rw[c.o];exact⟨rfl,h⟩
theorem xZ (t:By) (W:y4):y8 prog 8 #[b9 (tx t),b9 ⟨#[10]⟩] W λa b=>a=zv (Y Z (t.count 10:Nat))/\b=W:=Tryz.strings_Count_one (tx t) 10 W
theorem Ck (t:By) (c:t.length<=9223372036854775807) (W:y4):y8 prog 9 #[b9 (tx t),b9 ⟨#[10]⟩] W λa b=>a=zv (zx (decide (t.getLast?=M 10)))/\b=W:=by
 rw[<- Xa];exact Tryz.strings_HasSuffix (tx t) ⟨#[10]⟩ W (by rw[aP];omega)
theorem aDr (w:y4) (n:gC w) (q t:By) (m:q.length<=9223372036854775807) (v:t.length<=9223372036854775807) (b:(eK q).2=0) (j:4096<t.length\/60<t.count 10):y8 prog 4 #[b9 (tx q),b9 (tx t)] w (oC w (lI q t)):=by
 obtain⟨a,f,e⟩:=zq (Rm b j) (Ey w n q m) (λ(g:y4)=>xZ t g);have x:=aP t;generalize eK q=p at *;obtain⟨l,r⟩:=p;subst b;generalize t.count 10=h at *;go_enter func4,ntmps4;go_wp2_with fail;refine f.m ?_;rintro i B ⟨y,rfl,c,d⟩;obtain⟨z,A,rfl,_,_,_⟩:=c.i;clear c;by_cases s:4096<t.length
 ·have k:(4096:Int)<(t.length:Int):=by omega
  go_wp2;go_ret2;rw[a.o];exact⟨rfl,d⟩
 have k:¬ (4096:Int)<(t.length:Int):=by omega
 have u:(60:Int)<(h:Int):=by omega
 go_wp2_with fail;refine(e _).m ?_;rintro i C ⟨rfl,o⟩;obtain rfl:=o.symm;go_wp2;go_ret2;rw[a.o];exact⟨rfl,d⟩
theorem aDq (w:y4) (o:gC w) (q t:By) (m:q.length<=9223372036854775807) (n:t.length<=9223372036854775807) (e:(eK q).2=0) (f:¬ (4096<t.length\/60<t.count 10)) (c:t≠[]/\t.getLast?≠M 10):y8 prog 4 #[b9 (tx q),b9 (tx t)] w (oC w (lI q t)):=by
 obtain⟨i,j,h⟩:=zq (Rl e f c) (Ey w o q m) (λ(a:y4)=>xZ t a);have k:=I (λ(a:y4)=>show y8 prog 9 #[b9 (tx t),b9 ⟨#[10]⟩] a λb s=>b=zv (zx false)/\s=a from by
  have:=Ck t n a;rwa [decide_eq_false c.2] at this)
 have B:=aP t;have A:(tx t).toList.isEmpty=false:=aBD c.1;have y:¬ (4096:Int)<(t.length:Int):=by omega
 have z:¬ (60:Int)<(t.count 10:Nat):=by omega
 clear f c;generalize eK q=r at *;obtain⟨l,v⟩:=r;subst e;generalize t.count 10=x at *;go_enter func4,ntmps4;go_wp2_with fail;refine j.m ?_;rintro b F ⟨C,rfl,g,p⟩;obtain⟨D,E,rfl,_,_,_⟩:=g.i;clear g;go_wp2_with fail;refine(h _).m ?_;rintro b u ⟨rfl,d⟩;obtain rfl:=d.symm;go_wp2_with fail;refine(k _).m ?_;rintro b u ⟨rfl,d⟩;obtain rfl:=d.symm;go_wp2;go_ret2;rw[i.o];exact⟨rfl,p⟩
def Al (w e:y4) (B b:Nat) (s:aG) (a:List By) (W:y4):Prop:=
 ∃ c d,W.heap[B]?=M (zt #[Y Z (mR s a).G,Y Z (mR s a).H,c,d] 36 (0,0))/\s9 W (B+1) 31 (zz (M ⟨B,0,J⟩))/\PB b b (B+1) [b+1] (jW s a) c d (mR s a) W/\e.heap.size<=W.heap.size/\d7 w W
theorem Al.own {w f:y4} {B b:Nat} {s:aG} (p:w<=B) (q:B+1<f.heap.size):OwnFrom f (Al w f B b s):=by
 rintro r n o t ⟨l,m,g,h,i,j,k⟩ c d;refine⟨l,m,(c.block _ (by omega) (λa=>by have:=(d _ a.symm).1;omega)).trans g,(c.block _ (by omega) (λa=>by have:=(d _ a.symm).1;omega)).trans h,i.off c (λe a=>(d e a).2),aGR j c.size,k.gro c (λe a=>by have:=(d e a).1;omega)⟩
theorem Al.turns {w f:y4} {B b:Nat} {s:aG} (p:w<=B) (q:B+1<b) (r:b<f.heap.size):pX (b+1) (Al w f B b s):=by
 rintro t n o u ⟨l,m,g,h,i,j,k⟩ c d;refine⟨l,m,(c.block _ (by omega) (λa=>by have:=d _ a.symm;omega)).trans g,(c.block _ (by omega) (λa=>by have:=d _ a.symm;omega)).trans h,i.turn c (λe a=>by rw[d e a];exact aHf.2 rfl),aGR j c.size,k.gro c (λe a=>by have:=d e a;omega)⟩
theorem Sa {s:aG} (a:aI s=0) (x:By):(dJ s x).2.length<=640:=by
 unfold dJ;split
 ·have:=Lk a x;show (eC s x).2.1.length<=640;omega
 have b:=Gz a x;have:=jD [(eC s x).2.2] (λn d=>by rw[aHf.1 d];exact b);simp[cY] at this;have c:rS.length=5:=rfl;simp[c];omega
theorem Xt:∀ (l:List By) {s:aG},aI s=0->(jW s l).length<=700*l.length
 | [],s,_=>by simp[jW]
 | x::l,s,h=>by
  have a:=Sa h (Lib.trimSuffix x [10]);have b:=Xt l (xK h (Lib.trimSuffix x [10]));simp[jW];omega
theorem aC9 {P:o9} {n:Nat} {c:Code} {K:Act->y4->Prop} {Q:Exit->Act->y4->Prop} {a:Act} {w:y4} (b:c.wp P (λd a w=>match d with|.normal=>K a w|_=>False) a w):c.wpIn Fence.wide n P (Exit.then K Q) a w:=
 wpIn_wide.2 (wp_mono b (λd a w b=>by cases d <;> first|exact b|exact b.elim))
theorem aAu (w W:y4) (D:Nat) (tmps:Array y5) (r:By × Int) (a:tmps[4]?.getD u5=b9 (tx r.1)) (b:tmps[5]?.getD u5=Y Z r.2) (d:d7 w W) (f:w<=D) (c:W.heap[D]?=M (.deferred (M []))) :
  bodyPostM Fence.wide 5 prog Tryz.f4 (oC w r) .ret { tmps:=tmps,defers:=[{ target:=.collected D,args:=#[]}]} W:=by
 refine⟨by simp,.inl ⟨D,_,rfl,m7 c,?_⟩⟩;have e:d7 w (W.putObj D (.deferred J)):=d.put (by omega) _;refine⟨zw #[b9 (tx r.1),r.2],?_,rfl,e⟩;simp[results,results4,a,b,go_sem]
theorem Wl {P:o9} {f:FuncId} {j:Func} (E:P.funcs[f]?=M j) {n:Nat} {g:Operand} {p:Tmp} {assign body:Code} {Q:Exit->Act->y4->Prop} {a:Act} {w:y4} {gf:Nat} {lb:Array y5} (F:a.eval g=zy (.func gf) #[] lb)
  (i:∀ args w,(callFunc gf args).run P w=.ok (.enter gf args) w) {c:y4->y4->Prop} {xs:List By} {q:Nat} {w0:y4} (H:aFg (n-1) P gf lb (λx:By=>#[aIA (tx x)]) c xs q w0)
  (t:∀ {A B C:y4},c A B->c B C->c A C) (s:∀ (W:y4) (l:Nat) (o L:Obj),w<=l->W.heap[l]?=M o->o.isCells=false->o.isWalk=false->c W (W.putObj l L))
  (v:Below w0 w0 w) (G:q<w.heap.size) (b:List By->y4->Prop) (m:OwnFrom w b) (r:pX q b) (k:b [] w) (d:Tmp)
  (u:∀ (l:Nat) (x:By) (W:y4) (K:Act->y4->Prop),K { tmps:=(a.tmps.setIfInBounds p (b9 (tx x))).setIfInBounds d (b9 (tx x)),defers:=[]} W->
   assign.wpIn (Fence.wide.inRound l) (n-1-1) P (Exit.then K (λ_ _ _=>False)) { tmps:=a.tmps.setIfInBounds p (b9 (tx x)),defers:=[]} W)
  (y:∀ (l:Nat) (h:List By) (x:By) (post:List By) (W:y4),xs=h++x::post->b h W->body.wpIn (Fence.wide.inRound l) (n-1-1) P (Xv w c b (λ_ _=>False) (h++[x]) W) { tmps:=(a.tmps.setIfInBounds p (b9 (tx x))).setIfInBounds d (b9 (tx x)),defers:=[]} W)
  (z:∀ (D:Nat) (W:y4),w<=D->b xs W->W.heap[D]?=M (.deferred (M []))->Q .normal { a with defers:={ target:=.collected D,args:=#[]}::a.defers } W) :
  Ld f n P (Code.rangeFunc g #[p] assign body) Q a w:=
 uW E F i H t s v G (λ_=>rfl) b (λ_ _=>False) m r k (λx=>{ tmps:=(a.tmps.setIfInBounds p (b9 (tx x))).setIfInBounds d (b9 (tx x)),defers:=[]}) (λl x W K e=>by simpa using u l x W K e) y z (λD N W _ e _=>e.elim)
theorem aFj (w:y4) (hw:gC w) (q t:By) (hq:q.length<=9223372036854775807) (h0:(eK q).2=0) (am:aT (eK q).1=0) (V:¬ (4096<t.length\/60<t.count 10)) (he:t=[]\/t.getLast?=M 10):y8 prog 4 #[b9 (tx q),b9 (tx t)] w (oC w (lI q t)):=by
 have HR:=I (Ul h0 V (λe=>he.elim e.1 e.2));have ht:t.length<=4096:=by omega
 have hn:t.count 10<=60:=by omega
 have al:(tx t).toList.isEmpty=true\/((tx t).toList.isEmpty=false/\Hid (∀ a:y4,y8 prog 9 #[b9 (tx t),b9 ⟨#[10]⟩] a λc w'=>c=zv (zx true)/\w'=a)):=by
  by_cases e:t=[]
  ·left;rw[e];simp[tx,ByteArray.toList_eq]
  refine .inr ⟨aBD e,I λa=>?_⟩;have:=Ck t (by omega) a;rwa [decide_eq_true (he.resolve_left e)] at this
 clear V he;obtain⟨RD,CN,bp⟩:=zq (Ey w hw q hq) (λ(a:y4)=>xZ t a) (λ(a:y4)=>Tl a (tx t));have hz:=aP t;have hb:¬ (4096:Int)<(t.length:Int):=by omega
 have hc:¬ (60:Int)<(t.count 10:Nat):=by omega
 obtain⟨ax,bm,HW⟩:=zq (Jv am) (λ(a:y4) (p:y5) (hv:aK a p (eK q).1)=>aEN a p _ hv am) hw;generalize eK q=r at *;obtain⟨l,c2⟩:=r;subst h0;generalize t.count 10=cn at *;have ag:=I ht;clear am hq hn hw;refine pG (n:=5) func4 rfl ?_;simp only[ntmps4,aH2,aGt,aGu,aH3,aH4,aH5,aH6,aH7,aH8,aH9,aGd];refine eD (fI ?_);gi_wp2;refine eD (fI ?_);gi_wp2;refine⟨trivial,(callsIn_wide.2 RD).mono ?_⟩;rintro c j ⟨p,rfl,hv,v⟩;have BG:=I (λ(a:y4) (e:d7 j a)=>bm a p (hv.m e));obtain⟨va,vc,rfl,_,_,_⟩:=hv.i;have ay:=I v;obtain⟨ln,a8⟩:∃ af,l.length=af:=⟨_,rfl⟩;rw[a8] at BG;rw[a8];have bq:=I a8;clear hv v a8;gi_wp2;refine eD (fI ?_);gi_wp2;refine eD (fI ?_);gi_wp2;refine⟨trivial,(callsIn_wide.2 (CN _)).mono ?_⟩;rintro c cd ⟨rfl,ar⟩;obtain rfl:=ar.symm;gi_wp2;refine eD (fI ?_);rcases al with al|⟨al,SF⟩
 gi_wp2;refine⟨trivial,?_⟩;gi_wp2;rotate_left;gi_wp2;refine⟨trivial,(callsIn_wide.2 (SF _)).mono ?_⟩;rintro c cd ⟨rfl,ar⟩;obtain rfl:=ar.symm;gi_wp2
 all_goals
  refine eD (fI ?_);gi_wp2;obtain⟨x,Q⟩:∃ x,(j.alloc (zt #[Y Z 0,Y Z 0,O J 0 0,O J 0 0] 36)).alloc (zt #[zz (M ⟨j,0,J⟩)] 31)=x:=⟨_,rfl⟩;have ap:x.heap[j.heap.size]?=M (zt #[Y Z 0,Y Z 0,O J 0 0,O J 0 0] 36 (0,0)):=by
   rw[<- Q];exact aO (y7 j _) ((b8 _).a _)
  have a7:s9 x (j+1) 31 (zz (M ⟨j,0,J⟩)):=by
   rw[<- Q];have:=Boxed.new (j.alloc (zt #[Y Z 0,Y Z 0,O J 0 0,O J 0 0] 36)) 31 (zz (M ⟨j,0,J⟩));rwa [aHb] at this
  have bj:d7 j x:=by rw[<- Q];exact((b8 j).a _).a _
  have ao:x.heap.size=j.heap.size+2:=by rw[<- Q];simp
  have u:=I (show w.heap.size<=j.heap.size from ay.size);rw[Q];clear Q;obtain⟨b,hB⟩:∃ b,j.heap.size=b:=⟨_,rfl⟩;rw[hB] at ap a7 ao u;rw[hB];obtain⟨a5,az,bR,bn⟩:=zp ao bj ap a7;have L:=a7.cell;clear ao bj ap a7 hB;refine eD (fI ?_);refine aC9 ?_;refine v8 (S:=λh=>h ⟨b+1,0,J⟩=M (zz (M ⟨b,0,J⟩))) (by kernel_rfl) L (λH=>?_);refine tkH 0 ?_;refine tkH 1 ?_;refine goH 2 λm f=>?_;simp only[zA,zB,zC];go_simp;refine(BG _ (az.r (b8 x).dr)).m ?_;rintro c w3 ⟨u0,rfl,hS,B⟩;have B:d7 x w3:=(b8 x).dr.r B;obtain⟨ua,uc,e1,_,_,_⟩:=hS.tree.i;rw[bq.o] at e1;subst e1
  go_wp2_with fail;refine f.out _ _ (B.c L) λH=>?_
  clear f m;refine tkH 3 ?_;refine tkH 4 ?_;refine tkH 5 ?_;refine tkH 6 ?_;refine tkH 7 ?_;refine goH 8 λm f=>?_;simp only[zA,zB,zC];rw[c7 (by rfl)];have aq:=aO bR B;refine o7 34 _ _ rfl b #[Y Z 0,Y Z 0,O ua ln uc,O J 0 0] rfl rfl 36 _ aq size34 rfl (by simp[aGr]) ?_;obtain⟨g,ad⟩:∃ g,w3.setRow b #[Y Z 0,Y Z 0,O ua ln uc,O J 0 0]=g:=⟨_,rfl⟩;have bg:g.heap[b]?=M (zt #[Y Z 0,Y Z 0,O ua ln uc,O J 0 0] 36 (0,0)):=by rw[<- ad];exact x5 _ _ _ _ _ _ aq
  have a0:w3.grownBy g (M b):=ad▸aQ w3 b _;have cb:=B.size;have aj:s9 g (b+1) 31 (zz (M ⟨b,0,J⟩)):=(a0.block _ (by have:=a5.o;omega) (λc=>by have:=b7 c;omega)).trans (aO bn B);have b5:StX [] (b+1) g (O ua ln uc) (O J 0 0) ⟨0,0,l,[]⟩:=((StX.under (ex:=[b]) hS (λr i=>by rw[aHf.1 i];have:=a5.o;simp;omega)).kept a0 (aHf.2 rfl)).low (by have:=a5.o;simp;omega) (λr i=>by cases i);have bl:d7 w g:=((ay.r (az.r B))).gro a0 (λr c=>by cases c;exact u);have an:b+2<=g:=by have:=a0.size;have:=a5.o;omega
  rw[ad];have ba:=aj.cell;refine f.out _ _ ba λH=>?_
  clear f m;refine dnH ?_;dsimp only;refine eD (fI ?_);gi_wp2;refine eD (eD (fI ?_));gi_wp2;refine⟨trivial,(callsIn_wide.2 (bp _)).mono ?_⟩;rintro c ch ⟨rfl,rfl⟩;gi_wp2;refine sC ?_;obtain⟨d,X⟩:∃ d,g.heap.size=d:=⟨_,rfl⟩;have a6:=((PB.new (base:=g.heap.size) (ex:=[g.heap.size+1]) (aGi _) (b5.box (r:=g+1) (by omega)) (λr i=>by rw[aHf.1 i];omega)).e ((b8 (g.alloc (zt #[zz J,O J 0 0] 42))).a (zt #[b9 (tx t)] 9)));obtain⟨k,P⟩:∃ k,(g.alloc (zt #[zz J,O J 0 0] 42)).alloc (zt #[b9 (tx t)] 9)=k:=⟨_,rfl⟩;have ae:d7 g k:=by rw[<- P];exact((b8 g).a _).a _
  have be:k.heap.size=d+2:=by rw[<- P,<- X];simp
  have b6:s9 k (d+1) 9 (b9 (tx t)):=by
   rw[<- P,<- X];have:=Boxed.new (g.alloc (zt #[zz J,O J 0 0] 42)) 9 (b9 (tx t));rwa [aHb] at this
  rw[P] at a6;rw[P];rw[X] at a6 an;rw[X];obtain⟨bx,bo,z,a4⟩:=zp (Rw 4 (by omega) (d+1) t ag k b6) (show Al w k b d ⟨0,0,l,[]⟩ [] k from ⟨_,_,aO bg ae,aO aj ae,a6,aGi _,bl.r ae⟩) be an;clear a6 b6 ae be P X bl b5 aj a0 bg aq hS B cb an ad L ba H;refine Wl func4 (gf:=31) (lb:=#[zz (M ⟨d+1,0,J⟩)]) rfl (enters_of func31 (by kernel_rfl) rfl)
   bx.o (λe af=>e.r af) (bJ.put (by have:=z.o;intro cc o;simp only[aH1,aHa,or_false] at o;omega)) (Below.refl _ _) (by have:=z.o;omega)
   (Al w k b d ⟨0,0,l,[]⟩) (Al.own u (by have:=z.o;have:=a4.o;omega)) (Al.turns u (by have:=a4.o;omega) (by have:=z.o;omega)) bo 10 ?assign ?body ?done
  case assign=>
   intro ce y a m f;simp only[zD,zF,zE] at f ⊢;have o:=I f;clear f;gi_wp2;exact o
  case body=>
   intro ce C y post a au hI;refine wpIn_block ?_;simp only[zD,zF,zE];obtain⟨a3,p,K,W,A,ac,v⟩:=hI;have bi:y.length<=4096:=by have:=Iw (s:=t) y (by rw[au];simp);have:=ag.o;omega
   have ak:=xI t;rw[au] at ak;simp only[aGb,aGt] at ak;have bc:=Xt C ax;have hs:=Pr ax C;obtain⟨G,a1⟩:∃ G,Lib.trimSuffix y [10]=G:=⟨_,rfl⟩;have bh:G.length<=4096:=by
    rw[<- a1];unfold Lib.trimSuffix;split
    ·rw[aHB];omega
    exact bi
   have TR:=I (λ(h:y4)=>show y8 prog 14 #[b9 (tx y),b9 ⟨#[10]⟩] h λc w'=>c=zv (b9 (tx G))/\w'=h from by rw[<- a1];exact Tryz.strings_TrimSuffix (tx y) ⟨#[10]⟩ h (by rw[aP];omega));obtain⟨R,ab⟩:∃ R,mR ⟨0,0,l,[]⟩ C=R:=⟨_,rfl⟩;rw[ab] at K A hs;have bf:fF b a R a3 p:=⟨K,by
    obtain⟨_,⟨_,_,_,e,_⟩,_⟩:=A;exact e.st⟩
   have LN:=I (λ(h:y4) (e:d7 a h)=>aCh w h HW (v.r e) b u R a3 p (bf.e e) hs G bh);have a9:=Sa hs G;obtain⟨r,i⟩:∃ r,dJ R G=r:=⟨_,rfl⟩;rw[i] at LN a9;obtain⟨T,a2⟩:=r;obtain⟨bz,aw⟩:=zr (by rw[Tu,a1,ab,i]:mR ⟨0,0,l,[]⟩ (C++[y])=T) (by rw[Ir,a1,ab,i,aIf]:jW ⟨0,0,l,[]⟩ (C++[y])=jW ⟨0,0,l,[]⟩ C++(a2++[10]));obtain⟨E,hO⟩:∃ E,jW ⟨0,0,l,[]⟩ C=E:=⟨_,rfl⟩;rw[hO] at A bc aw;have L:=W.cell;have b1:E.length<=100000000:=by have:=ag.o;omega
   have cf:¬ 9223372036854775807<(tx a2).size+1:=by rw[aP];dsimp only at a9;omega
   have bb:(a2++[10]).length<=1000000:=by dsimp only at a9;simp;omega
   obtain⟨bv,bQ,bu,ah,b0,br,bt⟩:=zj K W A v ac b1 bb;clear K W A ac v bi ak bc hs a1 bh ab bf a9 i hO au b1 bb;refine mP (S:=λh=>h ⟨b+1,0,J⟩=M (zz (M ⟨b,0,J⟩))) (t:=5) (λa' h=>o6 k a h/\bJ [d+1] a h/\Al w k b d ⟨0,0,l,[]⟩ (C++[y]) h) (λ_ _=>False) (by kernel_rfl) (by kernel_rfl) (λa' w' e=>e) (λo a' w' hd e=>e.elim) L (λH=>?_);have F:d7 a a.drew:=(b8 a).dr;refine tkT 0 ?_;refine tkT 1 ?_;refine goT 2 λm f=>?_;simp only[zA,zB,zC];go_simp;refine(TR _).m ?_;rintro c o ⟨rfl,rfl⟩
   go_wp2_with fail;refine f.out _ _ L λH=>?_
   clear f m;refine goT 3 λm f=>?_;simp only[zA,zB,zC];go_simp;refine(LN _ F).m ?_;rintro c o ⟨N,rfl,bd⟩;have c5:b+1<d:=by have:=a4.o;omega
   have c3:d+2<=a:=by have:=z.o;have:=b0.o;omega
   have ai:s9 o (b+1) 31 (zz (M ⟨b,0,J⟩)):=N.at (aO bQ F) (by omega);have c8:=ai.cell;obtain⟨u2,D,b3,b4⟩:∃ u2 D,o.heap[b]?=M (zt #[T.G,T.H,u2,D] 36 (0,0))/\((T=R/\u2=a3/\D=p/\d7 a.drew o)\/StS a.drew.heap.size o u2 D T):=by
    rcases bd with ⟨U,V⟩|⟨u2,D,U⟩
    ·dsimp only at U;subst U;exact⟨a3,p,aO bv (F.r V),.inl ⟨rfl,rfl,rfl,V⟩⟩
    exact⟨u2,D,U.1,.inr U.2⟩
   have b2:=(bu.e F).line N (by omega) (λr i=>by rw[aHf.1 i];show d+1<a.heap.size;omega) (by show b+1<=a;omega) b4;have bk:d7 w o:=N.base (ah.r F) u;have cg:a.heap.size<=o.heap.size:=N.size;obtain⟨U,av,bw,c0,c1⟩:=zm b2 N b3 ai bk;clear N bd b4 b3 ai b2 bk;dsimp only;go_wp2_with fail;refine f.out _ _ c8 λH=>?_
   clear f m;refine tkT 4 ?_;refine laT λm f=>?_;simp only[zA,zB,zC];go_simp;refine(Kh d d E (a2++[10]) _ (gJ a2 [10]) o U.1 br bt (by omega) [d+1] (λr i=>by rw[aHf.1 i];omega) (b+1) u2 D T U.2.1 U.2.2).m ?_;rintro c W2 ⟨⟨af,rfl⟩,⟨c6,H,aa⟩,c4,c9⟩
   go_wp2_with fail;refine f.out _ _ ?_;clear f m;obtain⟨_,⟨p9,x9,ca,_,_⟩,_⟩:=U.o;refine⟨((KeepsFrom.ext F).trans (KeepsFrom.of_grownBy av (λcc c=>by cases c;have:=z.o;omega))).trans (Xy aa H.size ca),((bJ.e F).r (bJ.grown av (λr c=>by cases c;simp;omega))).r c9,?_⟩;unfold Al;rw[bz.o,aw.o];exact⟨u2,D,(H.block b (by omega)).trans bw,(H.block (b+1) (by omega)).trans c0,⟨c6,c4,U.2.2⟩,by have:=b0.o;have:=H.size;omega,Below.trans c1 (H.m (by have:=u.o;omega))⟩
  case done=>
   rintro y a U ⟨a3,p,K,W,A,ac,v⟩ C;have c5:b+1<d:=by have:=a4.o;omega
   have c3:d+2<=a:=by have:=z.o;omega
   have a2:d+2<=y:=by have:=z.o;omega
   obtain⟨T,ah,G⟩:=zq (Tryz.Builder_String_any_k d d (jW ⟨0,0,l,[]⟩ (fQ t)) a A.1 (by omega)) v C;clear K W A ac v C U;refine fI (n:=5) ?_;rw[HR.o];generalize jW ⟨0,0,l,[]⟩ (fQ t)=E at *;generalize D:bodyPostM Fence.wide 5 prog Tryz.f4 (oC w (E,0))=QQ;have N:=I D;clear D;gi_wp2;refine⟨trivial,(callsIn_wide.2 T).mono ?_⟩;rintro c o ⟨rfl,_,F,aa⟩;obtain⟨R,H⟩:=zr F aa;clear F aa;gi_wp2;rw[<- N.o];exact aAu w o y _ (E,0) rfl rfl (Below.trans ah (R.m (by have:=u.o;omega))) (by have:=u.o;omega) (H y _ G (λc=>by have:=b7 c;omega) (λc2 a1 c=>by cases c))
theorem aA1 (w:y4) (c:gC w) (q t:By) (b:q.length<=9223372036854775807) (g:t.length<=9223372036854775807):y8 prog 4 #[b9 (tx q),b9 (tx t)] w (oC w (lI q t)):=by
 by_cases a:(eK q).2=0
 ·by_cases e:4096<t.length\/60<t.count 10
  ·exact aDr w c q t b g a e
  have h:=(aCo a).1;by_cases f:t=[]\/t.getLast?=M 10
  ·exact aFj w c q t b a h e f
  exact aDq w c q t b g a e ⟨λd=>f (.inl d),λd=>f (.inr d)⟩
 exact Vu w c q t b a
theorem Dc {d:Nat} (b:d<10):fU [UInt8.ofNat (48+d)]=d:=by
 have a:=Lib.decDigits_one b;rw[<- a];exact Mp (by rw[a];simp)
theorem aFv {a b:Nat} (e:0<a) (d:a<10) (hb:b<10):fU [UInt8.ofNat (48+a),UInt8.ofNat (48+b)]=((a*10+b:Nat):Int):=by
 have c:Lib.decDigits (a*10+b)=[UInt8.ofNat (48+a),UInt8.ofNat (48+b)]:=by
  rw[uO (by omega),show (a*10+b) / 10=a by omega,show (a*10+b) % 10=b by omega,Lib.decDigits_one d];rfl
 rw[<- c];exact Mp (by rw[c];simp)
theorem qn0:fU [48]=0:=Dc (d:=0) (by decide)
theorem qn1:fU [49]=1:=Dc (d:=1) (by decide)
theorem qn2:fU [50]=2:=Dc (d:=2) (by decide)
theorem qn3:fU [51]=3:=Dc (d:=3) (by decide)
theorem qn4:fU [52]=4:=Dc (d:=4) (by decide)
theorem qn5:fU [53]=5:=Dc (d:=5) (by decide)
theorem qn6:fU [54]=6:=Dc (d:=6) (by decide)
theorem qn7:fU [55]=7:=Dc (d:=7) (by decide)
theorem qn9:fU [57]=9:=Dc (d:=9) (by decide)
theorem qn30:fU [51,48]=30:=aFv (a:=3) (b:=0) (by decide) (by decide) (by decide)
theorem qn48:fU [52,56]=48:=aFv (a:=4) (b:=8) (by decide) (by decide) (by decide)
theorem Wr {S:aG} {ws:List By} {ns:List Int} {r:kT} {sk:Nat} (d:(if nS (ws.getD 0 []) then 2 else 1)=sk) (b:¬ ws.length<=sk) (c:cS (ws.drop sk)=M ns) (a:jJ S (ws.getD 0 []) (ws.getD 1 []) ns=r):kQ S ws=r:=by
 unfold kQ;rw[d,d8 b,c];exact a
theorem sK {S a:aG} {x b:By} {ws:List By} {ns:List Int} (d:x≠kS) (e:fA x=ws) {sk:Nat} (h:(if nS (ws.getD 0 []) then 2 else 1)=sk) (f:¬ ws.length<=sk) (g:cS (ws.drop sk)=M ns)
  (c:jJ S (ws.getD 0 []) (ws.getD 1 []) ns=(a,b,0)):dJ S x=(a,b):=by
 unfold dJ eC;rw[d8 d,e,Wr h f g c];rfl
theorem Do {S:aG} {x:By} {ws:List By} {ns:List Int} {e:Int} (b:x≠kS) (c:fA x=ws) {sk:Nat} (h:(if nS (ws.getD 0 []) then 2 else 1)=sk) (d:¬ ws.length<=sk) (f:cS (ws.drop sk)=M ns)
  (a:jJ S (ws.getD 0 []) (ws.getD 1 []) ns=(S,[],e)) (g:e≠0):dJ S x=(S,rS++32::Lib.itoa e):=by
 unfold dJ eC;rw[d8 b,c,Wr h d f a,d8 g]
def qB0:aH:=⟨0,Mh 3,[⟨0,2⟩,⟨1,6⟩]⟩
def qR1:aF:=⟨2,3,48,2,[⟨6,4⟩]⟩
def qB1:aH:=⟨1,qR1,[⟨0,3⟩]⟩
def qB2:aH:=⟨1,qR1,[⟨0,11⟩]⟩
def qR0:aF:=Mh 3
def aCC:aF:=⟨3,1,9,2,[⟨9,1⟩]⟩
noncomputable def qT:List Queue:=eF (eP 10 0 6) 0 [⟨0,9⟩]
def qS0:aG:=⟨0,0,eP 10 0 6,[]⟩
def qS1:aG:=⟨0,1,eP 10 0 6,[qB0]⟩
def qS2:aG:=⟨0,2,eP 10 0 6,[qB0,qB1]⟩
def qS3:aG:=⟨1,2,eP 10 0 6,[qB0,qB1]⟩
noncomputable def qS4:aG:=⟨1,2,qT,[qB0,qB2]⟩
noncomputable def qS5:aG:=⟨1,2,qT,[qB2]⟩
noncomputable def qS6:aG:=⟨48,2,qT,[]⟩
theorem qU0:aW qS0 qR0=(qS1,0,0):=by
 have a:cA (kJ qS0 qR0) qR0=[⟨0,2⟩,⟨1,6⟩]:=by
  show cA (sp (aY (eQ (eP 10 0 6) [] 3))) (Mh 3)=_;rw[show aY (eQ (eP 10 0 6) [] 3)=[⟨0,8⟩,⟨20,4⟩] by decide +kernel,nR rfl];decide +kernel
 rw[rD (s:=qS0) (r:=qR0) (zI (show aI qS0=0 from aFX) (Cv Bp (show bO (Mh 3) by decide +kernel) (by decide)) (by decide)) (by show ¬ ((0:Nat)=12\/(0:Int)=1048576);decide) (by rw[a];decide),a];rfl
theorem qV1:aI qS1=0:=(vC qU0).1
theorem qU1:aW qS1 qR1=(qS2,1,0):=by
 have a:cA (kJ qS1 qR1) qR1=[⟨0,3⟩]:=by
  show cA (sp (aY (eQ (eP 10 0 6) [qB0] 2))) qR1=_;rw[show aY (eQ (eP 10 0 6) [qB0] 2)=[⟨0,6⟩,⟨6,4⟩,⟨11,6⟩] by decide +kernel,mY rfl];decide +kernel
 rw[rD (zI qV1 (Cv Bp (show bO qR1 by decide +kernel) (by decide)) (by decide)) (by show ¬ ((1:Nat)=12\/(1:Int)=1048576);decide) (by rw[a];decide),a];rfl
theorem qV2:aI qS2=0:=(vC qU1).1
theorem Na {l:List Queue} {x:aH} {t:Int} {b:Bool} (a:bU l x) (e:decide (gV (gP x.P x.L) (x.L.length-1)<=t)=b):fD t x=b:=by rw[Uv a t,e]
theorem qU2:eZ qS2 1=(qS3,0,0):=by
 have a:=(eR qV2).2.2;have b:fD 1 qB0=false:=Na (a qB0 (by simp[qS2])) (by decide +kernel);have c:fD 1 qB1=false:=Na (a qB1 (by simp[qS2])) (by decide +kernel);have d:iX 1 qS2.F=[qB0,qB1]:=by
  unfold iX;show List.filter _ [qB0,qB1]=_;simp[b,c]
 rw[tP qV2 (by decide) (by show ¬ (1:Int)<0;decide)];show (aG.mk 1 2 (eP 10 0 6) (iX 1 qS2.F),(([qB0,qB1]:List aH).length:Int)-((iX 1 qS2.F).length:Int),(0:Int))=_;rw[d];rfl
theorem qV3:aI qS3=0:=by
 have:=(yQ (s:=qS2) (t:=1) (by rw[qU2])).2;rwa [qU2] at this
theorem qU3:kZ qS3 0 7=(10,0):=by
 rw[Em (Kv qV3 (by decide) (by decide))];exact Prod.ext (by show aU (eP 10 0 6) [qB0,qB1] 0 7=10;decide +kernel) rfl
theorem qU4:kY qS3 3 7=(0,0):=by
 rw[Dq (Kv qV3 (by decide) (by decide))];exact Prod.ext (by show eQ (eP 10 0 6) [qB0,qB1] 3 7=0;decide +kernel) rfl
theorem qOver:pC qT [qB0,qB1] 1 6 0:=by
 have f:bE qT [qB0,qB1] 0 6<0:=by decide +kernel
 have g:∀ s,s<6->1<=s->∀ a,a<4->0<=bE qT [qB0,qB1] a s:=by decide +kernel
 exact⟨by decide,by decide,by show (0:Nat)<4;decide,f,λs b c a d=>g s c b a d,λa e=>absurd e (Nat.not_lt_zero a)⟩
theorem qFit:oH qT [qB0] 1:=by
 have e:∀ s,s<48->1<=s->∀ a,a<4->0<=bE qT [qB0] a s:=by decide +kernel
 exact λs b c a d=>e s c b a d
theorem qVic:qB qT [qB0,qB1] 6 0=1:=by decide +kernel
theorem qRel:kI qS3 0 [⟨0,9⟩]=([qB0],[qB1]):=by
 show Cy qT 1 ([qB0,qB1]:List aH).length [qB0,qB1] []=_;rw[Md qOver (show ([qB0,qB1]:List aH)[qB qT [qB0,qB1] 6 0]?=M qB1 by rw[qVic];rfl),qVic];exact Cx (Ao qFit) _
theorem aBH:bZ qT 1 [qB0] qB1=[⟨0,11⟩]:=by
 show cA (sp (aY (eQ qT [qB0] 2))) (rL qR1 1)=_;rw[show aY (eQ qT [qB0] 2)=[⟨0,6⟩,⟨6,3⟩,⟨11,6⟩] by decide +kernel,mY rfl];decide +kernel
theorem qU5:bD qS3 ((0:Nat):Int) [⟨0,9⟩]=(qS4,[1],[],0):=by
 have c:iZ qT 1 [qB0] qB1=false:=aBP.2 ⟨by decide,by decide,by rw[aBH];decide⟩;have b:lD qS3 0 [⟨0,9⟩]=([qB0,qB2],[1],[]):=by
  unfold lD;rw[qRel];show iW qT 1 [qB1] [qB0] [] []=_;rw[Bv c];show (iJ qT 1 [qB0] qB1,[qB1.Id],([]:List Int))=_;unfold iJ;rw[aBH];rfl
 have a:=rU (s:=qS3) (q:=0) (f:=[⟨0,9⟩]) qV3 (by show (0:Nat)<4;decide) (by decide +kernel);unfold qP at a;rw[b] at a;exact a
theorem qV4:aI qS4=0:=(vU qU5).1
theorem qU7:fR qS4 0=(qS5,0):=by
 have a:jQ qS4 0=(((0:Nat):Int),0):=by
  rw[Ee qV4 (by decide +kernel)];exact Prod.ext (by show fX (tG 0) [qB0,qB2]=0;decide +kernel) rfl
 rw[vW a];rfl
theorem qV5:aI qS5=0:=by
 have:=Jn (s:=qS4) (n:=0) (by rw[qU7]);rwa [qU7] at this
theorem qU8:fR qS5 0=(gQ,6):=by
 have a:jQ qS5 0=(0,6):=xX qV5 (by show ¬ 0<=fX (tG 0) [qB2];decide +kernel);rw[sR (by rw[a];decide),a]
theorem qU11:aW qS5 aCC=(gQ,0,8):=by
 have a:cA (kJ qS5 aCC) aCC=[]:=by
  show cA (sp (aY (eQ qT [qB2] 3))) aCC=_;rw[mY rfl];decide +kernel
 exact qK (zI qV5 (Cv (Bu (q:=0) Bp (by decide +kernel)) (show bO aCC by decide +kernel) (by decide)) (by decide)) (by show ¬ ((1:Nat)=12\/(2:Int)=1048576);decide) a
theorem qU12:eZ qS5 48=(qS6,1,0):=by
 have b:=(eR qV5).2.2;have a:fD 48 qB2=true:=Na (b qB2 (by simp[qS5])) (by decide +kernel);have c:iX 48 qS5.F=[]:=by
  unfold iX;show List.filter _ [qB2]=_;simp[a]
 rw[tP qV5 (by decide) (by show ¬ (48:Int)<1;decide)];show (aG.mk 48 2 qT (iX 48 qS5.F),(([qB2]:List aH).length:Int)-((iX 48 qS5.F).length:Int),(0:Int))=_;rw[c];rfl
def qL0:By:=[111,114,100,101,114,32,98,97,114,110,32,50,32,51,48,32,52,32,51,32,53,32,54]
def qO0:By:=[48,32,50,32,54]
theorem qP0:cK qS0 3 [98,97,114,110] [2,30,4,3,5,6]=(qS1,qO0,0):=by
 unfold cK;rw[d8 (by decide)];rw[d8 (by decide +kernel),show cT qS0.K [98,97,114,110]=3 from by decide +kernel];show (λa:aG × Int × Int=>(if a.2.2=0 then(a.1,kK (a.2.1::qJ a.1),0) else(qS0,[],a.2.2):kT)) (aW qS0 qR0)=_;rw[qU0];dsimp only;rw[c7 rfl];exact Prod.ext rfl (Prod.ext (by show kK _=_;decide +kernel) rfl)
theorem qD0:dJ qS0 qL0=(qS1,qO0):=by
 have a:jJ qS0 [111,114,100,101,114] [98,97,114,110] [2,30,4,3,5,6]=(qS1,qO0,0):=by
  unfold jJ;rw[c7 (by decide)];exact qP0
 exact sK (ws:=[[111,114,100,101,114],[98,97,114,110],[50],[51,48],[52],[51],[53],[54]]) (ns:=[2,30,4,3,5,6]) (by decide) (by decide +kernel) (sk:=2) (by decide) (by decide) (by show cS [[50],[51,48],[52],[51],[53],[54]]=M [2,30,4,3,5,6];simp only[cS,qn2,qn3,qn4,qn5,qn6,qn30];rfl) a
def qL1:By:=[97,110,121,32,115,111,117,116,104,32,51,32,52,56,32,54,32,52]
def qO1:By:=[49,32,51]
theorem qP1:cK qS1 2 [115,111,117,116,104] [3,48,6,4]=(qS2,qO1,0):=by
 unfold cK;rw[d8 (by decide)];rw[d8 (by decide +kernel),show cT qS1.K [115,111,117,116,104]=2 from by decide +kernel];show (λa:aG × Int × Int=>(if a.2.2=0 then(a.1,kK (a.2.1::qJ a.1),0) else(qS1,[],a.2.2):kT)) (aW qS1 qR1)=_;rw[qU1];dsimp only;rw[c7 rfl];exact Prod.ext rfl (Prod.ext (by show kK _=_;decide +kernel) rfl)
theorem qD1:dJ qS1 qL1=(qS2,qO1):=by
 have a:jJ qS1 [97,110,121] [115,111,117,116,104] [3,48,6,4]=(qS2,qO1,0):=by
  unfold jJ;rw[c7 (by decide)];exact qP1
 exact sK (ws:=[[97,110,121],[115,111,117,116,104],[51],[52,56],[54],[52]]) (ns:=[3,48,6,4]) (by decide) (by decide +kernel) (sk:=2) (by decide) (by decide) (by show cS [[51],[52,56],[54],[52]]=M [3,48,6,4];simp only[cS,qn3,qn4,qn6,qn48];rfl) a
def qL2:By:=[116,105,99,107,32,49]
def qO2:By:=[48]
theorem qP2:nF qS2 [1]=(qS3,qO2,0):=by
 unfold nF;rw[d8 (by decide)];show (λa:aG × Int × Int=>(if a.2.2=0 then(a.1,Lib.itoa a.2.1,0) else(qS2,[],a.2.2):kT)) (eZ qS2 1)=_;rw[qU2];dsimp only;rw[c7 rfl];exact Prod.ext rfl (Prod.ext (by decide +kernel) rfl)
theorem qD2:dJ qS2 qL2=(qS3,qO2):=by
 have a:jJ qS2 [116,105,99,107] [49] [1]=(qS3,qO2,0):=by
  unfold jJ;rw[d8 (by decide),d8 (by decide),d8 (by decide),d8 (by decide),d8 (by decide),c7 (by decide)];exact qP2
 exact sK (ws:=[[116,105,99,107],[49]]) (ns:=[1]) (by decide) (by decide +kernel) (sk:=1) (by decide) (by decide) (by show cS [[49]]=M [1];simp only[cS,qn1];rfl) a
def qL3:By:=[98,117,115,121,32,97,108,108,32,55]
def qO3:By:=[49,48]
theorem qP3:lT kZ qS3 [97,108,108] [7]=(qS3,qO3,0):=by
 unfold lT;rw[d8 (by decide),d8 (by decide +kernel),show cT qS3.K [97,108,108]=0 from by decide +kernel];show (λa:Int × Int=>(if a.2=0 then(qS3,Lib.itoa a.1,0) else(qS3,[],a.2):kT)) (kZ qS3 0 7)=_;rw[qU3];dsimp only;rw[c7 rfl];exact Prod.ext rfl (Prod.ext (by decide +kernel) rfl)
theorem qD3:dJ qS3 qL3=(qS3,qO3):=by
 have a:jJ qS3 [98,117,115,121] [97,108,108] [7]=(qS3,qO3,0):=by
  unfold jJ;rw[d8 (by decide),d8 (by decide),c7 (by decide)];exact qP3
 exact sK (ws:=[[98,117,115,121],[97,108,108],[55]]) (ns:=[7]) (by decide) (by decide +kernel) (sk:=2) (by decide) (by decide) (by show cS [[55]]=M [7];simp only[cS,qn7];rfl) a
def qL4:By:=[108,101,102,116,32,98,97,114,110,32,55]
def qO4:By:=[48]
theorem qP4:lT kY qS3 [98,97,114,110] [7]=(qS3,qO4,0):=by
 unfold lT;rw[d8 (by decide),d8 (by decide +kernel),show cT qS3.K [98,97,114,110]=3 from by decide +kernel];show (λa:Int × Int=>(if a.2=0 then(qS3,Lib.itoa a.1,0) else(qS3,[],a.2):kT)) (kY qS3 3 7)=_;rw[qU4];dsimp only;rw[c7 rfl];exact Prod.ext rfl (Prod.ext (by decide +kernel) rfl)
theorem qD4:dJ qS3 qL4=(qS3,qO4):=by
 have a:jJ qS3 [108,101,102,116] [98,97,114,110] [7]=(qS3,qO4,0):=by
  unfold jJ;rw[d8 (by decide),d8 (by decide),d8 (by decide),c7 (by decide)];exact qP4
 exact sK (ws:=[[108,101,102,116],[98,97,114,110],[55]]) (ns:=[7]) (by decide) (by decide +kernel) (sk:=2) (by decide) (by decide) (by show cS [[55]]=M [7];simp only[cS,qn7];rfl) a
def qL5:By:=[99,104,97,110,103,101,32,97,108,108,32,48,32,57]
def qO5:By:=[109,111,118,101,100,32,49,32,100,114,111,112,112,101,100]
theorem qP5:dS qS3 [97,108,108] [0,9]=(qS4,qO5,0):=by
 unfold dS;rw[d8 (by decide),d8 (by decide +kernel),show cT qS3.K [97,108,108]=0 from by decide +kernel];show (λa:aG × List Int × List Int × Int=>(if a.2.2.2=0 then(a.1,kR++cY a.2.1++(32::gO)++cY a.2.2.1,0) else(qS3,[],a.2.2.2):kT)) (bD qS3 ((0:Nat):Int) [⟨0,9⟩])=_;rw[qU5];dsimp only;rw[c7 rfl];exact Prod.ext rfl (Prod.ext (by decide +kernel) rfl)
theorem qD5:dJ qS3 qL5=(qS4,qO5):=by
 have a:jJ qS3 [99,104,97,110,103,101] [97,108,108] [0,9]=(qS4,qO5,0):=by
  unfold jJ;rw[d8 (by decide),c7 (by decide)];exact qP5
 exact sK (ws:=[[99,104,97,110,103,101],[97,108,108],[48],[57]]) (ns:=[0,9]) (by decide) (by decide +kernel) (sk:=2) (by decide) (by decide) (by show cS [[48],[57]]=M [0,9];simp only[cS,qn0,qn9];rfl) a
def qL6:By:=[98,111,111,107,115]
def qO6:By:=[48,32,49]
theorem qD6:dJ qS4 qL6=(qS4,qO6):=by
 unfold dJ eC;rw[c7 (show qL6=kS from rfl)];exact Prod.ext rfl (by show kK [0,1]=_;decide +kernel)
def qL7:By:=[99,97,110,99,101,108,32,48]
def qO7:By:=[111,107]
theorem qP7:gH qS4 [0]=(qS5,qO7,0):=by
 unfold gH;rw[d8 (by decide)];show (λa:aG × Int=>(if a.2=0 then(a.1,wOk,0) else(qS4,[],a.2):kT)) (fR qS4 0)=_;rw[qU7];dsimp only;rw[c7 rfl];rfl
theorem qD7:dJ qS4 qL7=(qS5,qO7):=by
 have a:jJ qS4 [99,97,110,99,101,108] [48] [0]=(qS5,qO7,0):=by
  unfold jJ;rw[d8 (by decide),d8 (by decide),d8 (by decide),d8 (by decide),c7 (by decide)];exact qP7
 exact sK (ws:=[[99,97,110,99,101,108],[48]]) (ns:=[0]) (by decide) (by decide +kernel) (sk:=1) (by decide) (by decide) (by show cS [[48]]=M [0];simp only[cS,qn0];rfl) a
def qL8:By:=[99,97,110,99,101,108,32,48]
def qO8:By:=[101,114,114,111,114,32,54]
theorem qP8:gH qS5 [0]=(qS5,[],6):=by
 unfold gH;rw[d8 (by decide)];show (λa:aG × Int=>(if a.2=0 then(a.1,wOk,0) else(qS5,[],a.2):kT)) (fR qS5 0)=_;rw[qU8];dsimp only;rw[d8 (by decide)]
theorem qD8:dJ qS5 qL8=(qS5,rS++32::Lib.itoa 6):=by
 have a:jJ qS5 [99,97,110,99,101,108] [48] [0]=(qS5,[],6):=by
  unfold jJ;rw[d8 (by decide),d8 (by decide),d8 (by decide),d8 (by decide),c7 (by decide)];exact qP8
 exact Do (ws:=[[99,97,110,99,101,108],[48]]) (ns:=[0]) (by decide) (by decide +kernel) (sk:=1) (by decide) (by decide) (by show cS [[48]]=M [0];simp only[cS,qn0];rfl) a (by decide)
def qL9:By:=[97,108,108,32,120,32,48,32,53,32,49,32,49]
def qO9:By:=[101,114,114,111,114,32,54]
theorem qP9:cK qS5 1 [120] [0,5,1,1]=(qS5,[],6):=by
 unfold cK;rw[d8 (by decide)];rw[c7 (by decide +kernel)]
theorem qD9:dJ qS5 qL9=(qS5,rS++32::Lib.itoa 6):=by
 have a:jJ qS5 [97,108,108] [120] [0,5,1,1]=(qS5,[],6):=by
  unfold jJ;rw[c7 (by decide)];exact qP9
 exact Do (ws:=[[97,108,108],[120],[48],[53],[49],[49]]) (ns:=[0,5,1,1]) (by decide) (by decide +kernel) (sk:=2) (by decide) (by decide) (by show cS [[48],[53],[49],[49]]=M [0,5,1,1];simp only[cS,qn0,qn1,qn5];rfl) a (by decide)
def qL10:By:=[116,105,103,104,116,32,98,97,114,110,32,48,32,53,32,49]
def qO10:By:=[101,114,114,111,114,32,49]
theorem qP10:cK qS5 4 [98,97,114,110] [0,5,1]=(qS5,[],1):=by
 unfold cK;rw[c7 (by decide)]
theorem qD10:dJ qS5 qL10=(qS5,rS++32::Lib.itoa 1):=by
 have a:jJ qS5 [116,105,103,104,116] [98,97,114,110] [0,5,1]=(qS5,[],1):=by
  unfold jJ;rw[c7 (by decide)];exact qP10
 exact Do (ws:=[[116,105,103,104,116],[98,97,114,110],[48],[53],[49]]) (ns:=[0,5,1]) (by decide) (by decide +kernel) (sk:=2) (by decide) (by decide) (by show cS [[48],[53],[49]]=M [0,5,1];simp only[cS,qn0,qn1,qn5];rfl) a (by decide)
def qL11:By:=[97,110,121,32,98,97,114,110,32,49,32,57,32,57,32,49]
def qO11:By:=[101,114,114,111,114,32,56]
theorem qP11:cK qS5 2 [98,97,114,110] [1,9,9,1]=(qS5,[],8):=by
 unfold cK;rw[d8 (by decide)];rw[d8 (by decide +kernel),show cT qS5.K [98,97,114,110]=3 from by decide +kernel];show (λa:aG × Int × Int=>(if a.2.2=0 then(a.1,kK (a.2.1::qJ a.1),0) else(qS5,[],a.2.2):kT)) (aW qS5 aCC)=_;rw[qU11];dsimp only;rw[d8 (by decide)]
theorem qD11:dJ qS5 qL11=(qS5,rS++32::Lib.itoa 8):=by
 have a:jJ qS5 [97,110,121] [98,97,114,110] [1,9,9,1]=(qS5,[],8):=by
  unfold jJ;rw[c7 (by decide)];exact qP11
 exact Do (ws:=[[97,110,121],[98,97,114,110],[49],[57],[57],[49]]) (ns:=[1,9,9,1]) (by decide) (by decide +kernel) (sk:=2) (by decide) (by decide) (by show cS [[49],[57],[57],[49]]=M [1,9,9,1];simp only[cS,qn1,qn9];rfl) a (by decide)
def qL12:By:=[116,105,99,107,32,52,56]
def aF0:By:=[49]
theorem qP12:nF qS5 [48]=(qS6,aF0,0):=by
 unfold nF;rw[d8 (by decide)];show (λa:aG × Int × Int=>(if a.2.2=0 then(a.1,Lib.itoa a.2.1,0) else(qS5,[],a.2.2):kT)) (eZ qS5 48)=_;rw[qU12];dsimp only;rw[c7 rfl];exact Prod.ext rfl (Prod.ext (by decide +kernel) rfl)
theorem qD12:dJ qS5 qL12=(qS6,aF0):=by
 have a:jJ qS5 [116,105,99,107] [52,56] [48]=(qS6,aF0,0):=by
  unfold jJ;rw[d8 (by decide),d8 (by decide),d8 (by decide),d8 (by decide),d8 (by decide),c7 (by decide)];exact qP12
 exact sK (ws:=[[116,105,99,107],[52,56]]) (ns:=[48]) (by decide) (by decide +kernel) (sk:=1) (by decide) (by decide) (by show cS [[52,56]]=M [48];simp only[cS,qn48];rfl) a
end Go.Proofs.YtaekdjbnldlklaaGreatDoor
