/- The reference's change of room: its contract; each theorem names its own conditions. -/
import Derived.Test.YtaekdjbnldlklaaGreatDoorVTick
set_option linter.unusedVariables false
set_option linter.unusedSimpArgs false
set_option maxRecDepth 100000
set_option maxHeartbeats 8000000
namespace Go.Proofs.YtaekdjbnldlklaaGreatDoor
open _root_.Go.Proofs.Tryz
open Go.RowKit
open List renaming getElem_toArray->zA,getElem_cons_zero->zB,getElem_cons_succ->zC
open _root_.Nat renaming eq_zero_or_pos->aIc,lt_or_ge->aGD,le_refl->aGi,lt_of_lt_of_le->aGs,sub_self->aHh,zero_le->aGI
open Go.Value renaming int->Y,slice->O,oneCell'->aGr,ownBlock->aHR
open Go.IntKind renaming i64->Z
open _root_.Option renaming some->M,none->J,mem_toList->aIv
open _root_.List renaming mem_of_getElem?->aGC,eq_nil_of_length_eq_zero->aGv,append_nil->aG9,mem_singleton->aHf,getElem?_eq_some_iff->aGw,getElem?_take->aGA,mem_cons->aH1,getElem?_drop->aGG,flatten_append->aHS,flatten_cons->aHH,mem_or_eq_of_mem_set->aIw,mem_cons_of_mem->aGc,mem_cons_self->aHv,length_set->aIx,length_take->aHB,length_append->aGb,append_assoc->aIf,getElem?_set_self->aHy,getElem?_set_ne->aHz,mem_append_right->aHW,mem_append_left->aHV,length_cons->aGt,length_drop->aI4,mem_append->aGe,mem_of_mem_take->aHA,mem_of_mem_drop->aI3,getElem?_append_right->aHJ,getElem?_cons_succ->aIs,set_append_right->aIy,take_add_one->aHZ,not_mem_nil->aHa,length_pos_iff->aHX,drop_zero->aHl,drop_eq_nil_of_le->aIz,length_eraseIdx_of_lt->aId
open _root_.Array renaming getElem?_eq_some_iff->aGq
open Go.World renaming size_alloc->aHb,ownsRow_nil->aGQ
open _root_.Int renaming toNat_of_nonneg->aHo
open Go renaming Calls→y8,Oper→n7,Program→o9,TypeId→o8,Value→y5,World→y4,bodyPost_ret→v6,cell_of_row→y6,frozen_of_row→x4,heap_alloc_new→y7,info_parts→s8,maxLen→o0,setRow_heap→x5,wpList_append_lies→n8,wpList_append_own→r6,wpQuiet_nil→i8,wp_store_row→o7
open Go.Ending renaming returned→zv
open Go.Obj renaming cells→zt
open Go.Value renaming pointer→zz
theorem aER {p:Nat->Bool} {z k:Nat} (f:k<z) (b:p k=true) (c:∀ a:Nat,k<a->a<z->p a=false):oN p z=k:=by
 rw[uB (m:=k+1) (by omega) (λd e a=>c d (by omega) a)];simp only[oN];rw[c7 b]
theorem aDB {p:Nat->Bool} {z:Nat} (b:∀ a:Nat,0<a->a<z->p a=false):oN p z=0:=by
 rcases aIc z with rfl|d
 ·rfl
 rw[uB (m:=1) (by omega) (λc e a=>b c (by omega) a)];simp only[oN];split <;> rfl
theorem Pq (w:y4) (c nx:Int) (u v:y5) (l:List Queue) (b:List aH) (t q:Nat) (hl:aK w u l) (hb:aS w v b) (ok:cQ l) (s:∀ a∈b,bU l a) (a9:b.length<=12) :
  y8 prog 119 #[.agg #[c,nx,u,v],Y Z (t:Int),Y Z (q:Int)] w λe w'=>e=zv (Y Z (qB l b t q:Int))/\d7 w w':=by
 obtain⟨BN,TK⟩:=zr (λ(W:y4) (j:d7 w W) (a:aH) (g:a∈b)=>Ju W u l a.P.B (q:Int) (hl.m j) ok.pars ok.n5 (s a g).q0 (s a g).q1) (λ(W:y4) (T E:y5) (a:aH) (g:a∈b) (o:aM W T a.P.A) (h:bF W E a.L)=>Qs W T E a t o h (s a g).req (λk r=>((s a g).bites k r).1) (s a g).many.2);obtain⟨ba,bc,rfl,ae,af,ag,a0⟩:=jH hb;obtain⟨qa,qc,rfl,_,_,_⟩:=hl.i;obtain⟨a5,a6,VH,VN⟩:=zp a0 (λ(k:Nat) (a:aH) (j:b[k]?=M a)=>zM (l:=l) (t:=t) (q:=q) j) (λ(k:Nat) (r:k<b.length)=>aER (p:=No l b t q) r) (aDB (p:=No l b t q) (z:=b.length));have a1:qB l b t q=oN (No l b t q) b.length:=rfl;rw[a1];clear hl hb a0 s a1;generalize l.length=n at *;generalize a4:b.length=z at *;have Hz:=I a4;generalize No l b t q=r at *;obtain⟨x,R⟩:∃ x,w.alloc (zt #[c,nx,O qa n qc,O ba z bc] 34)=x:=⟨_,rfl⟩;have m:x.heap[w.heap.size]?=M (zt #[c,nx,O qa n qc,O ba z bc] 34 (0,0)):=R▸World.alloc_heap_new w _;obtain⟨B,a8,a7⟩:=zq (show d7 w x from R▸(b8 w).a _) m R;have e3:=y6 _ _ 3 _ _ _ m;clear a4 m R;generalize oN r z=vk at *;have an:z<=12:=a9;go_enter func119,ntmps119;go_wp2_with fail;rw[a7.o];go_wp2;go_loopw [7] (λy wr=>∃ (i:Int),y=Y Z i/\-1<=i/\i<z/\Hid (∀ e:Nat,i<e->e<z->r e=false)/\d7 x wr) (λy _=>(intOf y+1).toNat);exact⟨(z:Int)-1,by go_num,by omega,by omega,I (λe o h=>by omega),b8 _⟩;obtain⟨i,rfl,ah,ai,A,g⟩:=hrel;by_cases am:0<i
 ·obtain⟨k,rfl⟩:∃ k:Nat,i=k:=⟨i.toNat,by omega⟩;obtain⟨a,S⟩:=aV (f:=b) (k:=k) (by rw[Hz.o];omega);obtain⟨bb,bo,rfl,ad,hE⟩:=a5 (by omega);obtain⟨T,E,F,G,H,K,L,N,P,hp,X⟩:=dN (kM.m w wr bb _ a (B.r g) (hE k a S));have hm:a∈b:=aGC S;have Q:=a6 k a S;obtain⟨y,D⟩:=zr (λp:bB wr=>fV p (BN p.v (B.r (g.r p.h)) a hm)) (λp:bB wr=>fV p (TK p.v T E a hm (hp.m p.h) (X.m p.h)));have al:=z7 k z;have aj:(0:Int)<=(k:Int):=by omega
  have ak:decide (0<k)=true:=deT (by omega);obtain⟨pa,pc,rfl,_,_,_⟩:=hp.i;obtain⟨ab,ac,rfl,_,_,_⟩:=X.i;have m:=aZ a8 g;have a2:=λp:bB wr=>p.cell (y6 wr w 2 _ _ _ m);have a3:=λp:bB wr=>p.cell (y6 wr w 3 _ _ _ m);replace F:=λp:bB wr=>p.cell F;replace G:=λp:bB wr=>p.cell G;replace H:=λp:bB wr=>p.cell H;replace K:=λp:bB wr=>p.cell K;replace L:=λp:bB wr=>p.cell L;replace N:=λp:bB wr=>p.cell N;replace P:=λp:bB wr=>p.cell P;clear hp X hE S hm m;unfold Yy at Q;generalize under l a.P.B (q:Int)=ud at *;obtain⟨d,hd⟩:∃ d,decide (0<dX a t)=d:=⟨_,rfl⟩;rw[hd] at Q;have U:=I Q;generalize dX a t=tk at *;generalize a.P.A.length=pn at *;generalize a.L.length=bn at *;clear Q;cases ud with
  | true=>
   go_wp2_with fail;refine bY (by kernel_rfl) (by kernel_rfl) ?_
   repeat (go_big_quiet_step (first|with_reducible exact y.o _|with_reducible exact D.o _))
   refine i8 ?_;rintro w' ⟨p,rfl⟩;have C:=I (g.r p.h);clear y D a2 a3 F G H K L N P;generalize p.v=wp at *;cases d with
   | true=>
    have V:=I (VH k (by omega) (by rw[U.o];rfl) (λe o h=>A e (by omega) h));go_wp2;go_ret;exact⟨aL (by rw[V.o]),B.r C⟩
   | false=>
    have aa:IntKind.i64.wrap ((k:Int)-1)=(k:Int)-1:=by rw[IntKind.wrap_i64];omega
    go_wp2;go_roundw
    case rel=>
     refine⟨(k:Int)-1,by go_num,by omega,by omega,I (λe o h=>?_),C⟩;rcases aGD k e with j|j
     ·exact A e (by omega) h
     obtain rfl:e=k:=by omega
     rw[U.o];rfl
    case measure=>simp[intOf]
  | false=>
   go_wp2_with fail;refine bY (by kernel_rfl) (by kernel_rfl) ?_
   repeat (go_big_quiet_step (first|with_reducible exact y.o _|with_reducible exact D.o _))
   refine i8 ?_;rintro w' ⟨p,rfl⟩;have C:=I (g.r p.h);clear y D a2 a3 F G H K L N P;generalize p.v=wp at *;have aa:IntKind.i64.wrap ((k:Int)-1)=(k:Int)-1:=by rw[IntKind.wrap_i64];omega
   go_wp2;go_roundw
   case rel=>
    refine⟨(k:Int)-1,by go_num,by omega,by omega,I (λe o h=>?_),C⟩;rcases aGD k e with j|j
    ·exact A e (by omega) h
    obtain rfl:e=k:=by omega
    rw[U.o];rfl
   case measure=>simp[intOf]
 have V:=I (VN (λe o h=>A e (by omega) h));go_wp2;go_ret;exact⟨aL (by rw[V.o];rfl),B.r g⟩
theorem Vz (w:y4) (c a p:y5) (s:aG) (q:Int) (f:List Run) (e:aK w c s.K) (hb:aS w a s.F) (l:aR w p f) (d:aI s≠0) :
  y8 prog 66 #[.agg #[s.G,s.H,c,a],q,p] w (nN w (bD s q f)):=by
 have t:=I (λ(W:y4) (k:d7 w W)=>cO W c a s (e.m k) (hb.m k));obtain⟨Q,m,h,x,j,B⟩:=dW w s c a;obtain⟨i,A,y⟩:=zq h j m;clear h x j m B;have v:=I (sQ (q:=q) (f:=f) d);have L:=neT d;generalize aI s=P at *;obtain⟨N,qc,rfl,_,_,_⟩:=e.i;obtain⟨C,D,rfl,_,_,_⟩:=hb.i;obtain⟨G,H,rfl,_,_,_⟩:=l.i;clear e hb l d;generalize bD s q f=E at *;generalize s.K.length=n at *;generalize s.F.length=R at *;generalize f.length=K at *;go_enter func66,ntmps66;go_wp2_with fail;rw[y.o];refine(t _ i).m ?_;rintro F r ⟨rfl,o⟩;obtain⟨g,z⟩:=zr (A r o) ((i.r o).sr (b:=w+1) (by omega) #[Y Z 0,Y Z 0,O J 0 0,O J 0 0]);have u:=I (x5 r (w+1) _ #[Y Z 0,Y Z 0,O J 0 0,O J 0 0] _ _ g);go_wp2_with (refine z6 (w+1) #[Y Z 0,Y Z 0,O J 0 0,O J 0 0] g ?_);exact v6 (dM (u1:=7) (u2:=8) (u3:=9) rfl _ _ (w+1) 34 #[Y Z 0,Y Z 0,O J 0 0,O J 0 0] (0,0) _ rfl u underlying34 rfl size34) rfl (rF v z)
theorem aAa (w:y4) (d a x:y5) (s:aG) (q:Int) (f:List Run) (g:aK w d s.K) (hb:aS w a s.F) (t:aR w x f) (e:aI s=0) (r:¬ (0<=q/\q<s.K.length)) :
  y8 prog 66 #[.agg #[s.G,s.H,d,a],q,x] w (nN w (bD s q f)):=by
 have i:=I (λ(W:y4) (c:d7 w W)=>cO W d a s (g.m c) (hb.m c));obtain⟨wb,u,l,k,p,N⟩:=dW w s d a;obtain⟨m,A,D,B⟩:=zp l k p u;clear l k p u N;obtain⟨z,E⟩:=zr (qQ (f:=f) e r) (λW=>dH q 0 ((s.K.length:Int)-1) W (λc=>r ⟨c.1,by omega⟩));rw[e] at i;obtain⟨X,qc,rfl,_,_,_⟩:=g.i;obtain⟨Q,R,rfl,_,_,_⟩:=hb.i;obtain⟨T,U,rfl,_,_,_⟩:=t.i;clear g hb t e;generalize bD s q f=S at *;generalize s.K.length=n at *;generalize s.F.length=a0 at *;generalize f.length=V at *;go_enter func66,ntmps66;go_wp2_with fail;rw[B.o];refine(i _ m).m ?_;rintro L h ⟨rfl,v⟩;obtain⟨F,G,H,K⟩:=A h v;have o:=I v;go_wp2_with fail;refine(E _).m ?_;rintro L w3 ⟨rfl,P⟩;obtain rfl:=P.symm;clear F G H K;obtain⟨j,C⟩:=zr (D h o) ((m.r o).sr (b:=w+1) (by omega) #[Y Z 0,Y Z 0,O J 0 0,O J 0 0]);have y:=I (x5 h (w+1) _ #[Y Z 0,Y Z 0,O J 0 0,O J 0 0] _ _ j);go_wp2_with (refine z6 (w+1) #[Y Z 0,Y Z 0,O J 0 0,O J 0 0] j ?_);exact v6 (dM (u1:=7) (u2:=8) (u3:=9) rfl _ _ (w+1) 34 #[Y Z 0,Y Z 0,O J 0 0,O J 0 0] (0,0) _ rfl y underlying34 rfl size34) rfl (rF z C)
theorem Qn (w:y4) (d a l:y5) (s:aG) (q:Int) (f:List Run) (j:aK w d s.K) (hb:aS w a s.F) (k:aR w l f) (h:aI s=0) (y:0<=q/\q<s.K.length) (i:¬ eB f) :
  y8 prog 66 #[.agg #[s.G,s.H,d,a],q,l] w (nN w (bD s q f)):=by
 obtain⟨p,o⟩:=zr (λ(W:y4) (c:d7 w W)=>cO W d a s (j.m c) (hb.m c)) (λ(W:y4) (c:d7 w W)=>yL W l f (k.m c));obtain⟨wb,z,u,t,v,R⟩:=dW w s d a;obtain⟨e,E,H,F⟩:=zp u t v z;clear u t v z R;obtain⟨D,K⟩:=zr (qS h y i) (λW=>bI q 0 ((s.K.length:Int)-1) W y.1 (by omega));rw[h] at p;rw[deF i] at o;clear i;obtain⟨qa,qc,rfl,_,_,_⟩:=j.i;obtain⟨U,V,rfl,_,_,_⟩:=hb.i;obtain⟨fa,fc,rfl,_,_,_⟩:=k.i;clear j hb k h;generalize bD s q f=X at *;generalize s.K.length=n at *;generalize s.F.length=a0 at *;generalize f.length=fl at *;go_enter func66,ntmps66;go_wp2_with fail;rw[F.o];refine(p _ e).m ?_;rintro x T ⟨rfl,A⟩;obtain⟨L,N,P,Q⟩:=E T A;have g:=I A;go_wp2_with fail;refine(K _).m ?_;rintro x m ⟨rfl,S⟩;obtain rfl:=S.symm;clear L N P Q;go_wp2_with fail;refine(o _ (e.r g)).m ?_;rintro x m ⟨rfl,B⟩;obtain⟨r,G⟩:=zr (H m (g.r B)) ((e.r (g.r B)).sr (b:=w+1) (by omega) #[Y Z 0,Y Z 0,O J 0 0,O J 0 0]);have C:=I (x5 m (w+1) _ #[Y Z 0,Y Z 0,O J 0 0,O J 0 0] _ _ r);go_wp2_with (refine z6 (w+1) #[Y Z 0,Y Z 0,O J 0 0,O J 0 0] r ?_);exact v6 (dM (u1:=7) (u2:=8) (u3:=9) rfl _ _ (w+1) 34 #[Y Z 0,Y Z 0,O J 0 0,O J 0 0] (0,0) _ rfl C underlying34 rfl size34) rfl (rF D G)
theorem Ly {P:o9} (w:y4) (t f e:o8) (i:TypeInfo) (d:P.underlying t=M (.slice e)) (b:P.info? e=M i) (a:Addr) (n cap:Nat) (c:n<=cap) :
  (Builtin.append_ #[t,t] f #[O (M a) n cap,O J 0 0]).run P w=.ok (O (M a) n cap) w:=by
 simp[Builtin.append_,run_underlying d,sizeOf,typeInfo,b,Builtin.lenOf,Builtin.firstCells,c,storeCells]
theorem Cg {P:o9} {c:Array n7} {rest:List n7} {o:n7} {a:Act} {w:y4} {Q:Exit->Act->y4->Prop} (g:o.guard=J) (s x:Operand) (t:o8)
  (k:o.op=.call { callee:=.builtin .append,args:=#[s,x],argTypes:=#[t,t]}) (e:o8) (i:TypeInfo) (p:P.underlying t=M (.slice e)) (h:P.info? e=M i)
  (b:Addr) (n cap:Nat) (m:a.eval s=O (M b) n cap) (q:a.eval x=O J 0 0) (j:n<=cap)
  (d:wpList P c Q rest (a.put o.dst (O (M b) n cap)) w):wpList P c Q (o::rest) a w:=
 wpList_plain g λ_ f=>by
  have l:=Ly (P:=P) w t o.type e i p h b n cap j;unfold Oper.wp execOp;simp only[k,resolve,invoke,builtin,Sem.run_bind,Sem.run_pure,Result.andThen_ok,List.map_toArray,List.map_cons,List.map_nil,m,q,l];exact f _ _ d
theorem Ch {P:o9} {A:Array n7} {rest:List n7} {o:n7} {a:Act} {w:y4} {Q:Exit->Act->y4->Prop} (k:o.guard=J) (s x:Operand) (t:o8)
  (q:o.op=.call { callee:=.builtin .append,args:=#[s,x],argTypes:=#[t,t]})
  (base:Nat) (e:o8) (i:TypeInfo) (z:y5) (size bytes:Nat) (v:P.underlying t=M (.slice e)) (l:P.info? e=M i) (S:i.zero=M z)
  (N:i.size=size) (G:i.bytes=bytes) (T:z.cells.size=size) (R:0<size)
  (g n cap:Nat) (xs:List y5) (u:a.eval s=O (M ⟨g,0,J⟩) n cap) (r:w.ownsRow base e size (O (M ⟨g,0,J⟩) n cap) n xs) (L:n<=cap)
  (B:y5) (b2 m:Nat) (news:List y5) (y:a.eval x=B) (d:w.ownsRow b2 e size B m news) (D:∀ f∈news,f.oneCell'=true)
  (E:n+m<=o0) (H:(n+m)*bytes<=140737488355328) (F:base<=w)
  (j:∀ c b,b.ownsRow base e size c (n+m) (xs++news)->w.grownBy b (M g)->wpList P A Q rest (a.put o.dst c) b):wpList P A Q (o::rest) a w:=by
 have p:=d.1;rcases d.2 with ⟨rfl,rfl⟩|⟨h,C,V,rfl,W,X,q1,q2,q3,q4⟩
 ·have K:news=[]:=aGv (by rw[p];simp);refine Cg k s x t q e i v l ⟨g,0,J⟩ n cap u y L (j _ _ ?_ (cC (b8 w)));rw[K,aG9];exact r
 exact r6 w k s x t q base e i z size bytes v l S N G T R _ n xs u r ⟨h,0,J⟩ m C news y p (λU f K=>d.cells (g:=h) rfl U f K) D E H F (λc b f K _=>j c b f K)
theorem uD {x:aH}:∀ {b:List aH} {i:Nat},i<=b.length->(∀ c a,c<i->b[c]?=M a->a.Id<x.Id)->(∀ a,b[i]?=M a->¬ a.Id<x.Id)->uE x b=b.take i++x::b.drop i
 | [],i,_,_,_=>by simp[uE]
 | a::b,0,_,_,h2=>by simp only[uE];rw[d8 (h2 a rfl)];rfl
 | a::b,i+1,h0,h1,h2=>by
  simp only[uE];rw[c7 (h1 0 a (by omega) rfl),uD (i:=i) (by simpa using h0) (λc d e a=>h1 (c+1) d (by omega) (by simpa using a)) (λd a=>h2 d (by simpa using a))];rfl
theorem fH.build {bs:List Nat} {base g n cap:Nat} {W W':y4} {b:List aH} {css:List (List y5)} (hlen:css.length=b.length) (each:∀ (k:Nat) (cs:List y5) (x:aH),css[k]?=M cs->b[k]?=M x->fW W cs x)
  (m:∀ d∈css,∀ e∈d,∀ a n c,e=O (M a) n c->a.block<W.heap.size/\a.block∉bs) (t:d7 W W') (u:W<=g)
  (s:W'.ownsRow base 80 7 (O (M ⟨g,0,J⟩) n cap) n css.flatten) (r:n=b.length):fH bs base W' (O (M ⟨g,0,J⟩) n cap) b:=by
 subst r;refine⟨css,s,⟨hlen,λk cs x j l=>(each k cs x j l).m t⟩,λd h e i a n c f=>(m d h e i a n c f).2,λo p d h e i a n c f q=>?_⟩;obtain rfl:g=o:=by simpa[aHR] using p
 have j:=(m d h e i a n c f).1;have l:=aHf.1 q;omega
theorem fH.at {bs:List Nat} {base i n cp k:Nat} {W:y4} {a:List aH} {x:aH} (j:fH bs base W (O (M ⟨i,0,J⟩) n cp) a) (A:a[k]?=M x) :
  ∃ o e:y5,nE W i (k*7) x o e/\fW W [Y Z x.Id,Y Z x.P.B,Y Z x.P.D,Y Z x.P.C,Y Z x.P.E,o,e] x/\(∀ s∈([Y Z x.Id,Y Z x.P.B,Y Z x.P.D,Y Z x.P.C,Y Z x.P.E,o,e]:List y5),bM (i::bs) s)/\W.there i (k*7) 7:=by
 obtain⟨t,Q,w,R,S⟩:=j;have L:=(aGw.1 A).1;rcases Q.2 with ⟨l,_⟩|⟨h,D,T,l,U,v,X,V,H,P⟩
 ·cases l
 have K:h=i/\D=cp:=by cases l;exact⟨rfl,rfl⟩
 obtain⟨rfl,rfl⟩:=K;obtain⟨p,u⟩:=aV (f:=t) (k:=k) (by rw[w.len];exact L);have y:=w.each k p x u A;have B:=aGC u;have b:∀ (d:Nat) r,d<7->p[d]?=M r->W ⟨h,k*7+d,J⟩=M r:=λd r z l=>by
  refine mI v ?_;have g:=Jg (m:=7) (by omega) t w.seven k d z;rw[u] at g;have q:t.flatten[k*7+d]?=M r:=by rw[g];exact l
  rw[<- P,aGA] at q;split at q
  ·exact q
  cases q
 have E:=R p B;have F:=S h rfl p B;have G:=y;obtain⟨qs,e,rfl,⟨o,rfl,_⟩,_⟩:=y;refine⟨o,e,⟨b 0 _ (by omega) rfl,b 1 _ (by omega) rfl,b 2 _ (by omega) rfl,b 3 _ (by omega) rfl,b 4 _ (by omega) rfl,b 5 _ (by omega) rfl,b 6 _ (by omega) rfl⟩,G,λs C q n c g N=>?_,λd z=>⟨by rw[y6 W h _ _ _ _ v,Array.getElem?_eq_getElem (by rw[H];omega)];rfl,x4 W h _ _ _ v⟩⟩;rcases aH1.1 N with j|j
 ·exact F s C q n c g (aHf.2 j)
 exact E s C q n c g j
theorem fH.put {bs:List Nat} {base l n cp k:Nat} {W:y4} {a:List aH} {x:aH} {cs:List y5} (f:fH bs base W (O (M ⟨l,0,J⟩) n cp) a) (X:k<a.length) (B:fW W cs x) (A:∀ s∈cs,bM (l::bs) s) :
  fH bs base (W.setCells l (k*7) cs) (O (M ⟨l,0,J⟩) n cp) (a.set k x):=by
 obtain⟨e,o1,p,o3,o4⟩:=f;rcases o1.2 with ⟨w,_⟩|⟨h,y,j,w,P,R,a0,Q,u,a2⟩
 ·cases w
 have V:h=l/\y=cp/\n=a.length:=by cases w;exact⟨rfl,rfl,rfl⟩
 obtain⟨rfl,rfl,rfl⟩:=V;have r:=zT B;have C:e.length=a.length:=p.len;obtain⟨t,q1,q2,G,H⟩:=mA cs (k*7) W j R (by rw[r,u];omega);rw[r] at G H;have S:t.toList.drop (k*7+7)=j.toList.drop (k*7+7):=List.ext_getElem? λm=>by
  rw[aGG,aGG,H _ (by omega)]
 have K:t.toList=j.toList.take (k*7)++cs++j.toList.drop (k*7+7):=by
  rw[<- G,<- S];exact(List.take_append_drop ..).symm
 have a1:e.set k cs=e.take k++cs::e.drop (k+1):=List.set_eq_take_append_cons_drop .. |>.trans (by rw[c7 (by omega)])
 have T:(e.set k cs).flatten=e.flatten.take (k*7)++(cs++e.flatten.drop ((k+1)*7)):=by
  rw[a1,aHS,aHH,pA e p.seven,fJ e p.seven]
 have D:=iC W h cs (k*7);have E:∀ b∈e,∀ d∈b,bM [h] d:=o4 h rfl;have v:∀ b∈e.set k cs,∀ d∈b,bM bs d/\bM [h] d:=λb i d g=>by
  rcases aIw i with f|f
  ·exact⟨o3 b f d g,E b f d g⟩
  subst f;exact⟨λa n c o q=>A d g a n c o (aGc _ q),λa n c o q=>A d g a n c o (by rw[aHf.1 q];exact aHv ..)⟩
 refine⟨e.set k cs,⟨?_,.inr ⟨h,y,t,by rw[aIx],P,q1,by rw[aIx];exact a0,Q,by rw[q2,u],?_⟩⟩,⟨by rw[aIx,aIx,C],λF b a3 o q=>?_⟩,λb i d g=>(v b i d g).1,λL U b i d g=>?_⟩
 ·rw[iP _ (λb i=>by
   rcases aIw i with f|f
   ·exact p.seven b f
   rw[f];exact r),aIx,aIx,C]
 ·rw[aIx,T,K,<- a2,List.take_take,List.drop_take,show min (k*7) (a.length*7)=k*7 by omega];have N:(j.toList.take (k*7)).length=k*7:=by rw[aHB,Array.length_toList,u];omega
  have z:(j.toList.take (k*7)++cs).length=k*7+7:=by rw[aGb,N,r]
  rw[List.take_append,z,List.take_of_length_le (by rw[z];omega),aIf,show (k+1)*7=k*7+7 by omega]
 ·by_cases z:F=k
  ·subst z;rw[aHy (by omega)] at o;rw[aHy X] at q;cases o;cases q;exact gY B D (λd g=>(v cs (aGC (by rw[aHy (by omega)])) d g).2)
  rw[aHz (λf=>z f.symm)] at o q;exact gY (p.each F b a3 o q) D (E b (aGC o))
 obtain rfl:h=L:=by simpa[aHR] using U
 exact(v b i d g).2
section
variable {w0 W:y4} {X gq qc gb cap:Nat} {c nx:Int} {l:List Queue} {b a:List aH} {va:y5}
theorem dZ.pre {W':y4} {g2 cap2 n2:Nat} {x:aH} {r m:y5} {o:List (List y5)} (f:dZ w0 X gq qc gb cap c nx l b a va W)
  (v:fP W o a) (K:oJ (gb::gq::X::List.range w0) o)
  (E:fW W [Y Z x.Id,Y Z x.P.B,Y Z x.P.D,Y Z x.P.C,Y Z x.P.E,r,m] x) (F:wL x)
  (D:∀ s∈([Y Z x.Id,Y Z x.P.B,Y Z x.P.D,Y Z x.P.C,Y Z x.P.E,r,m]:List y5),∀ e n i,s=O (M e) n i->e.block<W.heap.size/\e.block≠gb/\w0.heap.size<=e.block/\e.block∉va.ownBlock.toList++[X]/\∀ d,(O (M ⟨gq,0,J⟩) l.length qc).ownBlock=M d->e.block≠d)
  (q:d7 W W') (A:W<=g2)
  (H:W'.ownsRow W 80 7 (O (M ⟨g2,0,J⟩) n2 cap2) n2 ([Y Z x.Id,Y Z x.P.B,Y Z x.P.D,Y Z x.P.C,Y Z x.P.E,r,m]++o.flatten)) (G:n2=a.length+1) :
  dZ w0 X gq qc gb cap c nx l b (x::a) (O (M ⟨g2,0,J⟩) n2 cap2) W':=by
 have L:=(aGq.1 f.box).1;refine⟨aZ f.box q,?_,?_,?_,λk t=>?_,f.e.r q,f.low⟩
 ·refine((f.own.box A).e q).low (aGi _) (λd g=>?_);have h:d=g2\/d=X:=by simpa[aHR] using g
  rcases h with rfl|rfl
  ·exact aHv ..
  exact aGc _ (aHW _ (aHf.2 rfl))
 ·refine fH.build (W:=W) (css:=[Y Z x.Id,Y Z x.P.B,Y Z x.P.D,Y Z x.P.C,Y Z x.P.E,r,m]::o) (by simp[v.len]) (λu B k d z=>?_) (λy h w p e n i j=>?_) q A (xB (by rw[aHH];exact H) f.e.size) (by rw[G];rfl)
  ·cases u with
   | zero=>
    have g:=b7 d;have C:=b7 z;rw[<- g,<- C];exact E
   | succ u=>exact v.each u B k (by simpa using d) (by simpa using z)
  rcases aH1.1 h with h|h
  ·rw[h] at p;obtain⟨C,p2,p3,p4,p5⟩:=D w p e n i j;refine⟨C,λg=>?_⟩;rcases aH1.1 g with d|g
   ·exact p2 d
   rcases aH1.1 g with d|g
   ·exact p5 gq rfl d
   rcases aH1.1 g with d|g
   ·exact p4 (aHW _ (aHf.2 d))
   have:=List.mem_range.1 g;omega
  exact⟨lR v (λk t=>(f.live k t).1) y h w p e n i j,K y h w p e n i j⟩
 ·intro j;have:g2=X:=by simpa[aHR] using j
  omega
 rcases aH1.1 t with d|d
 ·rw[d];exact F
 exact f.live k d
theorem dZ.put {e n f k:Nat} {x:aH} {cs:List y5} (d:dZ w0 X gq qc gb cap c nx l b a (O (M ⟨e,0,J⟩) n f) W) (j:k<a.length) (o:fW W cs x) (p:wL x) (m:∀ s∈cs,bM (e::gb::gq::X::List.range w0) s) :
  dZ w0 X gq qc gb cap c nx l b (a.set k x) (O (M ⟨e,0,J⟩) n f) (W.setCells e (k*7) cs):=by
 have q:=d.ne (r:=e) rfl;have i:=iC W e cs (k*7);refine⟨(i.block X (aGq.1 d.box).1 (λg=>q.2.2.1 (b7 g).symm)).trans d.box,d.own.kept i (aHV _ (aHf.2 rfl)),d.away.put j o m,d.apart,λu t=>?_,d.e.gr (v:=O (M ⟨e,0,J⟩) n f) i (λk j=>by have g:=b7 j;have w:e=k:=g;omega),d.low⟩;rcases aIw t with h|h
 ·exact d.live u h
 rw[h];exact p
theorem dZ.renew {W':y4} {g j f i:Nat} {e:List aH} (d:dZ w0 X gq qc gb cap c nx l b a va W) (k:cH [] W W' (O (M ⟨g,0,J⟩) l.length j) (O (M ⟨f,0,J⟩) e.length i) l e) (m:d7 W W') :
  dZ w0 X g j f i c nx l e a va (W'.setRow X #[c,nx,O (M ⟨g,0,J⟩) l.length j,O (M ⟨f,0,J⟩) e.length i]):=by
 have o:=(aGq.1 d.box).1;have p:=aQ W' X #[c,nx,O (M ⟨g,0,J⟩) l.length j,O (M ⟨f,0,J⟩) e.length i];obtain⟨w,v,q,t,_⟩:=k.uform;cases q;obtain⟨_,_,_,u⟩:=k.vform;have s:=(u f rfl).1;refine⟨x5 W' X _ _ _ _ (aZ d.box m),?_,?_,d.apart,d.live,(d.e.r m).sr d.low _,d.low⟩
 ·have r:cH (va.ownBlock.toList++[X]) W W' (O (M ⟨g,0,J⟩) l.length j) (O (M ⟨f,0,J⟩) e.length i) l e:=by
   cases h:va.ownBlock with
   | none=>exact k.under o
   | some n=>exact(k.under o).under (d.ne h).2.2.2.2
  exact(r.kept p (aHW _ (aHf.2 rfl))).low d.e.size (λn h=>h)
 have r:=((d.away.low_all d.live t).low_all d.live s).sub (cs:=f::g::X::List.range w0) (λn h=>by
  simp only[aH1] at h ⊢;rcases h with d|d|d|d
  ·exact .inl d
  ·exact .inr (.inl d)
  ·exact .inr (.inr (.inr (.inr (.inl d))))
  exact .inr (.inr (.inr (.inr (.inr d)))))
 exact(r.e m).keptR p (by simp) (λn h=>(d.ne h).2.2.1)
end
theorem cH.mid {ex:List Nat} {B g z cap:Nat} {W:y4} {u:y5} {l:List Queue} {b:List aH} (d:cH ex B W u (O (M ⟨g,0,J⟩) z cap) l b) (hz:b.length=z) (ac:b.length<12) :
  ∃ css:List (List y5),css.length=z/\(∀ cs∈css,cs.length=7)/\(∀ w∈css.flatten,w.oneCell'=true)/\z<=cap/\(∀ (j:Nat) w,css.flatten[j]?=M w->W ⟨g,j,J⟩=M w)/\
   (∀ (k:Nat) (x:aH),b[k]?=M x->∃ p o:y5,css[k]?=M [Y Z x.Id,Y Z x.P.B,Y Z x.P.D,Y Z x.P.C,Y Z x.P.E,p,o]/\aM W p x.P.A/\bF W o x.L)/\
   ∀ (W':y4) (g2 n2 cap2 i:Nat) (cs:List y5) (x:aH),d7 W W'->W<=g2->i<=z->fW W cs x->wL x->
    (∀ s∈cs,∀ a n c,s=O (M a) n c->a.block<W.heap.size/\B<=a.block/\a.block∉ex/\∀ h,u.ownBlock=M h->a.block≠h)->(∀ h∈ex,h<W.heap.size)->
    W'.ownsRow W 80 7 (O (M ⟨g2,0,J⟩) n2 cap2) n2 ((css.take i).flatten++cs++(css.drop i).flatten)->n2=z+1->
    cH ex B W' u (O (M ⟨g2,0,J⟩) n2 cap2) l (b.take i++x::b.drop i):=by
 obtain⟨gq,qc,rfl,U,V,X,_,a6,hs,he,D,K,⟨css,o1,e,o3,o4⟩,ag,hq⟩:=d;rcases o1.2 with ⟨F,_⟩|⟨T,R,ab,F,hb,a4,af,ad,ae,aa⟩
 ·cases F
 have a7:T=g/\R=cap:=by cases F;exact⟨rfl,rfl⟩
 obtain⟨rfl,rfl⟩:=a7;have a3:css.length=z:=by rw[e.len,hz]
 refine⟨css,a3,e.seven,e.one,by omega,λj w N=>?_,λk x q=>?_,λW' g2 n2 cap2 i cs x G L hi a2 a8 a1 a5 a9 hn=>?_⟩
 ·refine mI a4 ?_;have t:=(aGw.1 N).1;have r:=N;rw[<- aa,aGA] at r;split at r
  ·exact r
  cases r
 ·obtain⟨cs,t⟩:=aV (f:=css) (k:=k) (by rw[e.len];exact(aGw.1 q).1);obtain⟨A,o,rfl,⟨p,rfl,y,_⟩,v,_⟩:=e.each k cs x t q;exact⟨p,o,t,y,v⟩
 have a0:B<=W:=by omega
 refine⟨gq,qc,rfl,U,V,X,?_,a6,aGs hs G.size,he,λo H=>?_,K,?_,λh E=>?_,?_⟩
 ·simp only[aGb,aHB,aGt,aI4];omega
 ·rcases aGe.1 H with d|d
  ·exact D o (aHA d)
  rcases aH1.1 d with d|d
  ·rw[d];exact a8
  exact D o (aI3 d)
 ·refine fH.build (W:=W) (css:=css.take i++cs::css.drop i) ?_ (λk p o t v=>?_) (λp y s A a n c C=>?_) G L (xB (by rw[aHS,aHH,<- aIf];exact a9) a0) ?_
  ·simp only[aGb,aHB,aGt,aI4];omega
  ·have Q:(css.take i).length=i:=by rw[aHB];omega
   have P:(b.take i).length=i:=by rw[aHB];omega
   rcases Nat.lt_trichotomy k i with q|q|q
   ·rw[List.getElem?_append_left (by omega),List.getElem?_take_of_lt q] at t v;exact e.each k p o t v
   ·subst q;rw[aHJ (by omega),Q,aHh] at t;rw[aHJ (by omega),P,aHh] at v;have S:cs=p:=by simpa using t
    have r:x=o:=by simpa using v
    rw[<- S,<- r];exact a2
   obtain⟨m,rfl⟩:∃ m,k=i+(m+1):=⟨k-i-1,by omega⟩;rw[aHJ (by omega),Q,show i+(m+1)-i=m+1 by omega,aIs,aGG] at t;rw[aHJ (by omega),P,show i+(m+1)-i=m+1 by omega,aIs,aGG] at v;exact e.each (i+m) p o t v
  ·have hold:p∈css->a.block<W.heap.size/\a.block∉gq::(ex++List.range B):=λy=>⟨lR e (λo H=>(D o H).1) p y s A a n c C,o3 p y s A a n c C⟩;rcases aGe.1 y with d|d
   ·exact hold (aHA d)
   rcases aH1.1 d with d|d
   ·rw[d] at A;obtain⟨P,p2,p3,p4⟩:=a1 s A a n c C;refine⟨P,λr=>?_⟩;rcases aH1.1 r with d|d
    ·exact p4 gq rfl d
    rcases aGe.1 d with d|d
    ·exact p3 d
    have:=mJ d;omega
   exact hold (aI3 d)
  simp only[aGb,aHB,aGt,aI4];omega
 ·obtain rfl:g2=h:=by simpa[aHR] using E
  exact⟨by omega,λr=>by have:=a5 g2 r;omega⟩
 have p:=(hq.more K L).e G;exact p.less (λh E=>by
  rcases aGe.1 E with d|d
  ·have:h=g2:=by simpa[aHR] using d
   rw[this];exact aHv ..
  exact aGc _ (aHW _ d))
section
variable {w0 W:y4} {X gq qc gb cap:Nat} {c nx:Int} {l:List Queue} {A b:List aH} {m d:List Int} {va vm vd:y5}
theorem dL.old (f:dL w0 X gq qc gb cap c nx l A va b m d vm vd W):∀ e∈vm.ownBlock.toList++(vd.ownBlock.toList++(va.ownBlock.toList++[X])),e<W.heap.size:=λe a=>by
 simp only[aGe,aHf,aIv] at a;rcases a with a|a|a|a
 ·exact(f.mrow.lt e a).2
 ·exact(f.drow.lt e a).2
 ·obtain⟨h,g,_⟩:=f.away;exact(g.lt e a).2
 rw[a];exact(aGq.1 f.box).1
theorem dL.anew {W':y4} {g2 cap2:Nat} {b2:List aH} (a:dL w0 X gq qc gb cap c nx l A va b m d vm vd W) (g:d7 W W') (k:W<=g2)
  (n:cH (vm.ownBlock.toList++(vd.ownBlock.toList++(va.ownBlock.toList++[X]))) w0 W' (O (M ⟨gq,0,J⟩) l.length qc) (O (M ⟨g2,0,J⟩) b2.length cap2) l b2) :
  dL w0 X gq qc g2 cap2 c nx l A va b2 m d vm vd (W'.setCell ⟨X,3,J⟩ (O (M ⟨g2,0,J⟩) b2.length cap2)):=by
 have i:=aN W' X 3 (O (M ⟨g2,0,J⟩) b2.length cap2);refine⟨heap_setCell_same W' X 3 _ _ _ (aZ a.box g),n.kept i (by simp),?_,a.live,?_,?_,a.mapart,a.dapart,a.aapart,(a.e.r g).se a.low _,a.low⟩
 ·have j:=((a.away.low_all a.live k).sub (cs:=vm.ownBlock.toList++(vd.ownBlock.toList++(g2::gq::X::List.range w0))) (λh e=>by
   simp only[aH1,aGe] at e ⊢;rcases e with a|a|a|a|a|a
   ·exact .inr (.inl a)
   ·exact .inr (.inr (.inl a))
   ·exact .inl a
   ·exact .inr (.inr (.inr (.inr (.inl a))))
   ·exact .inr (.inr (.inr (.inr (.inr (.inl a)))))
   exact .inr (.inr (.inr (.inr (.inr (.inr a)))))))
  exact(j.e g).keptR i (by simp) (λh e f=>a.aapart (f▸e))
 ·exact eW (aJ a.mrow g) i (λh e f=>(a.mapart h e).1 (b7 f).symm)
 exact eW (aJ a.drow g) i (λh e f=>(a.dapart h e).1 (b7 f).symm)
end
theorem aDR (W:y4) (cs:List y5) (a:cs.length=7):(W.alloc (zt cs.toArray 80)).ownsRow W 80 7 (O (M ⟨W,0,J⟩) 1 1) 1 cs:=
 ⟨by rw[a],.inr ⟨W,1,cs.toArray,rfl,aGi _,y7 W _,aGi _,by decide,by simp[a],by simp[<- a]⟩⟩
theorem nE.e {W W':y4} {g o:Nat} {x:aH} {d c:y5} (a:nE W g o x d c) (b:d7 W W'):nE W' g o x d c:=
 ⟨b.c a.1,b.c a.2.1,b.c a.2.2.1,b.c a.2.2.2.1,b.c a.2.2.2.2.1,b.c a.2.2.2.2.2.1,b.c a.2.2.2.2.2.2⟩
theorem aFL {A:List aH} {j:Nat} {x y:aH} (c:j<=A.length) (b:A[j]?=M y):(A.take j++x::A.drop j)[j]?=M x/\(A.take j++x::A.drop j)[j+1]?=M y:=by
 have a:(A.take j).length=j:=by rw[aHB];omega
 refine⟨?_,?_⟩
 ·rw[aHJ (by omega),a,aHh];rfl
 rw[aHJ (by omega),a,show j+1-j=1 by omega,aIs,aGG];exact b
theorem aE0 {A:List aH} {j:Nat} {x y:aH} (d:j<A.length) (a:A[j]?=M y):((A.take j++x::A.drop j).set j y).set (j+1) x=A.take (j+1)++x::A.drop (j+1):=by
 have b:(A.take j).length=j:=by rw[aHB];omega
 obtain⟨_,c⟩:=aGw.1 a;rw[List.drop_eq_getElem_cons d,c,aIy _ _ (by omega),aIy _ _ (by omega),b,aHh,show j+1-j=1 by omega,aHZ,a];simp
theorem dL.placed {w0 W g W5:y4} {X gq qc gb cap g2 q cap2 f r y:Nat} {c nx n:Int} {l:List Queue} {A b:List aH} {m d:List Int} {va vm vd o F:y5} {x:aH} {i:List bK} (u:dL w0 X gq qc gb cap c nx l A va b m d vm vd W) (P:d7 W g)
  (Q:fW W [Y Z x.Id,Y Z x.P.B,Y Z x.P.D,Y Z x.P.C,Y Z x.P.E,o,F] x) (H:∀ s∈([Y Z x.Id,Y Z x.P.B,Y Z x.P.D,Y Z x.P.C,Y Z x.P.E,o,F]:List y5),∀ a n c,s=O (M a) n c->a.block<W.heap.size/\a.block≠gb/\w0.heap.size<=a.block/\a.block∉vm.ownBlock.toList++(vd.ownBlock.toList++(va.ownBlock.toList++[X]))/\∀ e,(O (M ⟨gq,0,J⟩) l.length qc).ownBlock=M e->a.block≠e)
  (K:bF g (O (M ⟨f,r,J⟩) i.length y) i) (U:i≠[]) (a4:W<=f) (B:(g.alloc (zt #[n] 3)).grownBy W5 vm.ownBlock) (T:vm.ownBlock=M g2\/g2=g.heap.size+1) :
  fW W5 [Y Z x.Id,Y Z x.P.B,Y Z x.P.D,Y Z x.P.C,Y Z x.P.E,o,O (M ⟨f,r,J⟩) i.length y] ⟨x.Id,x.P,i⟩/\∀ s∈([Y Z x.Id,Y Z x.P.B,Y Z x.P.D,Y Z x.P.C,Y Z x.P.E,o,O (M ⟨f,r,J⟩) i.length y]:List y5),∀ a n c,s=O (M a) n c->a.block<W5.heap.size/\w0.heap.size<=a.block/\a.block∉(O (M ⟨g2,0,J⟩) q cap2).ownBlock.toList++(vd.ownBlock.toList++(va.ownBlock.toList++[X]))/\∀ e,(O (M ⟨gq,0,J⟩) l.length qc).ownBlock=M e->a.block≠e:=by
 have G:=(b8 g).a (zt #[n] 3);have a5:f<g.heap.size:=Km K U ⟨f,r,J⟩ _ _ rfl;have a2:=P.size;have a3:g.heap.size+1<=W5.heap.size:=by have:=B.size;rwa [aHb] at this
 have N:∀ e,vm.ownBlock=M e->w0.heap.size<=e/\e<W.heap.size:=λe D=>u.mrow.lt e D;have hold:=u.old;have a0:=u.ne.1.2.2.2.2.2;have a1:=u.e.size;obtain⟨V,hb,S,I⟩:=eI Q;refine⟨⟨_,_,rfl,⟨_,rfl,oU (V.m (P.r G)) B ?_,S⟩,oU (K.m G) B ?_,I⟩,λs E a w t h=>?_⟩
 ·intro a w t h p;exact(H o (by simp) a w t h).2.2.2.1 (aHV _ (by rw[<- p];exact aHf.2 rfl))
 ·intro a w t h p;cases h;have v:f<W.heap.size:=(N _ p.symm).2;omega
 have L:∀ j,j∈(O (M ⟨g2,0,J⟩) q cap2).ownBlock.toList->vm.ownBlock=M j\/j=g.heap.size+1:=λj p=>by
  have k:j=g2:=by simpa[aHR] using p
  rw[k];exact T
 have R:s=o\/s=O (M ⟨f,r,J⟩) i.length y:=by
  rw[h] at E ⊢;simp only[aH1,aHa,or_false,reduceCtorEq,false_or] at E;exact E
 rcases R with z|z
 ·obtain⟨p1,p2,p3,p4,p5⟩:=H s (by rw[z];simp) a w t h;refine⟨by omega,p3,λC=>?_,p5⟩;rcases aGe.1 C with j|j
  ·rcases L _ j with k|k
   ·exact p4 (aHV _ (by rw[k];exact aHf.2 rfl))
   omega
  exact p4 (aHW _ j)
 rw[z] at h;cases h;refine⟨by show f<_;omega,by show _<=f;omega,λC=>?_,λe D=>?_⟩
 ·rcases aGe.1 C with j|j
  ·rcases L _ j with k|k
   ·have:=(N _ k).2;have v:f<W.heap.size:=this;omega
   have v:f=g.heap.size+1:=k;omega
  have:=hold _ (aHW _ j);have v:f<W.heap.size:=this;omega
 have v:gq=e:=by simpa[aHR] using D
 show f≠e;omega
theorem aDh {W:y4} {g k:Nat} {css:List (List y5)} {y:aH} {d c:y5} (q2:∀ a∈css,a.length=7) (i:∀ (j:Nat) b,css.flatten[j]?=M b->W ⟨g,j,J⟩=M b)
  (e:css[k]?=M [Y Z y.Id,Y Z y.P.B,Y Z y.P.D,Y Z y.P.C,Y Z y.P.E,d,c]):nE W g (k*7) y d c:=by
 have a:∀ (j:Nat) b,j<7->([Y Z y.Id,Y Z y.P.B,Y Z y.P.D,Y Z y.P.C,Y Z y.P.E,d,c]:List y5)[j]?=M b->W ⟨g,k*7+j,J⟩=M b:=λj b f h=>i _ _ (by rw[Nx css q2 k j f,e];exact h);exact⟨a 0 _ (by omega) rfl,a 1 _ (by omega) rfl,a 2 _ (by omega) rfl,a 3 _ (by omega) rfl,a 4 _ (by omega) rfl,a 5 _ (by omega) rfl,a 6 _ (by omega) rfl⟩
theorem aCj {css:List (List y5)} {k:Nat} {cs:List y5} (a:css[k]?=M cs):(css.take (k+1)).flatten=(css.take k).flatten++cs:=by
 rw[aHZ,a,aHS];simp
theorem Qm (w:y4) (tv bz rv:y5) (s:aG) (k:Nat) (f:List Run) (hl:aK w tv s.K) (hb:aS w bz s.F) (z:aR w rv f) (h0:aI s=0) (h1:k<s.K.length) (h2:eB f) :
  y8 prog 66 #[.agg #[s.G,s.H,tv,bz],Y Z (k:Int),rv] w (nN w (bD s (k:Int) f)):=by
 obtain⟨fm,CF,WI⟩:=zq (λ(W:y4) (u:d7 w W)=>cO W tv bz s (hl.m u) (hb.m u)) (λ(W:y4) (u:d7 w W)=>yL W rv f (z.m u)) (λW=>bI (k:Int) 0 ((s.K.length:Int)-1) W (by omega) (by omega));obtain⟨ok,g5,aw⟩:=eR h0;have OW:=I (λ(W:y4) (u:d7 w W)=>qX W tv bz s (hl.m u) (hb.m u) ok g5 aw);obtain⟨T,h4,HX,fx,fO,gD⟩:=dW w s tv bz;obtain⟨bw,fw,fL,hB,em⟩:=zm HX fx fO h4 gD;clear HX fx fO h4 gD;obtain⟨HR,H0,H2,HK,hr⟩:=zm (rU h0 h1 h2) h0 h2 h1 aw;rw[h0] at fm;rw[deT h2] at CF;obtain⟨qa,il,rfl,_,_,_⟩:=hl.i;obtain⟨i0,i1,rfl,_,_,_⟩:=hb.i;have i5:=Tb h2;obtain⟨hH,hJ,hI,rfl,ig,fg,ff⟩:=Fv z (El h2);have hv:=I (oW ff);have he:=I (show ∀ g∈f,I64 g.At/\I64 g.N from λg V=>by
  obtain⟨C,hi⟩:=List.mem_iff_getElem?.1 V;obtain⟨_,_,h,i⟩:=ff C g hi;exact⟨h,i⟩)
 have hk:=I (gX Run.At Run.N f);have ie:decide ((k:Int)<0)=false:=deF (by omega);clear hl hb z h0 h2 ff fg;generalize bD s (k:Int) f=g0 at *;generalize cm:s.K.length=n at *;generalize gk:s.F.length=a9 at *;generalize gp:f.length=fl at *;obtain⟨cb,bm,eh⟩:=zq cm gk gp;clear cm gk gp;go_enter func66,ntmps66;go_wp2_with fail;rw[hB.o];refine(fm _ bw).m ?_;rintro e w2 ⟨rfl,bj⟩;obtain⟨et,eu,ev,ew⟩:=fw w2 bj;have er:=I bj;clear bj;go_wp2_with fail;refine(WI _).m ?_;rintro e w3 ⟨rfl,hU⟩;obtain rfl:=hU.symm;clear et eu ev ew;go_wp2_with fail;refine(CF _ (bw.r er)).m ?_;rintro e w3 ⟨rfl,fk⟩;obtain⟨et,eu,ev,ew⟩:=fw w3 (er.r fk);have cu:=I (er.r fk);have au:=I (bw.r cu);clear fk;go_wp2_with fail;refine(OW _ au).m ?_;rintro e p ⟨u7,v7,rfl,cg,cn⟩;clear et eu ev ew;obtain⟨gq,qc,rfl,gs,gu⟩:=cg.uform;obtain⟨ra,rc,rfl,fi⟩:=cg.vform;rw[bm.o] at cg fi ⊢;rw[cb.o] at cg ⊢;go_wp2_with fail;obtain⟨G,dv⟩:∃ G,p.alloc (zt #[s.G,s.H,O (M ⟨gq,0,J⟩) n qc,O ra a9 rc] 34)=G:=⟨_,rfl⟩;have cL:d7 p G:=dv▸(b8 p).a _;have gg:G.heap[p.heap.size]?=M (zt #[s.G,s.H,O (M ⟨gq,0,J⟩) n qc,O ra a9 rc] 34 (0,0)):=dv▸y7 p _;rw[dv];have ge:cH [p.heap.size] T G (O (M ⟨gq,0,J⟩) n qc) (O ra a9 rc) s.K s.F:=((cg.low (B2:=T.heap.size) cu.size (λr z=>z)).box (r:=p) (aGi _)).e cL;obtain⟨fv,co,a8,fE,hC,ej,hz,hy⟩:=zi ge gg (au.r (cn.r cL)) (cu.r (cn.r cL)) cL (And.intro gs gu) (And.intro au.size cn.size) fi;obtain⟨ir,hV,hW,hX,hY⟩:=s8 info101;clear ge gg cn cL cg dv gs gu fi;have e2:G ⟨p,2,J⟩=M (O (M ⟨gq,0,J⟩) n qc):=y6 _ _ 2 _ _ _ co;refine cN 8 (λW=>W ⟨p,2,J⟩=M (O (M ⟨gq,0,J⟩) n qc)) (by kernel_rfl) e2 (λaf=>?_);clear e2;refine tkT 0 ?_;refine tkT 1 ?_;refine tkT 2 ?_;refine tkT 4 ?_;refine goT 3 λR B=>?_;simp only[zA,zB,zC];go_simp;obtain⟨P,dw⟩:∃ P,(G.alloc (zt #[] 101)).drew=P:=⟨_,rfl⟩;rw[dw];have e5:d7 G P:=dw▸((b8 G).a _).dr;have hS:P.heap.size=G.heap.size+1:=by rw[<- dw];exact aHb ..
 have gz:P.ownsRow G 101 2 (O (M ⟨G,0,J⟩) 0 0) 0 []:=dw▸aJ (mC G _ 2 (by omega)) (b8 _).dr;refine B.out _ _ (y6 _ _ 2 _ _ _ (aZ co e5)) λaf=>?_
 clear B R;refine goT 5 λR B=>?_;simp only[zA,zB,zC];refine wp_append_own _ _ _ _ (by rfl) G 101 ir _ 2 16 underlying61 hV hW hX hY rfl (by decide) (O (M ⟨G,0,J⟩) 0 0) 0 [] (by rfl) gz ⟨hH,hJ,J⟩ fl hI (bH Run.At Run.N f) (by rfl) hk (λh aa hj=>jZ (a8.r e5) (hv h aa hj)) (rH _) (by unfold o0;omega) (by omega) (by omega) (λi ce cE gt hR=>?_);rw[Nat.zero_add,List.nil_append] at cE;obtain⟨g1,c1,rfl⟩:=kO cE (by have:=aHX.2 (El H2);rw[eh.o] at this;omega);have cR:d7 G ce:=e5.gr gt (λr z=>by cases z;exact aGi _);refine B.out _ _ (y6 _ _ 2 _ _ _ (aZ co cR)) λaf=>?_
 clear B R;have du:=fv.e cR;rw[<- cb.o] at du;obtain⟨⟨ik,k0⟩,f0⟩:=du.qcell (k:=k) (by rw[cb.o];exact HK);refine tkT 6 ?_;refine tkT 7 ?_;have cy:=bN cE g1 rfl;have gn:aR ce (O (M ⟨g1,0,J⟩) fl c1) f:=bL (base:=G.heap.size) (e:=101) (by rw[eh.o];exact cE) he (by rw[eh.o];omega);have fg:∀ r,(O ra a9 rc).ownBlock=M r->r<p.heap.size:=λr z=>(hy r z).2;have ex:=du.setC (k:=k) (by rw[cb.o];exact HK) gn (El H2) (λa m c e hm=>by
  cases e;have i:=fE.size;have j:=(aGq.1 co).1;have t:=ej.2;have y:=hC.size;simp only[aH1,aGe,aHa,or_false,aIv] at hm;rcases hm with hm|hm|hm|hm
  ·omega
  ·have:=fg _ hm;omega
  ·omega
  have:=mJ hm;omega)
 rw[cb.o] at ex;have ci:(ce.setCell ⟨gq,k*3+2,J⟩ (O (M ⟨g1,0,J⟩) fl c1)).heap[p.heap.size]?=M (zt #[s.G,s.H,O (M ⟨gq,0,J⟩) n qc,O ra a9 rc] 34 (0,0)):=by
  rw[heap_setCell_other ce ⟨gq,k*3+2,J⟩ _ _ (by show p≠gq;have:=ej.2;omega)];exact aZ co cR
 have h5:d7 T (ce.setCell ⟨gq,k*3+2,J⟩ (O (M ⟨g1,0,J⟩) fl c1)):=(fE.r cR).se (b:=gq) (o:=k*3+2) (by have:=ej.1;have:=cu.size;omega) _;obtain⟨bq,ag,en⟩:=zq ex ci h5;clear du ex ci h5 gn cE gt hR af e5 cR hS gz fv cy;refine laT λR B=>?_;simp only[zA,zB,zC];go_simp;refine B.out _ _ ?_;clear B R;generalize ce.setCell ⟨gq,k*3+2,J⟩ (O (M ⟨g1,0,J⟩) fl c1)=bx at *;have hO:T.heap.size<=p.heap.size:=by have:=cu.size;have:=hz.2;omega
 have b5:=I (Li (q:=k) (dV (cD (bS H0).1).1).2.1 H2);have gm:=(cD (bS H0).1).2.1;have dg:=I (show 0<=s.G/\s.G<=48 from ⟨gm.1,gm.2.1⟩);clear k0 f0;rcases aIc a9 with e8|e8
 ·have i:s.F=[]:=aGv (by rw[bm.o];exact e8);clear e8;have hf:oH (eF s.K k f) [] s.G.toNat:=λd9 h1 h2 F hp=>by
   have:=zQ b5 hp d9;unfold bE;simp only[aU];omega
  have t:=bq.o;rw[i] at t;have HT:=I (show y8 prog 118 #[O (M ⟨gq,0,J⟩) n qc,O ra a9 rc,s.G] bx (wC bx (lZ (eF s.K k f) [] s.G.toNat)) from by
   have:=Ap bx _ _ (eF s.K k f) [] s.G.toNat (by have:=dg.o;omega) t.tree t.books b5 (λx hx=>by cases hx) (by simp);rwa [aHo dg.1] at this)
  rw[uY hf] at HT;clear hf t;have k0:bx ⟨p,0,J⟩=M (Y Z s.G):=y6 _ _ 0 _ _ _ ag;have k2:bx ⟨p,2,J⟩=M (O (M ⟨gq,0,J⟩) n qc):=y6 _ _ 2 _ _ _ ag;have X:bx ⟨p,3,J⟩=M (O ra a9 rc):=y6 _ _ 3 _ _ _ ag;go_wp2_with fail;refine wp_loop_rounds 1 ?_;rw[rounds_succ];go_wp2_with fail;refine HT.m ?_;rintro e ab ⟨rfl,aj⟩;clear k0 k2 X;obtain⟨j,eo,y,HZ⟩:=zp (aZ ag aj) (en.r aj) (bq.e aj) (fL _ (en.r aj));clear aj;have e0:ab ⟨p,0,J⟩=M (Y Z s.G):=y6 _ _ 0 _ _ _ j;have e1:ab ⟨p,1,J⟩=M (Y Z s.H):=y6 _ _ 1 _ _ _ j;have e2:ab ⟨p,2,J⟩=M (O (M ⟨gq,0,J⟩) n qc):=y6 _ _ 2 _ _ _ j;have e3:ab ⟨p,3,J⟩=M (O ra a9 rc):=y6 _ _ 3 _ _ _ j;have eg:=I (show StS w (ab.setRow (w+1) #[s.G,s.H,O (M ⟨gq,0,J⟩) n qc,O ra a9 rc]) (O (M ⟨gq,0,J⟩) n qc) (O ra a9 rc) (qP s k f) from .inl (by
   have u:=(((y.under (r:=w+1) (by have:=em.o;omega)).kept (aQ ab (w+1) #[s.G,s.H,O (M ⟨gq,0,J⟩) n qc,O ra a9 rc]) (aHv ..)).low (ex2:=[]) (B2:=w.heap.size) bw.size (λr z=>by cases z));have e:(qP s k f).F=s.F:=by show (lD s k f).1=s.F;rw[Ef i,i]
   rw[e];exact u))
  obtain⟨E,D,el⟩:=zq ((bw.r eo).sr (b:=w+1) (by omega) #[s.G,s.H,O (M ⟨gq,0,J⟩) n qc,O ra a9 rc]) (x5 ab (w+1) _ #[s.G,s.H,O (M ⟨gq,0,J⟩) n qc,O ra a9 rc] _ _ HZ) (by rw[HR.o,Ef i]:g0=(qP s k f,[],[],0));clear i;go_wp2_with fail;refine wp_loop_rounds 1 ?_;rw[rounds_succ];go_wp2_with (refine z6 (w+1) #[s.G,s.H,O (M ⟨gq,0,J⟩) n qc,O ra a9 rc] HZ ?_);exact v6 (dM (u1:=7) (u2:=8) (u3:=9) rfl _ _ (w+1) 34 #[s.G,s.H,O (M ⟨gq,0,J⟩) n qc,O ra a9 rc] (0,0) _ rfl D underlying34 rfl size34) rfl (vK (s:=qP s k f) el eg SV.nil SV.nil E)
 obtain⟨gb,im,e,_,_⟩:=bq.vsome (by rw[bm.o];exact e8);rw[bm.o] at e;cases e;have dB:(eF s.K k f).length=n:=by rw[lH,cb.o]
 obtain⟨t,hL⟩:∃ t,eF s.K k f=t:=⟨_,rfl⟩;have g7:dZ T p gq qc gb rc s.G s.H t s.F (iY []) (O J 0 0) bx:=by
  rw[<- hL];exact⟨by rw[dB,bm.o];exact ag,by rw[dB,bm.o];exact bq,⟨[],aGQ _ _ _ _,⟨rfl,λk cs x u=>(by simp at u)⟩,λcs u=>(by cases u),λcv u=>(by cases u)⟩,by simp[aHR],λx u=>(by cases u),en,hO⟩
 obtain⟨fn,dh⟩:=zr g7 hL;rw[hL] at b5;obtain⟨hs,dj,ft⟩:=zq (show ∀ x∈s.F,bU t x from λx hx=>hL▸rV.2 (hr x hx)) (by rw[bm.o];exact g5:s.F.length<=12) (show t.length=n from hL▸dB);obtain⟨ib,bk,bl,h6,h7⟩:=s8 info80;obtain⟨b0,b1⟩:=zr h6 h7;clear g7 hL dB h6 h7;go_wp2;go_loopw [12] (λva wr=>∃ (gq qc gb cap:Nat) (b a:List aH),Hid (dZ T p gq qc gb cap s.G s.H t b (iY a) va wr)/\Hid (aA0 t s.G.toNat s.F b a)) (λ_ wr=>Vh p wr);exact⟨gq,qc,gb,rc,s.F,[],fn,I ⟨rfl,List.Sublist.refl _,by rw[aG9]⟩⟩;clear fn bq ag;obtain⟨gq,qc,gb,cap,b,a,HA,cc⟩:=hrel;have aw:∀ x∈b,bU t x:=λx hx=>hs x (cc.sub.subset hx);have cx:b.length<=12:=Nat.le_trans cc.sub.length_le dj;have HT:=I (show y8 prog 118 #[O (M ⟨gq,0,J⟩) t.length qc,O (M ⟨gb,0,J⟩) b.length cap,s.G] wr (wC wr (lZ t b s.G.toNat)) from by
  have:=Ap wr _ _ t b s.G.toNat (by have:=dg.o;omega) HA.own.tree HA.own.books b5 aw cx;rwa [aHo dg.1] at this)
 have k0:wr ⟨p,0,J⟩=M (Y Z s.G):=y6 _ _ 0 _ _ _ HA.box;have k2:wr ⟨p,2,J⟩=M (O (M ⟨gq,0,J⟩) t.length qc):=y6 _ _ 2 _ _ _ HA.box;have X:wr ⟨p,3,J⟩=M (O (M ⟨gb,0,J⟩) b.length cap):=y6 _ _ 3 _ _ _ HA.box;by_cases hf:oH t b s.G.toNat
 ·rw[uY hf] at HT;have fy:=I (show Xp t s.G.toNat s.F=(b,a) from cc.go.symm.trans (Cx (Ao hf) _));clear hf;go_wp2_with fail;refine HT.m ?_;rintro e ab ⟨rfl,aj⟩;clear k0 k2 X;have a0:=I (HA.later aj);clear aj HT HA;have fh:kI s k f=(b,a):=by show Xp (eF s.K k f) s.G.toNat s.F=_;rw[dh.o];exact fy
  have aq:(kI s k f).1=b:=by rw[fh]
  have ae:(kI s k f).2=a:=by rw[fh]
  obtain⟨dr,g8,ga⟩:=Vj (q:=k) H0 H2;have dA:qH (eF s.K k f) s.G s.H (iY (kI s k f).2) s.F.length (lD s k f) 0 (kI s k f).1 [] []:=⟨rfl,Gb H0 H2,g8,by rw[aHl,ga];exact aGi _⟩;obtain⟨es,ez⟩:∃ es,lD s k f=es:=⟨_,rfl⟩;rw[aq,ae,dh.o,ez] at dA;rw[ae,dh.o] at dr;obtain⟨A,hA⟩:∃ A,iY a=A:=⟨_,rfl⟩;rw[hA] at dA dr a0;obtain⟨da,fs,fo,hu⟩:=zp (by rw[ae];exact hA:iY (kI s k f).2=A) dA dr ez;have gl:dL T p gq qc gb cap s.G s.H t A u12 b [] [] (O J 0 0) (O J 0 0) ab:=
   ⟨a0.box,a0.own,a0.away,a0.live,aGQ _ _ _ _,aGQ _ _ _ _,λr u=>(by cases u),λr u=>(by cases u),a0.apart,a0.e,a0.low⟩
  obtain⟨hD,hE,fj⟩:∃ a c,u12=O a A.length c:=by
   obtain⟨y,o1,_⟩:=a0.away;rcases o1.2 with ⟨u,h0⟩|⟨cv,cp,i,u,_⟩
   ·exact⟨J,0,by rw[u,h0]⟩
   exact⟨_,_,u⟩
  subst fj;have fc:=(cD (bS H0).1).2.1;obtain⟨hn,fp⟩:=zr (show 0<=s.H/\s.H<=1048576 from ⟨fc.2.2.1,fc.2.2.2⟩) gl;have hK:A.length<=12:=by have h1:=dj.o;have h2:=fs.len;rw[aHl] at h2;omega
  have hM:=dj.o;clear fh aq ae dr g8 ga dA hA ez gl fc a0 cc fy aw cx;generalize s.F.length=ac at *;obtain⟨al,ch⟩:∃ al,A.length=al:=⟨_,rfl⟩;rw[ch] at fp hK ⊢;have db:=I ch;clear ch;obtain⟨ii,e9,ea,eb,ec⟩:=s8 info3;go_wp2;go_loopw [20,21,22] (λvm vd C wr=>∃ (gb cap h:Nat) (b:List aH) (m d:List Int),C=Y Z h/\h<=al/\Hid (dL T p gq qc gb cap s.G s.H t A (O hD al hE) b m d vm vd wr)/\Hid (qH t s.G s.H A ac es h b m d)/\Hid (m.length+d.length=h)) (λ_ _ C _=>al-(intOf C).toNat);exact⟨gb,cap,0,b,[],[],rfl,aGI _,fp,fs,I rfl⟩;obtain⟨gb,cap,h,b,m,d,rfl,hj,Q,bn,ah⟩:=hrel;by_cases dD:h<al
  ·obtain⟨x,hx⟩:=aV (f:=A) (k:=h) (by rw[db.o];exact dD);obtain⟨i3,i2,pv,bz,e,⟨c0,c1,c2,c3,c4,c5,c6⟩,dx,cw⟩:=Q.take hx;cases e;obtain⟨gh,gv⟩:=fo x (aGC hx);obtain⟨D,E,fd,_⟩:=(eI dx).1.i;obtain⟨be,bf,eL,_⟩:=(eI dx).2.1.i;subst fd eL;obtain⟨HX,de,h9,cq,fr⟩:=zm hx dx cw gh gv;have k0:wr ⟨p,0,J⟩=M (Y Z s.G):=y6 _ _ 0 _ _ _ Q.box;have i4:p.heap.size<wr.heap.size:=(aGq.1 Q.box).1;clear hx dx cw gh gv;go_wp2_with fail;obtain⟨i,cF⟩:∃ i,(wr.alloc (zt #[x.Id,x.P.B,x.P.D,x.P.C,x.P.E,O D x.P.A.length E,O be x.L.length bf] 80)).alloc (zt #[x.P.B,Y Z (max x.P.D s.G),x.P.C,x.P.E,O D x.P.A.length E] 77)=i:=⟨_,rfl⟩;have e6:d7 wr i:=cF▸((b8 wr).a _).a _;have c8:i.heap[wr.heap.size]?=M (zt #[x.Id,x.P.B,x.P.D,x.P.C,x.P.E,O D x.P.A.length E,O be x.L.length bf] 80 (0,0)):=cF▸(aZ (y7 wr (zt #[x.Id,x.P.B,x.P.D,x.P.C,x.P.E,O D x.P.A.length E,O be x.L.length bf] 80)) ((b8 _).a _));have am:i.heap[wr.heap.size+1]?=M (zt #[x.P.B,Y Z (max x.P.D s.G),x.P.C,x.P.E,O D x.P.A.length E] 77 (0,0)):=by
    rw[<- cF];have:=y7 (wr.alloc (zt #[x.Id,x.P.B,x.P.D,x.P.C,x.P.E,O D x.P.A.length E,O be x.L.length bf] 80)) (zt #[x.P.B,Y Z (max x.P.D s.G),x.P.C,x.P.E,O D x.P.A.length E] 77);rwa [aHb] at this
   rw[cF];obtain⟨BG,a5,dc,dd⟩:=zp (aDg i _ _ x s.G ((eI de).1.m e6) ((eI de).2.1.m e6)) e6 c8 am;clear e6 c8 am cF c0 c1 c2 c3 c4 c5 c6 k0;refine BG.m ?_;rintro e L ⟨rfl,bj⟩;obtain⟨cd,bt,bb⟩:=zq (a5.r bj) (aZ dc bj) (aZ dd bj);have r1:L ⟨wr+1,1,J⟩=M (Y Z (max x.P.D s.G)):=y6 _ _ 1 _ _ _ bb;have r2:L ⟨wr+1,2,J⟩=M (Y Z x.P.C):=y6 _ _ 2 _ _ _ bb;have e0:L ⟨wr,0,J⟩=M (Y Z x.Id):=y6 _ _ 0 _ _ _ bt;clear bj BG dc dd a5;cases dy:vZ s.G x with
   | true=>
    have hg:iZ t s.G b x=true:=by unfold iZ;rw[dy];rfl
    clear dy;obtain⟨a7,b2⟩:=zr (Q.later cd) (bn.gone HX hg);obtain⟨b4,b3,bc⟩:=zq (a7.drow.alloc (zt #[x.Id] 3)) (wN L rfl (Y Z x.Id) 3) (show T.heap.size<=(L.alloc (zt #[x.Id] 3)).heap.size from (a7.e.a _).size);have f7:d.length<=12:=by have:=ah.o;omega
    go_wp2_with (at_builtin;refine n8 _ rfl _ _ 74 rfl T 3 ii _ 1 8 underlying74 e9 ea eb ec rfl (by decide) u21 d.length (d.map λn=>Y .i64 n) rfl b4 ⟨L,0,J⟩ 1 1 [Y Z x.Id] rfl rfl b3 (by simp[aGr]) (by omega) (by unfold o0;omega) (by omega) bc (L+1) (by simp) ?_;intro g2 dp W3 bi an ax dT);have F:=(a7.swap.push bi an ax).swap;go_roundw
    case rel=>
     have e:(d++[x.Id]).length=d.length+1:=by simp
     rw[e] at F;exact⟨_,_,h+1,b,m,d++[x.Id],by go_num,by omega,I F,b2,I (by rw[e];have:=ah.o;omega)⟩
    case measure=>simp[intOf];omega
   | false=>
    by_cases fa:x.P.C<=max x.P.D s.G
    ·have hg:iZ t s.G b x=true:=by unfold iZ;rw[deT fa];simp
     have ck:¬ max x.P.D s.G<x.P.C:=by omega
     have hP:=deF ck;obtain⟨a7,b2⟩:=zr (Q.later cd) (bn.gone HX hg);obtain⟨b4,b3,bc⟩:=zq (a7.drow.alloc (zt #[x.Id] 3)) (wN L rfl (Y Z x.Id) 3) (show T.heap.size<=(L.alloc (zt #[x.Id] 3)).heap.size from (a7.e.a _).size);have f7:d.length<=12:=by have:=ah.o;omega
     go_wp2_with (at_builtin;refine n8 _ rfl _ _ 74 rfl T 3 ii _ 1 8 underlying74 e9 ea eb ec rfl (by decide) u21 d.length (d.map λn=>Y .i64 n) rfl b4 ⟨L,0,J⟩ 1 1 [Y Z x.Id] rfl rfl b3 (by simp[aGr]) (by omega) (by unfold o0;omega) (by omega) bc (L+1) (by simp) ?_;intro g2 dp W3 bi an ax dT);have F:=(a7.swap.push bi an ax).swap;go_roundw
     case rel=>
      have e:(d++[x.Id]).length=d.length+1:=by simp
      rw[e] at F;exact⟨_,_,h+1,b,m,d++[x.Id],by go_num,by omega,I F,b2,I (by rw[e];have:=ah.o;omega)⟩
     case measure=>simp[intOf];omega
    have ck:max x.P.D s.G<x.P.C:=by omega
    have hP:=deT ck;have hq:=Gn cq.req ck;have e4:=bn.right;obtain⟨h8,g6,gj⟩:=eR e4;obtain⟨q,cm⟩:∃ q:Nat,x.P.B=q:=⟨x.P.B.toNat,by have:=cq.q0;omega⟩;have fe:q<t.length:=by have:=cq.q1;omega
    have go:kL (aY (eQ t b x.P.B)):=by rw[cm];exact Fy e4 fe
    have RI:=I (λ(W:y4) (u:d7 wr W)=>show y8 prog 117 #[O (M ⟨gq,0,J⟩) t.length qc,O (M ⟨gb,0,J⟩) b.length cap,x.P.B] W (Ou W (sp (aY (eQ t b x.P.B)))) from by
     have:=wU W _ _ t b q fe (Q.own.tree.m u) (Q.own.books.m u) h8 gj g6;rw[<- cm] at this;have e:tab (eQ t b x.P.B)=tab (sp (aY (eQ t b x.P.B))):=Fp (λd9 j=>by rw[gF j]);exact this.m λe' w' ⟨h1,h2⟩=>⟨by rw[h1,e],h2⟩)
    obtain⟨PI,ei,ed⟩:=zq (λ(W:y4) (u:d7 wr W)=>show y8 prog 121 #[.agg (tab (sp (aY (eQ t b x.P.B)))),.agg #[x.P.B,Y Z (max x.P.D s.G),x.P.C,x.P.E,O D x.P.A.length E]] W (qA W (bZ t s.G b x)) from Ss W (sp (aY (eQ t b x.P.B))) (rL x.P s.G) _ ((eI de).1.m u) hq (Lm go)) (by unfold iZ;rw[dy,deF fa];simp:iZ t s.G b x=decide (bZ t s.G b x=[])) (show iJ t s.G b x=uE ⟨x.Id,x.P,bZ t s.G b x⟩ b from rfl);have dz:=bn.cons HX;have ci:b.length<12:=by have:=dz.2.2.2;omega
    obtain⟨ee,hh⟩:=zr (λhg=>wA e4 cq fr dz.1 ci hg) dz.1;clear hq e4 h8 g6 gj cm fe go fa dy dz;generalize bZ t s.G b x=K at *;generalize sp (aY (eQ t b x.P.B))=xt at *;have k2:L ⟨p,2,J⟩=M (O (M ⟨gq,0,J⟩) t.length qc):=cd.c (y6 _ _ 2 _ _ _ Q.box);have X:L ⟨p,3,J⟩=M (O (M ⟨gb,0,J⟩) b.length cap):=cd.c (y6 _ _ 3 _ _ _ Q.box);have r0:L ⟨wr+1,0,J⟩=M (Y Z x.P.B):=y6 _ _ 0 _ _ _ bb;have r3:L ⟨wr+1,3,J⟩=M (Y Z x.P.E):=y6 _ _ 3 _ _ _ bb;have r4:L ⟨wr+1,4,J⟩=M (O D x.P.A.length E):=y6 _ _ 4 _ _ _ bb;go_wp2_with fail
    go_region_held3 (λw'=>(w' ⟨p,2,J⟩=M (O (M ⟨gq,0,J⟩) t.length qc)/\w' ⟨p,3,J⟩=M (O (M ⟨gb,0,J⟩) b.length cap)/\w' ⟨wr+1,0,J⟩=M (Y Z x.P.B)/\w' ⟨wr+1,1,J⟩=M (Y Z (max x.P.D s.G))/\w' ⟨wr+1,2,J⟩=M (Y Z x.P.C)/\w' ⟨wr+1,3,J⟩=M (Y Z x.P.E)/\w' ⟨wr+1,4,J⟩=M (O D x.P.A.length E)))
     (first
      | go_keep
      | (
        go_split_ands
        exact⟨j.c (by assumption),j.c (by assumption),j.c (by assumption),j.c (by assumption),j.c (by assumption),j.c (by assumption),j.c (by assumption)⟩))
     (first
      | (go_at_call 117;refine(RI _ cd.dr).m ?_;rintro e W3 ⟨rfl,j⟩;have au:=I (cd.dr.r j);have ep:=I ((b8 L).dr.r j))
      | (go_at_call 121;refine(PI _ au).m ?_;rintro e W4 ⟨u4,hF,rfl,j,V,H⟩;have Hy:=I V;have Hn:=I H;have eq:=I (au.r j);have fz:=I (ep.r j);clear V H))
    clear r0 r1 r2 r3 r4 k2 X e0 RI PI;cases hF with
    | false=>
     have hg:iZ t s.G b x=true:=by rw[ei.o,Hn rfl];rfl
     clear Hy Hn ee ed hh au ep;obtain⟨a7,b2⟩:=zr (Q.later eq) (bn.gone HX hg);have e0:W4 ⟨wr,0,J⟩=M (Y Z x.Id):=fz.c (y6 _ _ 0 _ _ _ bt);obtain⟨b4,b3,bc⟩:=zq (a7.drow.alloc (zt #[x.Id] 3)) (wN W4 rfl (Y Z x.Id) 3) (show T.heap.size<=(W4.alloc (zt #[x.Id] 3)).heap.size from (a7.e.a _).size);have f7:d.length<=12:=by have:=ah.o;omega
     go_wp2_with (at_builtin;refine n8 _ rfl _ _ 74 rfl T 3 ii _ 1 8 underlying74 e9 ea eb ec rfl (by decide) u21 d.length (d.map λn=>Y .i64 n) rfl b4 ⟨W4,0,J⟩ 1 1 [Y Z x.Id] rfl rfl b3 (by simp[aGr]) (by omega) (by unfold o0;omega) (by omega) bc (W4+1) (by simp) ?_;intro g2 dp W3 bi an ax dT);have F:=(a7.swap.push bi an ax).swap;go_roundw
     case rel=>
      have e:(d++[x.Id]).length=d.length+1:=by simp
      rw[e] at F;exact⟨_,_,h+1,b,m,d++[x.Id],by go_num,by omega,I F,b2,I (by rw[e];have:=ah.o;omega)⟩
     case measure=>simp[intOf];omega
    | true=>
     obtain⟨dt,eN,gr⟩:=Hy rfl;have hg:iZ t s.G b x=false:=by rw[ei.o];exact deF dt
     obtain⟨aq,ae,_⟩:=ee hg;have di:=I ((tY (l:=t) (b:=[⟨x.Id,x.P,K⟩]) (λg V=>by rw[aHf.1 V];exact ae)) _ (aHf.2 rfl));obtain⟨va,vc,hT,_,_,_,gN⟩:=mN eN;obtain⟨vb,vo,fj,ih,_⟩:=gN (aHX.2 dt);subst fj;subst hT;have h3:wr<=vb:=by
      have h1:W3<=vb:=gr _ _ _ rfl;have h2:=au.size;omega
     obtain⟨b2,a7,df⟩:=zq (bn.put HX hg cq fr hM) (Q.later eq) (And.intro eN (And.intro dt h3));have ey:=aZ bt fz;have ek:=I ey;have e0:W4 ⟨wr,0,J⟩=M (Y Z x.Id):=y6 _ _ 0 _ _ _ ey;obtain⟨b4,b3,bc⟩:=zq (a7.mrow.alloc (zt #[x.Id] 3)) (wN W4 rfl (Y Z x.Id) 3) (show T.heap.size<=(W4.alloc (zt #[x.Id] 3)).heap.size from (a7.e.a _).size);have f7:m.length<=12:=by have:=ah.o;omega
     clear hg aq ae gN eN gr h3 dt ey Hy Hn ee ei au ep bt bb;go_wp2_with (at_builtin;refine n8 _ rfl _ _ 74 rfl T 3 ii _ 1 8 underlying74 e9 ea eb ec rfl (by decide) u20 m.length (m.map λn=>Y .i64 n) rfl b4 ⟨W4,0,J⟩ 1 1 [Y Z x.Id] rfl rfl b3 (by simp[aGr]) (by omega) (by unfold o0;omega) (by omega) bc (W4+1) (by simp) ?_;intro g2 dp F bi an ax dT);have ds:=a7.push bi an ax;obtain⟨gd,gc⟩:=Q.placed (q:=(m++[x.Id]).length) (cap2:=dp) (g2:=g2) eq de h9 df.1 df.2.1 df.2.2 an ax;have gf:F.heap[wr.heap.size]?=M (zt #[x.Id,x.P.B,x.P.D,x.P.C,x.P.E,O D x.P.A.length E,O be x.L.length bf] 80 (0,0)):=(an.block wr (aGs (aGq.1 ek).1 ((b8 W4).a _).size) (λe=>by have:=(Q.mrow.lt _ e.symm).2;omega)).trans (aZ ek ((b8 W4).a _));obtain⟨y,q1,q2,q3,q4,q5,q6,gy⟩:=ds.own.mid rfl ci;obtain⟨ar,dk,dn,HQ,dm,ht,fu,fq⟩:=zi ds (And.intro gd gc) gf (And.intro q1 (And.intro q2 q3)) q5 q6 gy ds.old;clear bi an ax dT ds gd gc gf q1 q2 q3 q5 q6 gy e0 b4 b3 bc a7 ek df;generalize gi:b.length=H at *;have ad:=I gi;clear gi;generalize wr.heap.size=B1 at *;have ij:H<12:=ci;go_wp2;go_loopw [27,28] (λv C wi=>∃ (j:Nat),C=Y Z j/\j<=H/\Hid (wi.ownsRow F 80 7 v j (y.take j).flatten)/\Hid (∀ (C:Nat) (g:aH),C<j->b[C]?=M g->g.Id<x.Id)/\Hid (d7 F wi)) (λ_ C _=>H-(intOf C).toNat);exact⟨0,rfl,aGI _,I (aGQ _ _ _ _),I (λC g u=>by omega),I (b8 _)⟩;obtain⟨j,rfl,i9,b6,bo,bd⟩:=hrel;have X:wr ⟨p,3,J⟩=M (O (M ⟨gb,0,J⟩) H cap):=bd.c (by rw[<- ad.o];exact y6 _ _ 3 _ _ _ ar.box);obtain⟨f0,f1,f2,f3,f4,f5,f6,_⟩:=eH (aZ dn bd);have gw:(0:Int)<=(j:Int):=by omega
     by_cases fb:j<H
     ·obtain⟨g,V⟩:=aV (f:=b) (k:=j) (by rw[ad.o];exact fb);obtain⟨hZ,hG,eT,gA,am⟩:=ht j g V;obtain⟨a3,a4,f8,_⟩:=gA.i;obtain⟨a1,a2,f9,_⟩:=am.i;subst f8 f9;obtain⟨d0,d1,d2,d3,d4,d5,d6⟩:=(aDh HQ.2.1 dm eT).e bd;have hQ:=z7 j H;have ia:=deT fb;have ic:=deT hQ;obtain⟨HY,hd⟩:=zr V eT;clear V eT gA am;by_cases hl:g.Id<x.Id
      ·have hN:=deT hl;go_wp2;go_quiet (fail);obtain⟨a5,br,bp⟩:=zq (bd.r ((b8 wr).dn nq)) ((aJ b6 ((b8 wr).dn nq)).alloc (zt #[g.Id,g.P.B,g.P.D,g.P.C,g.P.E,O a3 g.P.A.length a4,O a1 g.L.length a2] 80)) (Dg (wr.drewN nq) [Y Z g.Id,Y Z g.P.B,Y Z g.P.D,Y Z g.P.C,Y Z g.P.E,O a3 g.P.A.length a4,O a1 g.L.length a2] 80 rfl);have bu:=I (show F.heap.size<=((wr.drewN nq).alloc (zt #[g.Id,g.P.B,g.P.D,g.P.C,g.P.E,O a3 g.P.A.length a4,O a1 g.L.length a2] 80)).heap.size from (a5.a _).size);have d:=(b8 wr).dn nq;replace X:=d.c X;replace d0:=d.c d0;replace d1:=d.c d1;replace d2:=d.c d2;replace d3:=d.c d3;replace d4:=d.c d4;replace d5:=d.c d5;replace d6:=d.c d6;have N:=b6.lt;have bv:=I N;clear d f0 f1 f2 f3 f4 f5 f6 N;generalize wr.drewN nq=ak at *;go_wp2_with (at_builtin;refine n8 _ rfl _ _ 32 rfl F 80 ib _ 7 88 underlying32 bk bl b0 b1 rfl (by decide) u27 j (y.take j).flatten rfl br ⟨ak,0,J⟩ 1 1 [Y Z g.Id,Y Z g.P.B,Y Z g.P.D,Y Z g.P.C,Y Z g.P.E,O a3 g.P.A.length a4,O a1 g.L.length a2] rfl rfl bp (by simp[aGr]) (by omega) (by unfold o0;omega) (by omega) bu (ak+1) (by simp) ?_;intro g4 cf U ap ao cj cl);have cn:d7 F U:=(a5.a _).gr ao (λr z=>(bv r z).1);go_roundw
       case rel=>exact⟨j+1,by go_num,by omega,I (by rw[aCj hd.o];exact ap),I (λC y' hi a6=>by
        rcases aGD C j with u|u
        ·exact bo C y' u a6
        obtain rfl:C=j:=by omega
        rw[HY.o] at a6;cases a6;exact hl),I cn⟩
       case measure=>simp[intOf];omega
      have hN:=deF hl;have hc:¬ cap=j:=by omega
      go_wp2;go_quiet (fail);obtain⟨a5,br,bp⟩:=zq (bd.r ((b8 wr).dn nq)) ((aJ b6 ((b8 wr).dn nq)).alloc (zt #[x.Id,x.P.B,x.P.D,x.P.C,x.P.E,O D x.P.A.length E,O (M ⟨vb,vo,J⟩) K.length vc] 80)) (Dg (wr.drewN nq) [Y Z x.Id,Y Z x.P.B,Y Z x.P.D,Y Z x.P.C,Y Z x.P.E,O D x.P.A.length E,O (M ⟨vb,vo,J⟩) K.length vc] 80 rfl);obtain⟨bu,bv⟩:=zr (show F.heap.size<=((wr.drewN nq).alloc (zt #[x.Id,x.P.B,x.P.D,x.P.C,x.P.E,O D x.P.A.length E,O (M ⟨vb,vo,J⟩) K.length vc] 80)).heap.size from (a5.a _).size) b6.lt;clear X f0 f1 f2 f3 f4 f5 f6;obtain⟨f0,f1,f2,f3,f4,f5,f6,_⟩:=eH (aZ dn a5);generalize wr.drewN nq=ak at *;have ct:=I (show ∀ o,(o=j*7\/H<=j)->∀ (h:Nat) v,(y.drop j).flatten[h]?=M v->F ((⟨gb,o,J⟩:Addr).add h)=M v from λo ho h v N=>by
       rcases ho with ho|hc
       ·rw[ho,Jw];refine dm _ v ?_;rw[<- fJ y HQ.2.1,aGG] at N;exact N
       have h0:y.drop j=[]:=aIz (by rw[HQ.1];omega);rw[h0] at N;simp at N)
      have az:=I (by rw[iP _ (λcs hm=>HQ.2.1 cs (aI3 hm)),aI4,HQ.1]:(y.drop j).flatten.length=(H-j)*7);have cr:=I (show ∀ v∈(y.drop j).flatten,v.oneCell'=true from λv N=>HQ.2.2 v (by
       rw[<- fJ y HQ.2.1] at N;exact aI3 N))
      have gx:(j:Int)<=(H:Int):=by omega
      go_wp2_with (first
       | (at_builtin;refine n8 _ rfl _ _ 32 rfl F 80 ib _ 7 88 underlying32 bk bl b0 b1 rfl (by decide) u27 j (y.take j).flatten rfl br ⟨ak,0,J⟩ 1 1 [Y Z x.Id,Y Z x.P.B,Y Z x.P.D,Y Z x.P.C,Y Z x.P.E,O D x.P.A.length E,O (M ⟨vb,vo,J⟩) K.length vc] rfl rfl bp (by simp[aGr]) (by omega) (by unfold o0;omega) (by omega) bu (ak+1) (by simp) ?_;intro g4 cf G ap ao cj cl;have a8:Hid (d7 F G):=I ((a5.a _).gr ao (λr z=>(bv r z).1));have k5:G ⟨p,3,J⟩=M (O (M ⟨gb,0,J⟩) H cap):=a8.c (by rw[<- ad.o];exact y6 _ _ 3 _ _ _ ar.box);have ba:=I ap;clear ap ao cj cl)
       | (at_builtin;refine r6 _ rfl _ _ 32 rfl F 80 ib _ 7 88 underlying32 bk bl b0 b1 rfl (by decide) _ (j+1) _ rfl ba ⟨gb,j*7,J⟩ _ _ (y.drop j).flatten rfl (by first|exact az|(rw[az.o];omega)) (λh aa hj=>jZ a8 (ct _ (.inl rfl) h aa hj)) cr (by unfold o0;omega) (by omega) a8.size ?_;intro v9 P U bg cz;obtain⟨n9,bh,U⟩:∃ n9,n9=H+1/\P.ownsRow F 80 7 v9 n9 ((y.take j).flatten++[Y Z x.Id,Y Z x.P.B,Y Z x.P.D,Y Z x.P.C,Y Z x.P.E,O D x.P.A.length E,O (M ⟨vb,vo,J⟩) K.length vc]++(y.drop j).flatten):=⟨_,by omega,U⟩;obtain⟨g9,dq,rfl⟩:=kO U (by omega);have ca:=I bh;have av:Hid (d7 F P):=I (a8.gr (v:=O (M ⟨g4,0,J⟩) (j+1) cf) bg (λr z=>by have e1:=bN ba g4 rfl;have e2:=b7 z;have e3:g4=r:=e2;omega));have ay:=I (aZ ar.box av);have c9:=I (bN U g9 rfl);have dl:=I U;have k9:P ⟨p,3,J⟩=M (O (M ⟨gb,0,J⟩) H cap):=(by rw[<- ad.o];exact y6 _ _ 3 _ _ _ ay);have g3:=x4 P p 3 _ _ ay;clear U bg cz bh))
      all_goals
       have ai:iJ t s.G b x=b.take j++⟨x.Id,x.P,K⟩::b.drop j:=by
        rw[ed.o];exact uD (x:=⟨x.Id,x.P,K⟩) (by rw[ad.o];omega) bo (λy' a6=>by rw[HY.o] at a6;cases a6;show ¬ g.Id<x.Id;omega)
       have hlen:(iJ t s.G b x).length=n9:=by rw[Ep,ad.o,ca.o]
       have bR:=fu P g9 n9 dq j [Y Z x.Id,Y Z x.P.B,Y Z x.P.D,Y Z x.P.C,Y Z x.P.E,O D x.P.A.length E,O (M ⟨vb,vo,J⟩) K.length vc] ⟨x.Id,x.P,K⟩ av c9 (by omega) dk.1 di dk.2 fq dl ca;rw[<- ai,<- hlen] at bR;have bQ:=ar.anew av c9 bR;have e:(m++[x.Id]).length=m.length+1:=by simp
       rw[hlen,e] at bQ;have ef:=I bQ;clear ai hlen bR bQ;go_roundw;exact⟨_,_,h+1,iJ t s.G b x,m++[x.Id],d,by go_num,by omega,ef,b2,I (by rw[e];have:=ah.o;omega)⟩;simp[intOf];omega
     have hd:=deF fb;have eT:=z8 j H;have gA:=deF eT;by_cases hc:cap=j
     focus
      skip
      go_wp2;go_quiet (fail);obtain⟨a5,br,bp⟩:=zq (bd.r ((b8 wr).dn nq)) ((aJ b6 ((b8 wr).dn nq)).alloc (zt #[x.Id,x.P.B,x.P.D,x.P.C,x.P.E,O D x.P.A.length E,O (M ⟨vb,vo,J⟩) K.length vc] 80)) (Dg (wr.drewN nq) [Y Z x.Id,Y Z x.P.B,Y Z x.P.D,Y Z x.P.C,Y Z x.P.E,O D x.P.A.length E,O (M ⟨vb,vo,J⟩) K.length vc] 80 rfl);obtain⟨bu,bv⟩:=zr (show F.heap.size<=((wr.drewN nq).alloc (zt #[x.Id,x.P.B,x.P.D,x.P.C,x.P.E,O D x.P.A.length E,O (M ⟨vb,vo,J⟩) K.length vc] 80)).heap.size from (a5.a _).size) b6.lt;clear X f0 f1 f2 f3 f4 f5 f6;obtain⟨f0,f1,f2,f3,f4,f5,f6,_⟩:=eH (aZ dn a5);generalize wr.drewN nq=ak at *;have ct:=I (show ∀ o,(o=j*7\/H<=j)->∀ (h:Nat) v,(y.drop j).flatten[h]?=M v->F ((⟨gb,o,J⟩:Addr).add h)=M v from λo ho h v N=>by
       rcases ho with ho|hc
       ·rw[ho,Jw];refine dm _ v ?_;rw[<- fJ y HQ.2.1,aGG] at N;exact N
       have h0:y.drop j=[]:=aIz (by rw[HQ.1];omega);rw[h0] at N;simp at N)
      have az:=I (by rw[iP _ (λcs hm=>HQ.2.1 cs (aI3 hm)),aI4,HQ.1]:(y.drop j).flatten.length=(H-j)*7);have cr:=I (show ∀ v∈(y.drop j).flatten,v.oneCell'=true from λv N=>HQ.2.2 v (by
       rw[<- fJ y HQ.2.1] at N;exact aI3 N))
      have gx:(j:Int)<=(H:Int):=by omega
      go_wp2_with (first
       | (at_builtin;refine n8 _ rfl _ _ 32 rfl F 80 ib _ 7 88 underlying32 bk bl b0 b1 rfl (by decide) u27 j (y.take j).flatten rfl br ⟨ak,0,J⟩ 1 1 [Y Z x.Id,Y Z x.P.B,Y Z x.P.D,Y Z x.P.C,Y Z x.P.E,O D x.P.A.length E,O (M ⟨vb,vo,J⟩) K.length vc] rfl rfl bp (by simp[aGr]) (by omega) (by unfold o0;omega) (by omega) bu (ak+1) (by simp) ?_;intro g4 cf G ap ao cj cl;have a8:Hid (d7 F G):=I ((a5.a _).gr ao (λr z=>(bv r z).1));have k5:G ⟨p,3,J⟩=M (O (M ⟨gb,0,J⟩) H cap):=a8.c (by rw[<- ad.o];exact y6 _ _ 3 _ _ _ ar.box);have ba:=I ap;clear ap ao cj cl)
       | (at_builtin;refine r6 _ rfl _ _ 32 rfl F 80 ib _ 7 88 underlying32 bk bl b0 b1 rfl (by decide) _ (j+1) _ rfl ba ⟨gb,0,J⟩ _ _ (y.drop j).flatten rfl (by first|exact az|(rw[az.o];omega)) (λh aa hj=>jZ a8 (ct _ (.inr (by omega)) h aa hj)) cr (by unfold o0;omega) (by omega) a8.size ?_;intro v9 P U bg cz;obtain⟨n9,bh,U⟩:∃ n9,n9=H+1/\P.ownsRow F 80 7 v9 n9 ((y.take j).flatten++[Y Z x.Id,Y Z x.P.B,Y Z x.P.D,Y Z x.P.C,Y Z x.P.E,O D x.P.A.length E,O (M ⟨vb,vo,J⟩) K.length vc]++(y.drop j).flatten):=⟨_,by omega,U⟩;obtain⟨g9,dq,rfl⟩:=kO U (by omega);have ca:=I bh;have av:Hid (d7 F P):=I (a8.gr (v:=O (M ⟨g4,0,J⟩) (j+1) cf) bg (λr z=>by have e1:=bN ba g4 rfl;have e2:=b7 z;have e3:g4=r:=e2;omega));have ay:=I (aZ ar.box av);have c9:=I (bN U g9 rfl);have dl:=I U;have k9:P ⟨p,3,J⟩=M (O (M ⟨gb,0,J⟩) H cap):=(by rw[<- ad.o];exact y6 _ _ 3 _ _ _ ay);have g3:=x4 P p 3 _ _ ay;clear U bg cz bh))
     rotate_left
     focus
      skip
      go_wp2;go_quiet (fail);obtain⟨a5,br,bp⟩:=zq (bd.r ((b8 wr).dn nq)) ((aJ b6 ((b8 wr).dn nq)).alloc (zt #[x.Id,x.P.B,x.P.D,x.P.C,x.P.E,O D x.P.A.length E,O (M ⟨vb,vo,J⟩) K.length vc] 80)) (Dg (wr.drewN nq) [Y Z x.Id,Y Z x.P.B,Y Z x.P.D,Y Z x.P.C,Y Z x.P.E,O D x.P.A.length E,O (M ⟨vb,vo,J⟩) K.length vc] 80 rfl);obtain⟨bu,bv⟩:=zr (show F.heap.size<=((wr.drewN nq).alloc (zt #[x.Id,x.P.B,x.P.D,x.P.C,x.P.E,O D x.P.A.length E,O (M ⟨vb,vo,J⟩) K.length vc] 80)).heap.size from (a5.a _).size) b6.lt;clear X f0 f1 f2 f3 f4 f5 f6;obtain⟨f0,f1,f2,f3,f4,f5,f6,_⟩:=eH (aZ dn a5);generalize wr.drewN nq=ak at *;have ct:=I (show ∀ o,(o=j*7\/H<=j)->∀ (h:Nat) v,(y.drop j).flatten[h]?=M v->F ((⟨gb,o,J⟩:Addr).add h)=M v from λo ho h v N=>by
       rcases ho with ho|hc
       ·rw[ho,Jw];refine dm _ v ?_;rw[<- fJ y HQ.2.1,aGG] at N;exact N
       have h0:y.drop j=[]:=aIz (by rw[HQ.1];omega);rw[h0] at N;simp at N)
      have az:=I (by rw[iP _ (λcs hm=>HQ.2.1 cs (aI3 hm)),aI4,HQ.1]:(y.drop j).flatten.length=(H-j)*7);have cr:=I (show ∀ v∈(y.drop j).flatten,v.oneCell'=true from λv N=>HQ.2.2 v (by
       rw[<- fJ y HQ.2.1] at N;exact aI3 N))
      have gx:(j:Int)<=(H:Int):=by omega
      go_wp2_with (first
       | (at_builtin;refine n8 _ rfl _ _ 32 rfl F 80 ib _ 7 88 underlying32 bk bl b0 b1 rfl (by decide) u27 j (y.take j).flatten rfl br ⟨ak,0,J⟩ 1 1 [Y Z x.Id,Y Z x.P.B,Y Z x.P.D,Y Z x.P.C,Y Z x.P.E,O D x.P.A.length E,O (M ⟨vb,vo,J⟩) K.length vc] rfl rfl bp (by simp[aGr]) (by omega) (by unfold o0;omega) (by omega) bu (ak+1) (by simp) ?_;intro g4 cf G ap ao cj cl;have a8:Hid (d7 F G):=I ((a5.a _).gr ao (λr z=>(bv r z).1));have k5:G ⟨p,3,J⟩=M (O (M ⟨gb,0,J⟩) H cap):=a8.c (by rw[<- ad.o];exact y6 _ _ 3 _ _ _ ar.box);have ba:=I ap;clear ap ao cj cl)
       | (at_builtin;refine r6 _ rfl _ _ 32 rfl F 80 ib _ 7 88 underlying32 bk bl b0 b1 rfl (by decide) _ (j+1) _ rfl ba ⟨gb,j*7,J⟩ _ _ (y.drop j).flatten rfl (by first|exact az|(rw[az.o];omega)) (λh aa hj=>jZ a8 (ct _ (.inl rfl) h aa hj)) cr (by unfold o0;omega) (by omega) a8.size ?_;intro v9 P U bg cz;obtain⟨n9,bh,U⟩:∃ n9,n9=H+1/\P.ownsRow F 80 7 v9 n9 ((y.take j).flatten++[Y Z x.Id,Y Z x.P.B,Y Z x.P.D,Y Z x.P.C,Y Z x.P.E,O D x.P.A.length E,O (M ⟨vb,vo,J⟩) K.length vc]++(y.drop j).flatten):=⟨_,by omega,U⟩;obtain⟨g9,dq,rfl⟩:=kO U (by omega);have ca:=I bh;have av:Hid (d7 F P):=I (a8.gr (v:=O (M ⟨g4,0,J⟩) (j+1) cf) bg (λr z=>by have e1:=bN ba g4 rfl;have e2:=b7 z;have e3:g4=r:=e2;omega));have ay:=I (aZ ar.box av);have c9:=I (bN U g9 rfl);have dl:=I U;have k9:P ⟨p,3,J⟩=M (O (M ⟨gb,0,J⟩) H cap):=(by rw[<- ad.o];exact y6 _ _ 3 _ _ _ ay);have g3:=x4 P p 3 _ _ ay;clear U bg cz bh))
     all_goals
      all_goals
       have ai:iJ t s.G b x=b.take j++⟨x.Id,x.P,K⟩::b.drop j:=by
        rw[ed.o];exact uD (x:=⟨x.Id,x.P,K⟩) (by rw[ad.o];omega) bo (λy' a6=>by have u:=(aGw.1 a6).1;rw[ad.o] at u;omega)
       have hlen:(iJ t s.G b x).length=n9:=by rw[Ep,ad.o,ca.o]
       have bR:=fu P g9 n9 dq j [Y Z x.Id,Y Z x.P.B,Y Z x.P.D,Y Z x.P.C,Y Z x.P.E,O D x.P.A.length E,O (M ⟨vb,vo,J⟩) K.length vc] ⟨x.Id,x.P,K⟩ av c9 (by omega) dk.1 di dk.2 fq dl ca;rw[<- ai,<- hlen] at bR;have bQ:=ar.anew av c9 bR;have e:(m++[x.Id]).length=m.length+1:=by simp
       rw[hlen,e] at bQ;have ef:=I bQ;clear ai hlen bR bQ;go_roundw;exact⟨_,_,h+1,iJ t s.G b x,m++[x.Id],d,by go_num,by omega,ef,b2,I (by rw[e];have:=ah.o;omega)⟩;simp[intOf];omega
  obtain rfl:h=al:=by omega
  have F:=bn.go;rw[List.drop_of_length_le (by rw[db.o];exact aGi _)] at F;have j:lD s k f=(b,m,d):=hu.trans F.symm;have ag:=I (ft.o▸Q.box);have e0:wr ⟨p,0,J⟩=M (Y Z s.G):=y6 _ _ 0 _ _ _ ag;have e1:wr ⟨p,1,J⟩=M (Y Z s.H):=y6 _ _ 1 _ _ _ ag;have e2:wr ⟨p,2,J⟩=M (O (M ⟨gq,0,J⟩) n qc):=y6 _ _ 2 _ _ _ ag;have e3:wr ⟨p,3,J⟩=M (O (M ⟨gb,0,J⟩) b.length cap):=y6 _ _ 3 _ _ _ ag;obtain⟨HZ,bq,K⟩:=zq (fL _ Q.e) (Q.own) (Vb (q:=k) H0 H2);have H:∀ g∈m++d,I64 g:=λg V=>by
   have hp:=K.perm;rw[j] at hp;obtain⟨U,N,rfl⟩:=List.mem_map.1 (hp.subset V);obtain⟨_,q1,q2⟩:=fo U (by rw[<- da.o];exact(jS _).symm.subset N);have:=hn.o;unfold I64;omega
  have eg:=I (show StS w (wr.setRow (w+1) #[s.G,s.H,O (M ⟨gq,0,J⟩) n qc,O (M ⟨gb,0,J⟩) b.length cap]) (O (M ⟨gq,0,J⟩) n qc) (O (M ⟨gb,0,J⟩) b.length cap) (qP s k f) from .inl (by
   have u:=(((bq.under (r:=w+1) (by have:=em.o;omega)).kept (aQ wr (w+1) #[s.G,s.H,O (M ⟨gq,0,J⟩) n qc,O (M ⟨gb,0,J⟩) b.length cap]) (aHv ..)).low (ex2:=[]) (B2:=w.heap.size) bw.size (λr z=>by cases z));have e:(qP s k f).F=b:=by show (lD s k f).1=b;rw[j]
   have e':(qP s k f).K=t:=dh.o;rw[e,e'];rw[ft.o] at u;exact u))
  obtain⟨eo,a5,el⟩:=zq ((bw.r Q.e).sr (b:=w+1) (by omega) #[s.G,s.H,O (M ⟨gq,0,J⟩) n qc,O (M ⟨gb,0,J⟩) b.length cap]) (x5 wr (w+1) _ #[s.G,s.H,O (M ⟨gq,0,J⟩) n qc,O (M ⟨gb,0,J⟩) b.length cap] _ _ HZ) (by rw[HR.o,j]:g0=(qP s k f,m,d,0));have a7:=em.o;obtain⟨U,N⟩:=zr (pD (eW Q.mrow (aQ wr (w+1) #[s.G,s.H,O (M ⟨gq,0,J⟩) n qc,O (M ⟨gb,0,J⟩) b.length cap]) (λr z e=>by have:=(Q.mrow.lt r z).1;have:=b7 e;omega)) (λg V=>H g (aHV _ V)) (by have:=ah.o;omega)) (pD (eW Q.drow (aQ wr (w+1) #[s.G,s.H,O (M ⟨gq,0,J⟩) n qc,O (M ⟨gb,0,J⟩) b.length cap]) (λr z e=>by have:=(Q.drow.lt r z).1;have:=b7 e;omega)) (λg V=>H g (aHW _ V)) (by have:=ah.o;omega));clear F j H a7;go_wp2_with (refine z6 (w+1) #[s.G,s.H,O (M ⟨gq,0,J⟩) n qc,O (M ⟨gb,0,J⟩) b.length cap] HZ ?_);exact v6 (dM (u1:=7) (u2:=8) (u3:=9) rfl _ _ (w+1) 34 #[s.G,s.H,O (M ⟨gq,0,J⟩) n qc,O (M ⟨gb,0,J⟩) b.length cap] (0,0) _ rfl a5 underlying34 rfl size34) rfl (vK (s:=qP s k f) el eg U N eo)
 obtain⟨d9,q,ho⟩:=zG hf;obtain⟨x,hx,dz⟩:=Mm b5 aw ho;rw[yP ho] at HT;obtain⟨ds,bi⟩:=zr ho hx;clear hf ho hx dz;go_wp2_with fail;refine HT.m ?_;rintro e ab ⟨rfl,aj⟩;clear k0 k2 X;have a0:=I (HA.later aj);have VI:=I (Pq ab s.G s.H _ _ t b d9 q a0.own.tree a0.own.books b5 aw cx);have k0:ab ⟨p,0,J⟩=M (Y Z s.G):=y6 _ _ 0 _ _ _ a0.box;have k1:ab ⟨p,1,J⟩=M (Y Z s.H):=y6 _ _ 1 _ _ _ a0.box;have k2:ab ⟨p,2,J⟩=M (O (M ⟨gq,0,J⟩) t.length qc):=y6 _ _ 2 _ _ _ a0.box;have X:ab ⟨p,3,J⟩=M (O (M ⟨gb,0,J⟩) b.length cap):=y6 _ _ 3 _ _ _ a0.box;clear aj HT;go_wp2_with fail;refine VI.m ?_;rintro e ao ⟨rfl,dl⟩;clear k0 k1 k2 X;obtain⟨ar,cl⟩:=zr (a0.later dl) (cc.step ds bi);have av:=I (aGw.1 bi).1;clear dl VI a0;have cd:=I (uP HA);generalize qB t b d9 q=kv at *;have dq:=I (by have h1:=cc.perm.length_eq;rw[aGb] at h1;have:=dj.o;have:=av.o;omega:a.length+1<=12);obtain⟨A,hA⟩:∃ A,iY a=A:=⟨_,rfl⟩;have da:=I hA;rw[hA] at ar;have db:=I (show A.length=a.length from hA▸(jS a).length_eq);obtain⟨al,ch⟩:∃ al,A.length=al:=⟨_,rfl⟩;have ap:=I ch;have ef:al+1<=12:=by have:=db.o;have:=dq.o;omega
 clear HA hA ch;obtain⟨y,o1,o2,o3,_⟩:=ar.away;obtain⟨pv,bz,⟨c0,c1,c2,c3,c4,c5,c6⟩,dk,cz,ct,df,cw⟩:=ar.own.take1 rfl bi;obtain⟨D,E,fd,_⟩:=dk.i;obtain⟨be,bf,eL,_⟩:=cz.i;subst fd eL;have X:ao ⟨p,3,J⟩=M (O (M ⟨gb,0,J⟩) b.length cap):=y6 _ _ 3 _ _ _ ar.box;obtain⟨cj,bn,bh,ax⟩:=zp (aDR ao [Y Z x.Id,Y Z x.P.B,Y Z x.P.D,Y Z x.P.C,Y Z x.P.E,O D x.P.A.length E,O be x.L.length bf] rfl) (aJ o1 ((b8 ao).a (zt #[x.Id,x.P.B,x.P.D,x.P.C,x.P.E,O D x.P.A.length E,O be x.L.length bf] 80))) (And.intro o2 o3) (And.intro ct (And.intro df cw));have eo:kv<b.length:=av.o;have ep:=z7 kv b.length;have el:(0:Int)<=(kv:Int):=by omega
 clear o1 o2 o3 dk cz ct df cw;rw[ap.o] at bn;go_wp2_with (at_builtin;refine Ch rfl _ _ 32 rfl ao 80 ib _ 7 88 underlying32 bk bl b0 b1 rfl (by decide) ao 1 1 _ rfl cj (aGi _) u12 T al y.flatten rfl bn bh.1.one (by unfold o0;omega) (by omega) (by simp) ?_;intro v2 dp az de);obtain⟨ac,hN⟩:∃ ac,1+al=ac:=⟨_,rfl⟩;rw[hN] at az;obtain⟨g2,cap2,rfl⟩:=kO az (by omega);have cF:=bN az g2 rfl;have dm:d7 ao dp:=((b8 ao).a _).gr (v:=O (M ⟨ao,0,J⟩) 1 1) de (λr z=>by have e:=b7 z;have e2:ao.heap.size=r:=e;omega);have cq:=ar.pre bh.1 bh.2 ax.1 ax.2.1 ax.2.2 dm cF az (by rw[ap.o];omega);have cf:=I hN;have dr:Hid (dZ T p gq qc gb cap s.G s.H t b (A.take 0++x::A.drop 0) (O (M ⟨g2,0,J⟩) ac cap2) dp):=I cq;have di:=I ax.2.1;have dn:=(eI ax.1).2.2.2;have bd:=I dn;clear az de dm cq cF hN ar cj bn bh ax X c0 c1 c2 c3 c4 c5 c6 dn;go_wp2;go_loopw [17] (λC wi=>∃ h:Nat,C=Y Z h/\h<=al/\Hid (dZ T p gq qc gb cap s.G s.H t b (A.take h++x::A.drop h) (O (M ⟨g2,0,J⟩) ac cap2) wi)/\Hid (∀ (C:Nat) (g:aH),C<h->A[C]?=M g->g.Id<x.Id)) (λC _=>al-(intOf C).toNat);exact⟨0,rfl,aGI _,dr,I (λC g u=>by omega)⟩;obtain⟨h,rfl,hj,ay,bo⟩:=hrel;by_cases dD:h<al
 ·obtain⟨g,V⟩:=aV (f:=A) (k:=h) (by rw[ap.o];exact dD);obtain⟨bp,br⟩:=aFL (x:=x) (show h<=A.length by rw[ap.o];omega) V;obtain⟨eq,e9,⟨c0,c1,c2,c3,c4,c5,c6⟩,c8,cr,b4⟩:=ay.away.at bp;obtain⟨hZ,hG,⟨d0,d1,d2,d3,d4,d5,d6⟩,am,cs,b6⟩:=ay.away.at br;obtain⟨Q,U,f8,_⟩:=(eI c8).1.i;obtain⟨K,N,f9,_⟩:=(eI c8).2.1.i;obtain⟨a3,a4,dt,_⟩:=(eI am).1.i;obtain⟨a1,a2,dx,_⟩:=(eI am).2.1.i;subst f8 f9 dt dx;obtain⟨HY,H1,c9⟩:=zq V (And.intro c8 cr) (And.intro am cs);have bv:h+1<ac:=by have:=cf.o;omega
  have bu:(h:Int)+1<(ac:Int):=by omega
  have dT:=deT bv;have ei:h<ac:=by omega
  have ek:=z7 h ac;have eg:(0:Int)<=(h:Int)+1:=by omega
  have gw:(0:Int)<=(h:Int):=by omega
  have e6:IntKind.i64.wrap ((h:Int)+1)=(h:Int)+1:=by rw[IntKind.wrap_i64];omega
  have dA:=deT bu;have HJ:=I (And.intro bp br);clear c8 cr am cs b4 b6 bp br V;by_cases hl:g.Id<x.Id
  ·have ck:=deT hl;go_wp2;go_quiet (fail);go_wp2_with fail;obtain⟨ca,a7,dc,dd⟩:=zp (ay.later ((b8 wr).dn nq)) (show ∀ W,d7 (wr.drewN nq) W->W ⟨g2,h*7,J⟩=M (Y Z x.Id)/\W ⟨g2,h*7+1,J⟩=M (Y Z x.P.B)/\W ⟨g2,h*7+2,J⟩=M (Y Z x.P.D)/\W ⟨g2,h*7+3,J⟩=M (Y Z x.P.C)/\W ⟨g2,h*7+4,J⟩=M (Y Z x.P.E)/\W ⟨g2,h*7+5,J⟩=M (O Q x.P.A.length U)/\W ⟨g2,h*7+6,J⟩=M (O K x.L.length N)/\W ⟨g2,(h+1)*7,J⟩=M (Y Z g.Id)/\W ⟨g2,(h+1)*7+1,J⟩=M (Y Z g.P.B)/\W ⟨g2,(h+1)*7+2,J⟩=M (Y Z g.P.D)/\W ⟨g2,(h+1)*7+3,J⟩=M (Y Z g.P.C)/\W ⟨g2,(h+1)*7+4,J⟩=M (Y Z g.P.E)/\W ⟨g2,(h+1)*7+5,J⟩=M (O a3 g.P.A.length a4)/\W ⟨g2,(h+1)*7+6,J⟩=M (O a1 g.L.length a2) from λW j=>⟨j.c (((b8 wr).dn nq).c c0),j.c (((b8 wr).dn nq).c c1),j.c (((b8 wr).dn nq).c c2),j.c (((b8 wr).dn nq).c c3),j.c (((b8 wr).dn nq).c c4),j.c (((b8 wr).dn nq).c c5),j.c (((b8 wr).dn nq).c c6),j.c (((b8 wr).dn nq).c d0),j.c (((b8 wr).dn nq).c d1),j.c (((b8 wr).dn nq).c d2),j.c (((b8 wr).dn nq).c d3),j.c (((b8 wr).dn nq).c d4),j.c (((b8 wr).dn nq).c d5),j.c (((b8 wr).dn nq).c d6)⟩) (H1.1.m ((b8 wr).dn nq)) (c9.1.m ((b8 wr).dn nq));generalize wr.drewN nq=i at *
   go_cut [18,19] from 82 to 120 (λj p2 W=>∃ (B1 B2:Nat),j=zz (M ⟨B1,0,J⟩)/\p2=zz (M ⟨B2,0,J⟩)/\Hid (W.heap[B1]?=M (zt #[x.Id,x.P.B,x.P.D,x.P.C,x.P.E,O Q x.P.A.length U,O K x.L.length N] 80 (0,0)))/\Hid (W.heap[B2]?=M (zt #[g.Id,g.P.B,g.P.D,g.P.C,g.P.E,O a3 g.P.A.length a4,O a1 g.L.length a2] 80 (0,0)))/\i<=B1/\i<=B2/\d7 i W)
   case first=>
    refine wp_region_held_drew (S:=λW=>W ⟨g2,h*7,J⟩=M (Y Z x.Id)/\W ⟨g2,h*7+1,J⟩=M (Y Z x.P.B)/\W ⟨g2,h*7+2,J⟩=M (Y Z x.P.D)/\W ⟨g2,h*7+3,J⟩=M (Y Z x.P.C)/\W ⟨g2,h*7+4,J⟩=M (Y Z x.P.E)/\W ⟨g2,h*7+5,J⟩=M (O Q x.P.A.length U)/\W ⟨g2,h*7+6,J⟩=M (O K x.L.length N)/\W ⟨g2,(h+1)*7,J⟩=M (Y Z g.Id)/\W ⟨g2,(h+1)*7+1,J⟩=M (Y Z g.P.B)/\W ⟨g2,(h+1)*7+2,J⟩=M (Y Z g.P.D)/\W ⟨g2,(h+1)*7+3,J⟩=M (Y Z g.P.C)/\W ⟨g2,(h+1)*7+4,J⟩=M (Y Z g.P.E)/\W ⟨g2,(h+1)*7+5,J⟩=M (O a3 g.P.A.length a4)/\W ⟨g2,(h+1)*7+6,J⟩=M (O a1 g.L.length a2)) (by kernel_rfl) (a7 _ (b8 i).dr) (λaf=>?_);clear c0 c1 c2 c3 c4 c5 c6 d0 d1 d2 d3 d4 d5 d6;refine tkH 0 ?_;refine tkH 1 ?_;refine tkH 2 ?_;refine tkH 3 ?_;refine tkH 4 ?_;refine tkH 5 ?_;refine tkH 6 ?_;refine tkH 7 ?_;refine tkH 8 ?_;refine wpAnyH_ready (rs:=[9,10]) (by kernel_rfl) (by simp) ?_;refine AllReadyH.cons rfl (λR B=>?_) (AllReadyH.cons rfl (λR B=>?_) AllReadyH.nil)
    all_goals simp only[zA,zB,zC]
    ·go_simp;obtain⟨H,ad⟩:∃ H,(i.alloc (zt #[Y Z 0,Y Z 0,Y Z 0,Y Z 0,Y Z 0,O J 0 0,O J 0 0] 80)).drew=H:=⟨_,rfl⟩;rw[ad];have ba:d7 i H:=ad▸((b8 i).a _).dr;have bQ:H.heap[i.heap.size]?=M (zt #[Y Z 0,Y Z 0,Y Z 0,Y Z 0,Y Z 0,O J 0 0,O J 0 0] 80 (0,0)):=ad▸y7 i _;have bR:H.heap.size=i.heap.size+1:=by rw[<- ad];exact aHb ..
     refine B.out _ _ (a7 _ ba) λaf=>?_
     clear B R;refine goH 10 λR B=>?_;simp only[zA,zB,zC];go_simp;obtain⟨F,ah⟩:∃ F,H.alloc (zt #[Y Z 0,Y Z 0,Y Z 0,Y Z 0,Y Z 0,O J 0 0,O J 0 0] 80)=F:=⟨_,rfl⟩;rw[ah];have bc:d7 i F:=ah▸ba.a _;have aq:F.heap[i.heap.size]?=M (zt #[Y Z 0,Y Z 0,Y Z 0,Y Z 0,Y Z 0,O J 0 0,O J 0 0] 80 (0,0)):=aZ bQ (ah▸(b8 H).a _);have ae:F.heap[i.heap.size+1]?=M (zt #[Y Z 0,Y Z 0,Y Z 0,Y Z 0,Y Z 0,O J 0 0,O J 0 0] 80 (0,0)):=by rw[<- bR,<- ah];exact y7 H _
     refine B.out _ _ (a7 _ bc) λaf=>?_
     clear B R;refine goH 11 λR B=>?_;simp only[zA,zB,zC];rw[c7 (by rfl)];refine o7 80 _ _ rfl (i.heap.size) #[x.Id,x.P.B,x.P.D,x.P.C,x.P.E,O Q x.P.A.length U,O K x.L.length N] rfl rfl 80 _ aq size80 rfl (by simp[aGr]) ?_;obtain⟨j,ak⟩:∃ j,F.setRow (i.heap.size) #[x.Id,x.P.B,x.P.D,x.P.C,x.P.E,O Q x.P.A.length U,O K x.L.length N]=j:=⟨_,rfl⟩;rw[ak];have a5:d7 i j:=ak▸bc.sr (b:=i) (by omega) _;have b2:j.heap[i.heap.size]?=M (zt #[x.Id,x.P.B,x.P.D,x.P.C,x.P.E,O Q x.P.A.length U,O K x.L.length N] 80 (0,0)):=ak▸x5 F (i.heap.size) _ _ _ _ aq;have b3:j.heap[i.heap.size+1]?=M (zt #[Y Z 0,Y Z 0,Y Z 0,Y Z 0,Y Z 0,O J 0 0,O J 0 0] 80 (0,0)):=((ak▸aQ F (i.heap.size) #[x.Id,x.P.B,x.P.D,x.P.C,x.P.E,O Q x.P.A.length U,O K x.L.length N]:F.grownBy j (M (i.heap.size))).block (i+1) (aGq.1 ae).1 (λe=>by have:=b7 e;omega)).trans ae;refine B.out _ _ (a7 _ a5) λaf=>?_
     clear B R;refine goH 12 λR B=>?_;simp only[zA,zB,zC];rw[c7 (by rfl)];refine o7 80 _ _ rfl (i+1) #[g.Id,g.P.B,g.P.D,g.P.C,g.P.E,O a3 g.P.A.length a4,O a1 g.L.length a2] rfl rfl 80 _ b3 size80 rfl (by simp[aGr]) ?_;obtain⟨Wd,an⟩:∃ Wd,j.setRow (i+1) #[g.Id,g.P.B,g.P.D,g.P.C,g.P.E,O a3 g.P.A.length a4,O a1 g.L.length a2]=Wd:=⟨_,rfl⟩;rw[an];have bg:d7 i Wd:=an▸a5.sr (b:=i+1) (by omega) _;have b4:Wd.heap[i.heap.size+1]?=M (zt #[g.Id,g.P.B,g.P.D,g.P.C,g.P.E,O a3 g.P.A.length a4,O a1 g.L.length a2] 80 (0,0)):=an▸x5 j (i+1) _ _ _ _ b3;have b6:Wd.heap[i.heap.size]?=M (zt #[x.Id,x.P.B,x.P.D,x.P.C,x.P.E,O Q x.P.A.length U,O K x.L.length N] 80 (0,0)):=((an▸aQ j (i+1) #[g.Id,g.P.B,g.P.D,g.P.C,g.P.E,O a3 g.P.A.length a4,O a1 g.L.length a2]:j.grownBy Wd (M (i+1))).block (i.heap.size) (aGq.1 b2).1 (λe=>by have:=b7 e;omega)).trans b2;refine B.out _ _ (a7 _ bg) λaf=>?_
     clear B R;refine dnH ?_;go_wp2_with fail;go_meet
     case rel=>exact⟨_,_,rfl,rfl,I b6,I b4,by omega,by omega,bg⟩
    go_simp;obtain⟨H,ad⟩:∃ H,(i.alloc (zt #[Y Z 0,Y Z 0,Y Z 0,Y Z 0,Y Z 0,O J 0 0,O J 0 0] 80)).drew=H:=⟨_,rfl⟩;rw[ad];have ba:d7 i H:=ad▸((b8 i).a _).dr;have bQ:H.heap[i.heap.size]?=M (zt #[Y Z 0,Y Z 0,Y Z 0,Y Z 0,Y Z 0,O J 0 0,O J 0 0] 80 (0,0)):=ad▸y7 i _;have bR:H.heap.size=i.heap.size+1:=by rw[<- ad];exact aHb ..
    refine B.out _ _ (a7 _ ba) λaf=>?_
    clear B R;refine goH 9 λR B=>?_;simp only[zA,zB,zC];go_simp;obtain⟨F,ah⟩:∃ F,H.alloc (zt #[Y Z 0,Y Z 0,Y Z 0,Y Z 0,Y Z 0,O J 0 0,O J 0 0] 80)=F:=⟨_,rfl⟩;rw[ah];have bc:d7 i F:=ah▸ba.a _;have aq:F.heap[i.heap.size]?=M (zt #[Y Z 0,Y Z 0,Y Z 0,Y Z 0,Y Z 0,O J 0 0,O J 0 0] 80 (0,0)):=aZ bQ (ah▸(b8 H).a _);have ae:F.heap[i.heap.size+1]?=M (zt #[Y Z 0,Y Z 0,Y Z 0,Y Z 0,Y Z 0,O J 0 0,O J 0 0] 80 (0,0)):=by rw[<- bR,<- ah];exact y7 H _
    refine B.out _ _ (a7 _ bc) λaf=>?_
    clear B R;refine goH 11 λR B=>?_;simp only[zA,zB,zC];rw[c7 (by rfl)];refine o7 80 _ _ rfl (i+1) #[x.Id,x.P.B,x.P.D,x.P.C,x.P.E,O Q x.P.A.length U,O K x.L.length N] rfl rfl 80 _ ae size80 rfl (by simp[aGr]) ?_;obtain⟨j,ak⟩:∃ j,F.setRow (i+1) #[x.Id,x.P.B,x.P.D,x.P.C,x.P.E,O Q x.P.A.length U,O K x.L.length N]=j:=⟨_,rfl⟩;rw[ak];have a5:d7 i j:=ak▸bc.sr (b:=i+1) (by omega) _;have b2:j.heap[i.heap.size+1]?=M (zt #[x.Id,x.P.B,x.P.D,x.P.C,x.P.E,O Q x.P.A.length U,O K x.L.length N] 80 (0,0)):=ak▸x5 F (i+1) _ _ _ _ ae;have b3:j.heap[i.heap.size]?=M (zt #[Y Z 0,Y Z 0,Y Z 0,Y Z 0,Y Z 0,O J 0 0,O J 0 0] 80 (0,0)):=((ak▸aQ F (i+1) #[x.Id,x.P.B,x.P.D,x.P.C,x.P.E,O Q x.P.A.length U,O K x.L.length N]:F.grownBy j (M (i+1))).block (i.heap.size) (aGq.1 aq).1 (λe=>by have:=b7 e;omega)).trans aq;refine B.out _ _ (a7 _ a5) λaf=>?_
    clear B R;refine goH 12 λR B=>?_;simp only[zA,zB,zC];rw[c7 (by rfl)];refine o7 80 _ _ rfl (i.heap.size) #[g.Id,g.P.B,g.P.D,g.P.C,g.P.E,O a3 g.P.A.length a4,O a1 g.L.length a2] rfl rfl 80 _ b3 size80 rfl (by simp[aGr]) ?_;obtain⟨Wd,an⟩:∃ Wd,j.setRow (i.heap.size) #[g.Id,g.P.B,g.P.D,g.P.C,g.P.E,O a3 g.P.A.length a4,O a1 g.L.length a2]=Wd:=⟨_,rfl⟩;rw[an];have bg:d7 i Wd:=an▸a5.sr (b:=i) (by omega) _;have b4:Wd.heap[i.heap.size]?=M (zt #[g.Id,g.P.B,g.P.D,g.P.C,g.P.E,O a3 g.P.A.length a4,O a1 g.L.length a2] 80 (0,0)):=an▸x5 j (i.heap.size) _ _ _ _ b3;have b6:Wd.heap[i.heap.size+1]?=M (zt #[x.Id,x.P.B,x.P.D,x.P.C,x.P.E,O Q x.P.A.length U,O K x.L.length N] 80 (0,0)):=((an▸aQ j (i.heap.size) #[g.Id,g.P.B,g.P.D,g.P.C,g.P.E,O a3 g.P.A.length a4,O a1 g.L.length a2]:j.grownBy Wd (M (i.heap.size))).block (i+1) (aGq.1 b2).1 (λe=>by have:=b7 e;omega)).trans b2;refine B.out _ _ (a7 _ bg) λaf=>?_
    clear B R;refine dnH ?_;go_wp2_with fail;go_meet
    case rel=>exact⟨_,_,rfl,rfl,I b6,I b4,by omega,by omega,bg⟩
   case rest=>
    obtain⟨B1,B2,rfl,rfl,bt,bb,ed,ee,a5⟩:=hcut;have dy:=(ca.ne (r:=g2) rfl).2.2.2.2;have j:=ca.later a5;obtain⟨_,_,_,_,_,ak⟩:=j.away.at HJ.1;have ah:=j.put (aGw.1 HJ.1).1 (dd.m a5) (j.live g (aGC HJ.2)) c9.2;obtain⟨L,F⟩:∃ L,wc.setCells g2 (h*7) (#[g.Id,g.P.B,g.P.D,g.P.C,g.P.E,O a3 g.P.A.length a4,O a1 g.L.length a2]:Array y5).toList=L:=⟨_,rfl⟩;have cy:wc.grownBy L (M g2):=F▸iC wc g2 _ _;have H:dZ T p gq qc gb cap s.G s.H t b ((A.take h++x::A.drop h).set h g) (O (M ⟨g2,0,J⟩) ac cap2) L:=F▸ah;have aq:L.heap[B1]?=M (zt #[x.Id,x.P.B,x.P.D,x.P.C,x.P.E,O Q x.P.A.length U,O K x.L.length N] 80 (0,0)):=(cy.block B1 (aGq.1 bt).1 (λe=>by have:=b7 e;omega)).trans bt;have af:((A.take h++x::A.drop h).set h g)[h+1]?=M g:=by rw[aHz (by omega)];exact HJ.2
    obtain⟨_,_,_,_,_,an⟩:=H.away.at af;have ad:=H.put (aGw.1 af).1 (gY (dc.m a5) cy (λaa e4 a n c e hm=>H1.2 aa e4 a n c e (by rw[aHf.1 hm];exact aHv ..))) di H1.2;rw[aE0 (by rw[ap.o];exact dD) HY.o] at ad;obtain⟨W3,ae⟩:∃ W3,L.setCells g2 ((h+1)*7) (#[x.Id,x.P.B,x.P.D,x.P.C,x.P.E,O Q x.P.A.length U,O K x.L.length N]:Array y5).toList=W3:=⟨_,rfl⟩;have b3:Hid (dZ T p gq qc gb cap s.G s.H t b (A.take (h+1)++x::A.drop (h+1)) (O (M ⟨g2,0,J⟩) ac cap2) W3):=I (ae▸ad);obtain⟨bg,bQ,ba,bc,bR⟩:=zm F ae ak an aq;obtain⟨e0,e1,e2,e3,ea,eb,ec,_⟩:=eH bb;have b2:=I (show ∀ (C:Nat) (y':aH),C<h+1->A[C]?=M y'->y'.Id<x.Id from λC y' hi a6=>by
     rcases aGD C h with u|u
     ·exact bo C y' u a6
     obtain rfl:C=h:=by omega
     rw[HY.o] at a6;cases a6;exact hl)
    clear dy j ak ah F cy H aq af an ad ae a5;obtain⟨f0,f1,f2,f3,f4,f5,f6,_⟩:=eH bR;go_wp2_with (first|(refine wpList_store_mid rfl 80 (.tmp 115) (.tmp 114) rfl g2 (h*7) #[g.Id,g.P.B,g.P.D,g.P.C,g.P.E,O a3 g.P.A.length a4,O a1 g.L.length a2] rfl rfl ba size80 (by simp[aGr]) ?_;rw[bg.o])|(refine wpList_store_mid rfl 80 (.tmp 120) (.tmp 119) rfl g2 ((h+1)*7) #[x.Id,x.P.B,x.P.D,x.P.C,x.P.E,O Q x.P.A.length U,O K x.L.length N] rfl rfl bc size80 (by simp[aGr]) ?_;rw[bQ.o]));go_roundw;exact⟨h+1,by go_num,by omega,b3,b2⟩;simp[intOf];omega
  have ck:=deF hl;go_wp2;go_quiet (fail);clear c0 c1 c2 c3 c4 c5 c6 d0 d1 d2 d3 d4 d5 d6;have ai:A.take h++x::A.drop h=iY (a++[x]):=by
   rw[Ls,da.o];exact(uD (by rw[ap.o];exact hj) bo (λy' a6=>by rw[HY.o] at a6;cases a6;omega)).symm
  have F:=ay.later ((b8 wr).dn nq);rw[ai] at F;have j:=I F;clear F ai;generalize wr.drewN nq=i at *;have WO:=I (show y8 prog 110 #[.agg #[s.G,s.H,O (M ⟨gq,0,J⟩) t.length qc,O (M ⟨gb,0,J⟩) b.length cap],Y Z (kv:Int)] i (λe w'=>∃ aa v,e=zv (.agg #[s.G,s.H,aa,v])/\cH [] i w' aa v t (b.eraseIdx kv)/\d7 i w'/\∃ cv cap,v=O (M ⟨cv,0,J⟩) (b.eraseIdx kv).length cap) from wP i _ _ ⟨s.G,s.H,t,b⟩ kv j.own.tree j.own.books b5 cx aw av);have k0:i ⟨p,0,J⟩=M (Y Z s.G):=y6 _ _ 0 _ _ _ j.box;have k1:i ⟨p,1,J⟩=M (Y Z s.H):=y6 _ _ 1 _ _ _ j.box;have k2:i ⟨p,2,J⟩=M (O (M ⟨gq,0,J⟩) t.length qc):=y6 _ _ 2 _ _ _ j.box;have X:i ⟨p,3,J⟩=M (O (M ⟨gb,0,J⟩) b.length cap):=y6 _ _ 3 _ _ _ j.box;go_wp2_with fail;refine WO.m ?_;rintro e an ⟨u20,ak,rfl,H,L,ad,a7,rfl⟩;obtain⟨ae,af,rfl,_,_⟩:=H.uform;obtain⟨a5,ah⟩:=zr (j.renew H L) (aZ j.box L);clear k0 k1 k2 X H L WO;go_wp2_with (refine z6 p #[s.G,s.H,O (M ⟨ae,0,J⟩) t.length af,O (M ⟨ad,0,J⟩) (b.eraseIdx kv).length a7] ah ?_);dsimp only[Act.put];go_roundw;exact⟨ae,af,ad,a7,b.eraseIdx kv,a++[x],a5,cl⟩;rw[uP a5.o,cd.o,aId av.o];omega
 obtain rfl:h=al:=by omega
 have bv:¬ h+1<ac:=by have:=cf.o;omega
 have bu:¬ (h:Int)+1<(ac:Int):=by omega
 have gw:(0:Int)<=(h:Int):=by omega
 have e6:IntKind.i64.wrap ((h:Int)+1)=(h:Int)+1:=by rw[IntKind.wrap_i64];omega
 have dA:=deF bu;have dT:=deF bv;go_wp2;go_quiet (fail);have ai:A.take h++x::A.drop h=iY (a++[x]):=by
  rw[Ls,da.o];exact(uD (by rw[ap.o];exact hj) bo (λy' a6=>by have u:=(aGw.1 a6).1;rw[ap.o] at u;omega)).symm
 have F:=ay.later ((b8 wr).dn nq);rw[ai] at F;have j:=I F;clear F ai;generalize wr.drewN nq=i at *;have WO:=I (show y8 prog 110 #[.agg #[s.G,s.H,O (M ⟨gq,0,J⟩) t.length qc,O (M ⟨gb,0,J⟩) b.length cap],Y Z (kv:Int)] i (λe w'=>∃ aa v,e=zv (.agg #[s.G,s.H,aa,v])/\cH [] i w' aa v t (b.eraseIdx kv)/\d7 i w'/\∃ cv cap,v=O (M ⟨cv,0,J⟩) (b.eraseIdx kv).length cap) from wP i _ _ ⟨s.G,s.H,t,b⟩ kv j.own.tree j.own.books b5 cx aw av);have k0:i ⟨p,0,J⟩=M (Y Z s.G):=y6 _ _ 0 _ _ _ j.box;have k1:i ⟨p,1,J⟩=M (Y Z s.H):=y6 _ _ 1 _ _ _ j.box;have k2:i ⟨p,2,J⟩=M (O (M ⟨gq,0,J⟩) t.length qc):=y6 _ _ 2 _ _ _ j.box;have X:i ⟨p,3,J⟩=M (O (M ⟨gb,0,J⟩) b.length cap):=y6 _ _ 3 _ _ _ j.box;go_wp2_with fail;refine WO.m ?_;rintro e an ⟨u20,ak,rfl,H,L,ad,a7,rfl⟩;obtain⟨ae,af,rfl,_,_⟩:=H.uform;obtain⟨a5,ah⟩:=zr (j.renew H L) (aZ j.box L);clear k0 k1 k2 X H L WO;go_wp2_with (refine z6 p #[s.G,s.H,O (M ⟨ae,0,J⟩) t.length af,O (M ⟨ad,0,J⟩) (b.eraseIdx kv).length a7] ah ?_);dsimp only[Act.put];go_roundw;exact⟨ae,af,ad,a7,b.eraseIdx kv,a++[x],a5,cl⟩;rw[uP a5.o,cd.o,aId av.o];omega
theorem We (w:y4) (c a b:y5) (s:aG) (q:Int) (f:List Run) (e:aK w c s.K) (hb:aS w a s.F) (g:aR w b f) (k:I64 q) :
  y8 prog 66 #[.agg #[s.G,s.H,c,a],q,b] w (nN w (bD s q f)):=by
 by_cases d:aI s=0
 ·by_cases i:0<=q/\q<s.K.length
  ·obtain⟨h,rfl⟩:∃ h:Nat,q=h:=⟨q.toNat,by omega⟩;by_cases j:eB f
   ·exact Qm w c a b s h f e hb g d (by omega) j
   exact Qn w c a b s h f e hb g d i j
  exact aAa w c a b s q f e hb g d i
 exact Vz w c a b s q f e hb g d
end Go.Proofs.YtaekdjbnldlklaaGreatDoor
