/- Runs and trees: the plain law of runs, and contracts of the packages runs and tree and of their references; each theorem names its own conditions. -/
import Derived.WalkKit
import Derived.Deep.Draws
import Derived.WalkSmall
import Derived.Deep.Quiet
import Derived.StillTail
import Derived.Tactics
import Derived.Test.YtaekdjbnldlklaaGreatDoorProg
import Derived.Deep.QuietTactic
import Derived.BigQuiet
import Derived.WalkLawsBesides
import Derived.WalkSpells
import Derived.Laws.Rows
import Derived.Laws.MakeOwn
import Derived.Deep.DeepCutAuto
import Derived.Deep.DeepMust
import Derived.Shelf.Abstract
import Derived.Laws.PanicsMore
import Derived.Laws.RangeAny
import Derived.Laws.RangeString
import Derived.Maps.Own
import Derived.Maps.OwnOps
import Derived.Maps.Views
import Derived.Maps.OwnSet
import Derived.RangeFuncNested
import Derived.RangeFuncBound
import Derived.RangeFuncCalls
import Derived.RangeFuncLeaves
import Derived.RangeFuncBox
import Derived.Shelf.RegionOpen
import Derived.OwnWalkIn
import Derived.TacticsInMore
import Derived.LoopNIn
import Derived.LoopIn
import Derived.Maps.AppendAt
import Derived.OrdersIn
import Derived.Deep.RegionHeld3
import Derived.Below
import Derived.Deep.Onto
import Derived.Deep.AppendLies
set_option linter.unusedVariables false
set_option maxRecDepth 100000
set_option maxHeartbeats 8000000
set_option linter.unusedSimpArgs false
namespace Go.RowKit
theorem Hid.o {p:Prop} (a:Hid p):p:=a
end Go.RowKit
theorem Eq.k {α:Type _} {a:Option α} {b c:α} (d:a=Option.some b) (e:b=c:=by kernel_rfl):a=Option.some c:=e▸d
namespace Go
theorem Calls.m {P:Program} {f:FuncId} {args:Array Value} {w:World} {a b:Ending→World→Prop} (d:Calls P f args w a) (k:∀ c w',a c w'→b c w'):Calls P f args w b:=d.mono k
theorem RowKit.Below.m {B a:Nat} {w w':World} (b:RowKit.Below B w w') (k:a≤B):RowKit.Below a w w':=b.mono k
theorem World.ownsRow.m {w:World} {base a:Nat} {e:TypeId} {size:Nat} {v:Value} {n:Nat} {xs:List Value} (b:w.ownsRow base e size v n xs) (k:a≤base):w.ownsRow a e size v n xs:=b.mono k
theorem World.ownsRow.i {w:World} {base:Nat} {e:TypeId} {size:Nat} {v:Value} {n:Nat} {xs:List Value} (c:w.ownsRow base e size v n xs) (k:0<n):∃ a b,v=.slice (Option.some ⟨a,0,Option.none⟩) n b∧base≤a∧a<w.heap.size:=c.form k
end Go
namespace Go.Proofs.YtaekdjbnldlklaaGreatDoor
open Tryz
open Go.RowKit
open List renaming setIfInBounds_toArray->zD,set_cons_zero->zE,set_cons_succ->zF
open _root_.List renaming append_nil->aG9,length_append->aGb,mem_cons_of_mem->aGc,cons_append->aGd,mem_append->aGe,getD_cons_zero->aGj,getD_cons_succ->aGk,getD->aGl,getElem?_eq_getElem->aGm,getElem_mem->aGn,mem_iff_getElem->aGo,length_cons->aGt,length_nil->aGu,eq_nil_of_length_eq_zero->aGv,getElem?_eq_some_iff->aGw,getElem?_take->aGA,mem_of_getElem?->aGC,getElem?_drop->aGG,mem_range->aGN,findIdx?_eq_some_iff_getElem->aGS,findIdx?_eq_none_iff->aGT,any_eq_false->aGU,any_eq_true->aGV,getD_eq_getElem?_getD->aGW,getElem_of_mem->aGX,mem_cons->aH1,size_toArray->aH2,push_toArray->aH7,append_toArray->aH8,nil_append->aH9,not_mem_nil->aHa,contains_iff_mem->aHc,mem_map->aHd,mem_singleton->aHf
open _root_.Nat renaming lt_irrefl->aGa,not_lt_zero->aGf,add_sub_cancel->aGg,le_refl->aGi,lt_of_lt_of_le->aGs,zero_add->aGx,add_assoc->aGB,lt_or_ge->aGD,add_comm->aGF,zero_le->aGI,zero_mul->aGL,add_zero->aGM,mul_one->aGP,le_trans->aGR,reduceAdd->aH3,reduceSub->aH4,le_succ->aHe
open _root_.Option renaming some->M,none->J,isSome_none->aGz
instance : Coe Int Value:=⟨λ n=>.int .i64 n⟩
instance : Coe Nat Value:=⟨λ n=>.int .i64 n⟩
instance : Coe World Nat := ⟨λ w=>w.heap.size⟩
open _root_.Int renaming le_refl->aGh,eq_ofNat_of_zero_le->aGJ,toNat_natCast->aGK
open Go.World renaming block_lt_of_cell?->aGp,cell?->aGy,ownsRow_nil->aGQ,alloc_heap_new->aGY,putObj_heap_same->aGZ,putObj_heap_other->aH0,size_alloc->aHb
open _root_.Array renaming getElem?_eq_some_iff->aGq,setIfInBounds_comm->aGE,getElem?_eq_none->aGH,getElem?_eq_getElem->aGO,replicate_succ->aH5,replicate_zero->aH6
open Go.Value renaming int->Y,oneCell'->aGr,slice->O
open Go.IntKind renaming i64->Z
open Go renaming Boxed→s9,Calls→y8,Ending→r8,IntKind→x8,KeepsFrom→o6,Oper→n7,Program→o9,TypeId→o8,Value→y5,World→y4,callFunc→i6,cell_of_row→y6,frozen_of_row→x4,heap_alloc_new→y7,heap_setCell_other→x7,heap_setCell_same→x6,info_parts→s8,maxLen→o0,run_takeDeferred→m7,undef→u5,wpList_append_own→r6,wpList_store_row→y9
open Go.Obj renaming cells→zt
open Go.Value renaming pointer→zz,bool→zx,string→b9,tuple→zw,func→zy
open Go.Ending renaming returned→zv
instance : CoeFun World λ_=>Addr→Option Value:=⟨World.cell?⟩
theorem d8 {c:Prop} {a:Decidable c} (k:¬c) {α:Sort _} {t e:α}:ite c t e=e:=if_neg k
theorem c7 {c:Prop} {a:Decidable c} (k:c) {α:Sort _} {t e:α}:ite c t e=t:=if_pos k
theorem b7 {α:Type _} {a b:α} (c:Option.some a=Option.some b):a=b:=Option.some.inj c
theorem z7 (k m:Nat) (a:k<m:=by omega):(k:Int)<(m:Int):=by omega
theorem z8 (k m:Nat) (a:¬ k<m:=by omega):¬ (k:Int)<(m:Int):=by omega
theorem z6 {ops:Array n7} {rest:List n7} {o:n7} {a:Act} {w:y4} {Q:Exit→Act→y4→Prop} {x y:Operand} {b:Array y5} (g:Nat) (cells:Array y5) (e:w.heap[g]?=some (zt b 34 (0,0))) (c:wpList Tryz.prog ops Q rest (a.put o.dst u5) (w.setRow g cells))
 (f:o.guard=none:=by rfl) (i:o.op=.store 34 x y:=by rfl) (j:a.eval x=zz (some ⟨g,0,none⟩):=by rfl) (k:a.eval y=.agg cells:=by rfl) (h:(Tryz.prog.info? 34).map (·.size)=some cells.size:=by exact size34) (hold:b.size=cells.size:=by rfl) (d:cells.all (·.oneCell')=true:=by simp [Value.oneCell']):wpList Tryz.prog ops Q (o::rest) a w:=y9 f 34 x y i g cells j k 34 b e h hold d c
structure Run where
 At:Int
 N:Int
 deriving DecidableEq
instance:Inhabited Run:=⟨⟨0,0⟩⟩
def cX (x:Nat->Int):Nat->List Run
 | 0=>[]
 | t+1=>cX x t++(if t=0\/x (t-1)≠x t then[⟨(t:Int),x t⟩] else[])
@[irreducible] def aY (x:Nat->Int):List Run:=cX x 48
def sp:List Run->Nat->Int
 | [],_=>0
 | [x],_=>x.N
 | x::y::l,t=>if y.At<=(t:Int) then sp (y::l) t else x.N
def jK:Run->List Run->Prop
 | _,[]=>True
 | x,y::l=>x.At<y.At/\y.At<48/\x.N≠y.N/\jK y l
def dK:List Run->Prop
 | []=>False
 | x::l=>x.At=0/\jK x l
def mO (n:Int):Prop:=-1048576<=n/\n<=1048576
instance (n:Int):Decidable (mO n):=inferInstanceAs (Decidable (_/\_))
def kL (f:List Run):Prop:=dK f/\∀ x∈f,mO x.N
theorem Ec {x y:Nat->Int}:∀ n,(∀ t,t<n->x t=y t)->cX x n=cX y n
 | 0,_=>rfl
 | n+1,h=>by
  simp only[cX];rw[Ec n (λt b=>h t (by omega)),h n (by omega)];by_cases a:n=0
  ·subst a;simp
  rw[h (n-1) (by omega)]
theorem Bk {x y:Nat->Int} (a:∀ t,t<48->x t=y t):aY x=aY y:=by unfold aY;exact Ec 48 a
theorem pU {x:Nat->Int} (n:Nat) (f:0<n):∀ a,(∀ t,n<=t->t<n+a->x t=x (n-1))->cX x (n+a)=cX x n
 | 0,_=>rfl
 | a+1,h=>by
  have d:n+(a+1)=(n+a)+1:=by omega
  rw[d];simp only[cX];rw[pU n f a (λt b c=>h t b (by omega))];have b:=h (n+a) (by omega) (by omega);have c:x (n+a-1)=x (n-1):=by
   by_cases e:a=0
   ·subst e;rfl
   exact h (n+a-1) (by omega) (by omega)
  have e:¬ (n+a=0):=by omega
  rw[d8 (by rw[b,c];simp;omega),aG9]
theorem pE {x:Nat->Int}:∀ n,0<n->cX x n≠[]
 | 0,a=>absurd a (aGa _)
 | 1,_=>by simp[cX]
 | n+2,_=>by
  have:=pE (x:=x) (n+1) (by omega);rw[cX];simp[this]
theorem rA {x:Nat->Int}:∀ n,(cX x n).length<=n
 | 0=>by simp[cX]
 | n+1=>by
  have:=rA (x:=x) n;simp only[cX,aGb];split <;> simp <;> omega
theorem sN {x:Nat->Int}:∀ n,0<n->∃ a,(cX x n).getLast?=M a/\a.N=x (n-1)/\0<=a.At/\a.At<=(n:Int)-1
 | 0,b=>absurd b (aGa _)
 | 1,_=>⟨⟨0,x 0⟩,by simp[cX],rfl,by simp,by simp⟩
 | n+2,_=>by
  obtain⟨a,d,e,f,g⟩:=sN (x:=x) (n+1) (by omega);rw[cX];by_cases b:n+1=0\/x (n+1-1)≠x (n+1)
  ·rw[c7 b];exact⟨⟨((n+1:Nat):Int),x (n+1)⟩,by simp,rfl,by simp only[];omega,by simp only[];omega⟩
  rw[d8 b,aG9];refine⟨a,d,?_,f,by omega⟩;rw[e];have:¬ (x (n+1-1)≠x (n+1)):=λc=>b (.inr c);exact Classical.not_not.1 this
theorem aBF:∀ (l:List Run) (r:Run) (t:Nat),l≠[]->(∀ x∈l,x.At<=r.At)->sp (l++[r]) t=if r.At<=(t:Int) then r.N else sp l t
 | [],_,_,h,_=>absurd rfl h
 | [x],r,t,_,_=>by simp[sp]
 | x::b::l,r,t,_,ha=>by
  have c:=aBF (b::l) r t (by simp) (λe d=>ha e (aGc _ d));simp only[aGd] at c ⊢;rw[sp,c];have f:=ha b (by simp);by_cases a:b.At<=(t:Int)
  ·simp only[c7 a,sp]
  simp only[d8 a];rw[d8 (by omega)];simp[sp,a]
theorem uM {x:Nat->Int}:∀ n b,b∈cX x n->0<=b.At/\b.At<(n:Int)
 | 0,_,a=>by simp[cX] at a
 | n+1,b,a=>by
  simp only[cX,aGe] at a;rcases a with a|a
  ·have:=uM n b a;omega
  split at a
  ·simp at a;subst a;simp only[];omega
  simp at a
theorem Qx {x:Nat->Int}:∀ n t,t<n->sp (cX x n) t=x t
 | 0,_,d=>absurd d (aGf _)
 | 1,t,d=>by
  have:t=0:=by omega
  subst this;simp[cX,sp]
 | n+2,t,d=>by
  have g:=Qx (x:=x) (n+1);rw[cX];by_cases e:n+1=0\/x (n+1-1)≠x (n+1)
  ·rw[c7 e,aBF _ _ _ (pE _ (by omega)) (λp a=>by have:=uM _ _ a;simp only[];omega)];simp only[];by_cases f:t=n+1
   ·subst f;rw[c7 (by omega)]
   rw[d8 (by omega),g t (by omega)]
  rw[d8 e,aG9];by_cases f:t=n+1
  ·subst f;have j:x n=x (n+1):=by
    have h:¬ (x (n+1-1)≠x (n+1)):=λa=>e (.inr a);exact Classical.not_not.1 h
   rw[<- j,<- g n (by omega)];obtain⟨p,r,h,s,u⟩:=sN (x:=x) (n+1) (by omega);have o:∀ (l:List Run),(∀ c∈l,c.At<=(n:Int))->sp l (n+1)=sp l n:=by
    intro l
    induction l with
    | nil=>intro _;rfl
    | cons q l m=>
     intro a;cases l with
     | nil=>rfl
     | cons b l=>
      have i:=a b (by simp);rw[sp,sp,c7 (by omega),c7 i,m (λc k=>a c (aGc _ k))]
   exact o _ (λc a=>by have:=uM _ _ a;omega)
  exact g t (by omega)
theorem gF {x:Nat->Int} {t:Nat} (a:t<48):sp (aY x) t=x t:=by unfold aY;exact Qx 48 t a
theorem wR:∀ (l:List Run) (x r:Run),jK x l->(∀ a,(x::l).getLast?=M a->a.At<r.At/\a.N≠r.N)->r.At<48->jK x (l++[r])
 | [],x,r,_,h,hr=>by
  have:=h x (by simp);exact⟨this.1,hr,this.2,trivial⟩
 | y::l,x,r,hs,h,hr=>by
  obtain⟨b,c,d,e⟩:=hs;refine⟨b,c,d,wR l y r e (λa f=>h a (by simpa[List.getLast?_cons_cons] using f)) hr⟩
theorem Co {x:Nat->Int}:∀ n,0<n->n<=48->dK (cX x n)
 | 0,c,_=>absurd c (aGa _)
 | 1,_,_=>by simp[cX,dK,jK]
 | n+2,_,c=>by
  have b:=Co (x:=x) (n+1) (by omega) (by omega);rw[cX];by_cases a:n+1=0\/x (n+1-1)≠x (n+1)
  ·rw[c7 a];obtain⟨k,d,h,i,j⟩:=sN (x:=x) (n+1) (by omega);cases e:cX x (n+1) with
   | nil=>exact absurd e (pE _ (by omega))
   | cons g l=>
    rw[e] at b d;refine⟨b.1,wR l g _ b.2 (λf f=>?_) (by simp only[];omega)⟩;rw[d] at f;obtain rfl:=b7 f;refine⟨by simp only[];omega,?_⟩;rw[h];rcases a with a|a
    ·omega
    exact a
  rw[d8 a,aG9];exact b
theorem nU (x:Nat->Int):aY x=cX x 48:=by unfold aY;rfl
theorem Xg {l:List Run} {x:Nat->Int} {n:Nat} (a:l=cX x n) (b:0<n) (c:n<=48):dK l:=by subst a;exact Co n b c
theorem eO (x:Nat->Int):dK (aY x):=Xg (nU x) (by omega) (by omega)
theorem tS:∀ (l m:List Run) (x y:Run),jK x l->jK y m->x.At=y.At->0<=x.At->x.At<48->
  (∀ t:Nat,x.At<=(t:Int)->t<48->sp (x::l) t=sp (y::m) t)->x::l=y::m
 | [],[],x,y,_,_,ha,h0,h48,h=>by
  have:=h x.At.toNat (by omega) (by omega);simp only[sp] at this;cases x;cases y;simp_all
 | [],b::m,x,y,_,hm,ha,h0,h48,h=>by
  obtain⟨n,k,g,f⟩:=hm;have c:=h x.At.toNat (by omega) (by omega);have a:=h b.At.toNat (by omega) (by omega);simp only[sp] at c a;rw[d8 (by omega)] at c;rw[c7 (by omega)] at a;exfalso;have:sp (b::m) b.At.toNat=b.N:=by
   cases m with
   | nil=>rfl
   | cons i m=>rw[sp,d8 (by have:=f.1;omega)]
  rw[this] at a;exact g (by rw[<- c,a])
 | d::l,[],x,y,hl,_,ha,h0,h48,h=>by
  obtain⟨n,k,g,f⟩:=hl;have c:=h x.At.toNat (by omega) (by omega);have a:=h d.At.toNat (by omega) (by omega);simp only[sp] at c a;rw[d8 (by omega)] at c;rw[c7 (by omega)] at a;exfalso;have:sp (d::l) d.At.toNat=d.N:=by
   cases l with
   | nil=>rfl
   | cons i m=>rw[sp,d8 (by have:=f.1;omega)]
  rw[this] at a;exact g (by rw[c,a])
 | d::l,b::m,x,y,hl,hm,ha,h0,h48,h=>by
  obtain⟨n,k,g,f⟩:=hl;obtain⟨w,z,s,p⟩:=hm;have o:∀ (e:Run) (j:List Run),jK e j->sp (e::j) e.At.toNat=e.N\/e.At<0:=by
   intro e j q;cases j with
   | nil=>exact .inl rfl
   | cons i j=>
    by_cases r:e.At<0
    ·exact .inr r
    left;rw[sp,d8 (by have:=q.1;omega)]
  have c:=h x.At.toNat (by omega) (by omega);simp only[sp] at c;rw[d8 (by omega),d8 (by omega)] at c;have q:d.At=b.At:=by
   rcases Int.lt_trichotomy d.At b.At with v|r|u
   ·exfalso;have a:=h d.At.toNat (by omega) (by omega);rw[sp,sp,c7 (by omega),d8 (by omega)] at a;rcases o d l f with i|i
    ·rw[i] at a;exact g (by rw[c,<- a])
    omega
   ·exact r
   exfalso;have a:=h b.At.toNat (by omega) (by omega);rw[sp,sp,d8 (by omega),c7 (by omega)] at a;rcases o b m p with i|i
   ·rw[i] at a;exact s (by rw[<- c,a])
   omega
  have r:=tS l m d b f p q (by omega) k (λt a i=>by
   have:=h t (by omega) i;rw[sp,sp,c7 a,c7 (by omega)] at this;exact this)
  rw[r];cases x;cases y;simp_all
theorem Tw {f g:List Run} (a:dK f) (b:dK g) (c:∀ t,t<48->sp f t=sp g t):f=g:=by
 cases f with
 | nil=>exact a.elim
 | cons x l=>
  cases g with
  | nil=>exact b.elim
  | cons h e=>
   exact tS l e x h a.2 b.2 (by rw[a.1,b.1]) (by rw[a.1];omega) (by rw[a.1];omega) (λt _ d=>c t d)
theorem aBS {f:List Run} (a:dK f):aY (sp f)=f:=Tw (eO _) a (λt b=>gF b)
def bG (f:List Run) (i:Nat):Int:=(f.getD i default).At
def jF (f:List Run) (i:Nat):Int:=(f.getD i default).N
def bW (f:List Run) (i:Nat):Int:=if i+1<f.length then bG f (i+1) else 48
theorem Ae:∀ (l:List Run) (x:Run),jK x l->0<=x.At->x.At<48->∀ a,a<(x::l).length->
  x.At<=bG (x::l) a/\bG (x::l) a<bW (x::l) a/\bW (x::l) a<=48/\(∀ t:Nat,bG (x::l) a<=(t:Int)->(t:Int)<bW (x::l) a->sp (x::l) t=jF (x::l) a)
 | [],x,_,h0,h48,a,hi=>by
  have:a=0:=by simp at hi;omega
  subst this;simp[bG,bW,jF,sp];omega
 | b::l,x,h,h0,h48,a,hi=>by
  obtain⟨p,g,q,i⟩:=h;have k:=Ae l b i (by omega) g;cases a with
  | zero=>
   have c:bW (x::b::l) 0=b.At:=by simp[bW,bG]
   have e:bG (x::b::l) 0=x.At:=by simp[bG]
   refine⟨by omega,by omega,by omega,λt f d=>?_⟩;rw[c] at d;rw[sp,d8 (by omega)];simp[jF]
  | succ a=>
   obtain⟨r,m,n,o⟩:=k a (by simpa using hi);have c:bW (x::b::l) (a+1)=bW (b::l) a:=by simp[bW,bG]
   have e:bG (x::b::l) (a+1)=bG (b::l) a:=by simp[bG]
   have j:jF (x::b::l) (a+1)=jF (b::l) a:=by simp[jF]
   rw[c,e,j];refine⟨by omega,m,n,λt f d=>?_⟩;rw[sp,c7 (by omega)];exact o t f d
theorem cI {f:List Run} (a:dK f) {i:Nat} (b:i<f.length) :
  0<=bG f i/\bG f i<bW f i/\bW f i<=48/\(∀ t:Nat,bG f i<=(t:Int)->(t:Int)<bW f i->sp f t=jF f i):=by
 cases f with
 | nil=>exact a.elim
 | cons x l=>
  have:=Ae l x a.2 (by rw[a.1];omega) (by rw[a.1];omega) i b;rw[a.1] at this;exact this
theorem mW {f:List Run} (a:dK f):0<f.length/\bG f 0=0:=by
 cases f with
 | nil=>exact a.elim
 | cons x l=>exact⟨by simp,by simpa[bG] using a.1⟩
theorem kN {f:List Run} (a:dK f):f.length<=48:=by
 rw[<- aBS a,nU];exact rA 48
theorem iN {f:List Run} {i:Nat} (a:i+1<f.length):bW f i=bG f (i+1):=by simp[bW,a]
theorem iU {f:List Run} {i:Nat} (a:¬ i+1<f.length):bW f i=48:=by simp[bW,a]
def Ti (f g:List Run) (z:Nat->Int) (i k:Nat) (a:List Run):Prop:=
 (i<f.length/\k<g.length/\∃ T:Nat,(T:Int)=max (bG f i) (bG g k)/\(T:Int)<bW f i/\(T:Int)<bW g k/\a=cX z T)\/
 ((f.length<=i\/g.length<=k)/\a=aY z)
theorem Wk {f g:List Run} (c:dK f) (d:dK g) (z:Nat->Int):Ti f g z 0 0 []:=by
 have a:=mW c;have b:=mW d;have e:=cI c a.1;have h:=cI d b.1;exact .inl ⟨a.1,b.1,0,by omega,by omega,by omega,rfl⟩
def jV (a:List Run) (x:Run):List Run:=
 match a.getLast? with
 | some b=>if b.N=x.N then a else a++[x]
 | none=>a++[x]
theorem aCD (c:List Run) (x:Run):jV c x≠[]:=by
 unfold jV;split
 ·rename_i d a
  split
  ·intro b;rw[b] at a;simp at a
  simp
 simp
theorem wZ {a:List Run} {x r:Run} (b:a.getLast?=M r) (c:r.N=x.N):jV a x=a:=by
 unfold jV;rw[b];simp only[c,if_true]
theorem Ay {a:List Run} {x r:Run} (b:a.getLast?=M r) (c:r.N≠x.N):jV a x=a++[x]:=by
 unfold jV;rw[b];simp only[d8 c]
theorem Mg (x:Run):jV [] x=[x]:=rfl
theorem tB {z:Nat->Int} {T:Nat}:jV (cX z T) ⟨(T:Int),z T⟩=cX z (T+1):=by
 unfold jV;by_cases b:T=0
 ·subst b;simp[cX]
 obtain⟨e,d,c,_,_⟩:=sN (x:=z) T (by omega);rw[d];simp only[cX];by_cases a:z (T-1)=z T
 ·rw[c7 (by rw[c,a]),d8 (by simp[b,a]),aG9]
 rw[d8 (by rw[c];exact a),c7 (.inr a)]
theorem aAd {f g:List Run} (q:dK f) (j:dK g) {of:Int->Int->Int} {i k:Nat} {v:List Run} (r:i<f.length) (s:k<g.length)
  (l:Ti f g (λt=>of (sp f t) (sp g t)) i k v) :
  Ti f g (λt=>of (sp f t) (sp g t)) (if bW f i<=bW g k then i+1 else i) (if bW g k<=bW f i then k+1 else k)
   (jV v ⟨max (bG f i) (bG g k),of (jF f i) (jF g k)⟩):=by
 rcases l with ⟨_,_,T,x,m,n,rfl⟩|⟨l,_⟩
 case inr=>omega
 obtain⟨E,F,G,d⟩:=cI q r;obtain⟨H,K,L,e⟩:=cI j s;have w:(⟨max (bG f i) (bG g k),of (jF f i) (jF g k)⟩:Run)=⟨(T:Int),of (sp f T) (sp g T)⟩:=by
  rw[<- x,d T (by omega) m,e T (by omega) n]
 rw[w,tB (z:=λt=>of (sp f t) (sp g t))];have flat:∀ b:Nat,(b:Int)<=bW f i->(b:Int)<=bW g k->T<b->cX (λt=>of (sp f t) (sp g t)) (T+1)=cX (λt=>of (sp f t) (sp g t)) b:=by
  intro b c h o;have a:b=(T+1)+(b-(T+1)):=by omega
  rw[a,pU (T+1) (by omega) (b-(T+1)) (λt p u=>?_)];simp only[aGg];rw[d t (by omega) (by omega),e t (by omega) (by omega),d T (by omega) m,e T (by omega) n]
 by_cases o:bW f i<=bW g k
 ·rw[c7 o];have h:=flat (bW f i).toNat (by omega) (by omega) (by omega);rw[h];by_cases c:i+1<f.length
  ·obtain⟨N,p2,p3,p4⟩:=cI q c;have u:=iN c;by_cases p:bW g k<=bW f i
   ·rw[c7 p];by_cases a:k+1<g.length
    ·obtain⟨A,B,C,D⟩:=cI j a;have y:=iN a;exact .inl ⟨c,a,(bW f i).toNat,by omega,by omega,by omega,rfl⟩
    exfalso;have:=iU a;omega
   rw[d8 p];exact .inl ⟨c,s,(bW f i).toNat,by omega,by omega,by omega,rfl⟩
  have u:=iU c;exact .inr ⟨.inl (by omega),by rw[u,nU];rfl⟩
 rw[d8 o,c7 (by omega)];have h:=flat (bW g k).toNat (by omega) (by omega) (by omega);rw[h];by_cases a:k+1<g.length
 ·obtain⟨A,B,C,D⟩:=cI j a;have y:=iN a;exact .inl ⟨r,a,(bW g k).toNat,by omega,by omega,by omega,rfl⟩
 exfalso;have:=iU a;omega
theorem aC7 {f g:List Run} (d:dK f) {z:Nat->Int} {i k:Nat} {a:List Run} (b:Ti f g z i k a):a.length<=48:=by
 rcases b with ⟨c,_,T,_,e,_,rfl⟩|⟨_,rfl⟩
 ·have:=rA (x:=z) T;have:=cI d c;omega
 rw[nU];exact rA 48
theorem La {f g:List Run} {z:Nat->Int} {i k:Nat} {b:List Run} (a:Ti f g z i k b) (c:f.length<=i\/g.length<=k):b=aY z:=by
 rcases a with ⟨_,_,_⟩|⟨_,a⟩
 ·omega
 exact a
def cM (a b:Nat) (n:Int) (t:Nat):Int:=if a<=t/\t<b then n else 0
def uI (a b:Int) (n:Int):List Run:=
 let d:=if 0<a then jV [] ⟨0,0⟩ else[]
 let c:=jV d ⟨a,n⟩
 if b<48 then jV c ⟨b,0⟩ else c
theorem xR {a b:Nat} {n:Int} (k:a<b) (hb:b<=48):uI a b n=aY (cM a b n):=by
 have h:(if(0:Int)<(a:Int) then jV [] ⟨0,0⟩ else[])=cX (cM a b n) a:=by
  by_cases e:a=0
  ·subst e;simp[cX]
  rw[c7 (by omega)];have d:a=1+(a-1):=by omega
  have c:=pU (x:=cM a b n) 1 (by omega) (a-1) (λt f g=>by
   unfold cM;rw[d8 (by omega),d8 (by omega)])
  rw[<- d] at c;rw[c];have:cM a b n 0=0:=by unfold cM;rw[d8 (by omega)]
  simp[cX,jV,this]
 have i:jV (cX (cM a b n) a) ⟨(a:Int),n⟩=cX (cM a b n) b:=by
  have e:cM a b n a=n:=by unfold cM;rw[c7 (by omega)]
  have:=tB (z:=cM a b n) (T:=a);rw[e] at this;rw[this];have d:b=(a+1)+(b-(a+1)):=by omega
  have c:=pU (x:=cM a b n) (a+1) (by omega) (b-(a+1)) (λt f g=>by
   unfold cM;rw[c7 (by omega),c7 (by omega)])
  rw[<- d] at c;exact c.symm
 unfold uI;simp only[h,i];by_cases j:b=48
 ·subst j;rw[d8 (by omega),nU]
 rw[c7 (by omega)];have e:cM a b n b=0:=by unfold cM;rw[d8 (by omega)]
 have:=tB (z:=cM a b n) (T:=b);rw[e] at this;rw[this,nU];have d:48=(b+1)+(48-(b+1)):=by omega
 have c:=pU (x:=cM a b n) (b+1) (by omega) (48-(b+1)) (λt f g=>by
  unfold cM;rw[d8 (by omega),d8 (by omega)])
 rw[<- d] at c;exact c.symm
def lo (x:Nat->Int) (a:Nat):Nat->Int
 | 0=>x a
 | m+1=>min (lo x a m) (x (a+m+1))
def Dk (x:Nat->Int) (a b:Nat):Int:=lo x a (b-a-1)
theorem Ut {x:Nat->Int} {a:Nat} (m:Nat):∀ b,(∀ t,a+m<t->t<=a+m+b->x t=x (a+m))->lo x a (m+b)=lo x a m
 | 0,_=>rfl
 | b+1,h=>by
  have e:=Ut m b (λt d f=>h t d (by omega));show min (lo x a (m+b)) (x (a+(m+b)+1))=_;have c:=h (a+(m+b)+1) (by omega) (by omega);rw[e,c];cases m with
  | zero=>simp[lo]
  | succ m=>
        simp only[lo];have:a+(m+1)=a+m+1:=by omega
        rw[this];omega
def wK (f:List Run) (x:Nat->Int) (a b:Nat) (k:Nat):Int:=lo x a (max (a+1) (min b (if k<f.length then(bG f k).toNat else 48))-a-1)
theorem Yi {f:List Run} (d:dK f) (x:Nat->Int) (a b:Nat):wK f x a b 0=x a:=by
 have c:=mW d;unfold wK;rw[c7 c.1,c.2];have:max (a+1) (min b (Int.toNat 0))-a-1=0:=by simp
 rw[this];rfl
theorem aCQ {f:List Run} (x:Nat->Int) {a b:Nat} (c:a<b) (hb:b<=48):wK f x a b f.length=Dk x a b:=by
 unfold wK Dk;rw[d8 (by omega)];congr 1;omega
theorem aAH {f:List Run} (m:dK f) {a b k:Nat} (u:a<b) (hb:b<=48) (l:k<f.length) :
  wK f (sp f) a b (k+1)=if(a:Int)<bG f k/\bG f k<(b:Int) then min (wK f (sp f) a b k) (jF f k) else wK f (sp f) a b k:=by
 obtain⟨q,r,s,e⟩:=cI m l;have n:(if k+1<f.length then(bG f (k+1)).toNat else 48)=(bW f k).toNat:=by
  by_cases c:k+1<f.length
  ·rw[c7 c,iN c]
  rw[d8 c,iU c];rfl
 unfold wK;rw[n,c7 l];generalize v:bG f k=c at *;generalize w:bW f k=d at *;by_cases j:(a:Int)<c/\c<(b:Int)
 ·rw[c7 j];have h:max (a+1) (min b c.toNat)-a-1=c.toNat-a-1:=by omega
  rw[h];have i:sp f c.toNat=jF f k:=e c.toNat (by omega) (by omega);have step:lo (sp f) a (c.toNat-a-1+1)=min (lo (sp f) a (c.toNat-a-1)) (jF f k):=by
   show min _ (sp f (a+(c.toNat-a-1)+1))=_;rw[show a+(c.toNat-a-1)+1=c.toNat by omega,i]
  rw[<- step];have g:max (a+1) (min b d.toNat)-a-1=(c.toNat-a-1+1)+(min b d.toNat-1-c.toNat):=by omega
  rw[g];exact Ut _ _ (λt o p=>by
   rw[e t (by omega) (by omega),show a+(c.toNat-a-1+1)=c.toNat by omega,i])
 rw[d8 j];by_cases i:(b:Int)<=c
 ·congr 1;omega
 have x:c<=(a:Int):=by omega
 have h:max (a+1) (min b c.toNat)-a-1=0:=by omega
 rw[h];by_cases y:d<=(a:Int)
 ·have:max (a+1) (min b d.toNat)-a-1=0:=by omega
  rw[this]
 have g:max (a+1) (min b d.toNat)-a-1=0+(min b d.toNat-a-1):=by omega
 rw[g];exact Ut 0 _ (λt o p=>by
  rw[e t (by omega) (by omega),e (a+0) (by omega) (by omega)])
theorem aFw {x:Nat->Int} {a:Nat}:∀ c b,b<=c->lo x a c<=x (a+b)
 | 0,b,d=>by
         have:b=0:=by omega
         subst this;exact aGh _
 | c+1,b,d=>by
  simp only[lo];by_cases e:b=c+1
  ·subst e;rw[show a+(c+1)=a+c+1 by omega];omega
  have:=aFw (x:=x) (a:=a) c b (by omega);omega
theorem aE2 {x:Nat->Int} {a:Nat}:∀ b,∃ c,c<=b/\lo x a b=x (a+c)
 | 0=>⟨0,aGi _,rfl⟩
 | b+1=>by
  obtain⟨c,f,d⟩:=aE2 (x:=x) (a:=a) b;simp only[lo];by_cases e:lo x a b<=x (a+b+1)
  ·exact⟨c,by omega,by rw[<- d];omega⟩
  exact⟨b+1,aGi _,by rw[show a+(b+1)=a+b+1 by omega];omega⟩
theorem aF6 {x:Nat->Int} {a b t:Nat} (c:a<=t) (d:t<b):Dk x a b<=x t:=by
 have:=aFw (x:=x) (a:=a) (b-a-1) (t-a) (by omega);rwa [show a+(t-a)=t by omega] at this
theorem aE1 {x:Nat->Int} {a b:Nat} (e:a<b):∃ t,a<=t/\t<b/\Dk x a b=x t:=by
 obtain⟨d,f,c⟩:=aE2 (x:=x) (a:=a) (b-a-1);exact⟨a+d,by omega,by omega,c⟩
theorem Ks {x:Nat->Int} {a b:Nat} {n:Int} (f:a<b):n<=Dk x a b↔∀ t,a<=t->t<b->n<=x t:=by
 constructor
 ·intro e t c d;have:=aF6 (x:=x) c d;omega
 intro e;obtain⟨t,c,d,g⟩:=aE1 (x:=x) f;rw[g];exact e t c d
def nD (x:Nat->Int) (t until_ size:Nat) (n:Int):Prop:=t+size<=until_/\∀ a,t<=a->a<t+size->n<=x a
instance (x:Nat->Int) (t until_ size:Nat) (n:Int):Decidable (nD x t until_ size n):=
 decidable_of_iff (t+size<=until_/\∀ d,d<size->n<=x (t+d))
  ⟨λ⟨a,b⟩=>⟨a,λc e f=>by have:=b (c-t) (by omega);rwa [show t+(c-t)=c by omega] at this⟩,λ⟨a,b⟩=>⟨a,λd d=>b _ (by omega) (by omega)⟩⟩
def Ed (x:Nat->Int) (until_ size:Nat) (n:Int):Nat->Nat->Option Nat
 | 0,_=>J
 | m+1,t=>if nD x t until_ size n then M t else Ed x until_ size n m (t+1)
def lM (x:Nat->Int) (from_ until_ size:Nat) (n:Int):Option Nat:=Ed x until_ size n (until_-from_) from_
def Aa (x:Nat->Int) (from_ until_ size:Nat) (n:Int):Option Nat->Prop
 | some t=>from_<=t/\t<until_/\nD x t until_ size n/\∀ s,from_<=s->s<t->¬ nD x s until_ size n
 | none=>∀ s,from_<=s->s<until_->¬ nD x s until_ size n
theorem Ny {x:Nat->Int} {until_ size:Nat} {n:Int}:∀ a t,t+a=until_\/(a=0/\until_<=t)->Aa x t until_ size n (Ed x until_ size n a t)
 | 0,t,g=>λs e b=>by omega
 | a+1,t,g=>by
  unfold Ed;by_cases c:nD x t until_ size n
  ·rw[c7 c];exact⟨aGi _,by omega,c,λs e b=>by omega⟩
  rw[d8 c];have d:=Ny (x:=x) (until_:=until_) (size:=size) (n:=n) a (t+1) (by omega);cases f:Ed x until_ size n a (t+1) with
  | none=>
   rw[f] at d;intro s e b;by_cases a:s=t
   ·subst a;exact c
   exact d s (by omega) b
  | some l=>
   rw[f] at d;obtain⟨k,h,i,j⟩:=d;refine⟨by omega,h,i,λs e b=>?_⟩;by_cases a:s=t
   ·subst a;exact c
   exact j s (by omega) b
theorem rB (x:Nat->Int) (from_ until_ size:Nat) (n:Int):Aa x from_ until_ size n (lM x from_ until_ size n):=by
 unfold lM;exact Ny _ _ (by omega)
theorem Nh {x:Nat->Int} {from_ until_ size:Nat} {n:Int} {a b:Option Nat} (c:Aa x from_ until_ size n a) (hb:Aa x from_ until_ size n b):a=b:=by
 cases a with
 | none=>
  cases b with
  | none=>rfl
  | some e=>exact absurd hb.2.2.1 (c e hb.1 hb.2.1)
 | some f=>
  cases b with
  | none=>exact absurd c.2.2.1 (hb f c.1 c.2.1)
  | some e=>
   rcases Nat.lt_trichotomy f e with d|d|d
   ·exact absurd c.2.2.1 (hb.2.2.2 f c.1 d)
   ·rw[d]
   exact absurd hb.2.2.1 (c.2.2.2 e hb.1 d)
theorem rO {x:Nat->Int} {from_ until_ size:Nat} {n:Int} {r:Option Nat} (a:Aa x from_ until_ size n r):r=lM x from_ until_ size n:=Nh a (rB ..)
theorem Bi {x y:Nat->Int} {t until_ size:Nat} {n:Int} (d:∀ a,a<until_->x a=y a):nD x t until_ size n↔nD y t until_ size n:=by
 constructor
 ·rintro⟨h1,h2⟩;refine⟨h1,λa b c=>?_⟩;rw[<- d a (by omega)];exact h2 a b c
 rintro⟨h1,h2⟩;refine⟨h1,λa b c=>?_⟩;rw[d a (by omega)];exact h2 a b c
theorem Ux {x y:Nat->Int} {from_ until_ size:Nat} {n:Int} (a:∀ b,b<until_->x b=y b):lM x from_ until_ size n=lM y from_ until_ size n:=by
 refine rO ?_;have:=rB x from_ until_ size n;cases e:lM x from_ until_ size n with
 | none=>rw[e] at this;exact λs b c d=>this s b c ((Bi a).2 d)
 | some t=>
  rw[e] at this;obtain⟨b,c,f,g⟩:=this;exact⟨b,c,(Bi a).1 f,λs h i d=>g s h i ((Bi a).2 d)⟩
def lU (f:List Run) (from_ until_ size:Nat) (n:Int) (k:Nat) (a:Nat):Prop:=
 ∃ b:Nat,b=min until_ (if k<f.length then(bG f k).toNat else 48)/\from_<=a/\a<=max from_ b/\(∀ c,a<=c->c<b->n<=sp f c)/\(∀ t,from_<=t->t<a->¬ nD (sp f) t until_ size n)/\b<a+size
theorem Ty {f:List Run} (b:dK f) {from_ until_ size:Nat} {n:Int} (c:0<size):lU f from_ until_ size n 0 from_:=by
 have a:=mW b;refine⟨0,?_,aGi _,by omega,λd _ a=>by omega,λt _ _=>by omega,by omega⟩;rw[c7 a.1,a.2];simp
def jU (f:List Run) (until_:Nat) (k:Nat):Int:=min (until_:Int) (bW f k)
theorem Fu {f:List Run} (k:Nat):(if k+1<f.length then(bG f (k+1)).toNat else 48)=(bW f k).toNat:=by
 by_cases a:k+1<f.length
 ·rw[c7 a,iN a]
 rw[d8 a,iU a];rfl
theorem Xh {f:List Run} (i:dK f) {from_ until_ size:Nat} {n:Int} {k a:Nat} (t:0<size) (b:k<f.length) (e:lU f from_ until_ size n k a) (h:jU f until_ k<=(a:Int)) :
  lU f from_ until_ size n (k+1) a:=by
 obtain⟨p,q,r,s⟩:=cI i b;obtain⟨j,g,c,l,m,d,o⟩:=e;rw[c7 b] at g;unfold jU at h;exact⟨min until_ (bW f k).toNat,by rw[Fu],c,by omega,λu u v=>by omega,d,by omega⟩
theorem aAm {f:List Run} (i:dK f) {from_ until_ size:Nat} {n:Int} {k a:Nat} (y:0<size) (c:k<f.length) (g:lU f from_ until_ size n k a) (w:(a:Int)<jU f until_ k)
  (x:jF f k<n):lU f from_ until_ size n (k+1) (jU f until_ k).toNat:=by
 obtain⟨s,u,v,b⟩:=cI i c;obtain⟨m,h,o,p,q,e,r⟩:=g;rw[c7 c] at h;unfold jU at *;refine⟨min until_ (bW f k).toNat,by rw[Fu],by omega,by omega,λd d l=>by omega,λt d l=>?_,by omega⟩;by_cases j:t<a
 ·exact e t d j
 rintro⟨b1,b2⟩;by_cases z:t<(bG f k).toNat
 ·have:=b2 (bG f k).toNat (by omega) (by omega);rw[b _ (by omega) (by omega)] at this;omega
 have:=b2 t (by omega) (by omega);rw[b _ (by omega) (by omega)] at this;omega
theorem Xj {f:List Run} (m:dK f) {from_ until_ size:Nat} {n:Int} {k a:Nat} (c:k<f.length) (i:lU f from_ until_ size n k a) (w:(a:Int)<jU f until_ k)
  (p:n<=jF f k) (x:jU f until_ k-(a:Int)<(size:Int)):lU f from_ until_ size n (k+1) a:=by
 obtain⟨t,u,v,j⟩:=cI m c;obtain⟨d,l,e,r,g,h,s⟩:=i;rw[c7 c] at l;unfold jU at *;refine⟨min until_ (bW f k).toNat,by rw[Fu],e,by omega,λb q y=>?_,h,by omega⟩;by_cases o:b<d
 ·exact g b q o
 rw[j b (by omega) (by omega)];exact p
theorem Tz {f:List Run} (m:dK f) {from_ until_ size:Nat} {n:Int} {k a:Nat} (y:0<size) (c:k<f.length) (i:lU f from_ until_ size n k a) (x:(a:Int)<jU f until_ k)
  (p:n<=jF f k) (z:(size:Int)<=jU f until_ k-(a:Int)):lM (sp f) from_ until_ size n=M a:=by
 obtain⟨u,v,w,j⟩:=cI m c;obtain⟨d,l,e,s,g,h,t⟩:=i;rw[c7 c] at l;unfold jU at *;have r:∀ b,a<=b->b<a+size->n<=sp f b:=λb q A=>by
  by_cases o:b<d
  ·exact g b q o
  rw[j b (by omega) (by omega)];exact p
 have b:Aa (sp f) from_ until_ size n (M a):=⟨e,by omega,⟨by omega,r⟩,h⟩;exact(rO b).symm
theorem Xi {f:List Run} {from_ until_ size:Nat} {n:Int} {a:Nat} (o:until_<=48) (d:lU f from_ until_ size n f.length a):lM (sp f) from_ until_ size n=none:=by
 obtain⟨i,e,j,k,l,c,m⟩:=d;rw[d8 (by omega)] at e;refine(rO (r:=J) λs h p b=>?_).symm;by_cases g:s<a
 ·exact c s h g b
 have:=b.1;omega
def Kg (f:List Run) (j:Nat):Prop:=bG f j<48/\mO (jF f j)/\(0<j->bG f (j-1)<bG f j/\jF f j≠jF f (j-1))
instance (f:List Run) (j:Nat):Decidable (Kg f j):=inferInstanceAs (Decidable (_/\_/\(_->_)))
theorem Cp:∀ (l:List Run) (x:Run),(∀ a,a<l.length->bG (x::l) (a+1)<48/\bG (x::l) a<bG (x::l) (a+1)/\jF (x::l) (a+1)≠jF (x::l) a)->jK x l
 | [],_,_=>trivial
 | y::l,x,h=>by
  have b:=h 0 (by simp);simp only[bG,jF,aGj,aGk] at b;refine⟨b.2.1,b.1,λc=>b.2.2 c.symm,Cp l y (λa d=>?_)⟩;have:=h (a+1) (by simp;omega);simpa only[bG,jF,aGk] using this
theorem vG:∀ (l:List Run) (x:Run),jK x l->∀ a,a<l.length->bG (x::l) (a+1)<48/\bG (x::l) a<bG (x::l) (a+1)/\jF (x::l) (a+1)≠jF (x::l) a
 | [],_,_,a,hj=>absurd hj (aGf _)
 | y::l,x,⟨h1,h2,h3,h4⟩,a,hj=>by
  cases a with
  | zero=>simp only[bG,jF,aGj,aGk];exact⟨h2,h1,λb=>h3 b.symm⟩
  | succ a=>
   have:=vG l y h4 a (by simpa using hj);simpa only[bG,jF,aGk] using this
theorem lQ {f:List Run}:kL f↔0<f.length/\bG f 0=0/\∀ a,a<f.length->Kg f a:=by
 cases f with
 | nil=>simp[kL,dK]
 | cons x l=>
  have e:(∀ g∈x::l,mO g.N)↔∀ a,a<(x::l).length->mO (jF (x::l) a):=by
   constructor
   ·intro c a b;have:jF (x::l) a=((x::l)[a]'b).N:=by simp only[jF,aGl];rw[aGm b];rfl
    rw[this];exact c _ (aGn _)
   intro c g h;obtain⟨a,b,rfl⟩:=aGo.1 h;have:=c a b;have d:jF (x::l) a=((x::l)[a]'b).N:=by simp only[jF,aGl];rw[aGm b];rfl
   rwa [d] at this
  constructor
  ·rintro⟨⟨h0,hs⟩,hn⟩;have d:bG (x::l) 0=0:=by simpa[bG] using h0
   refine⟨by simp,d,λa b=>⟨?_,e.1 hn a b,λh=>?_⟩⟩
   ·cases a with
    | zero=>omega
    | succ a=>exact(vG l x hs a (by simpa using b)).1
   have:=vG l x hs (a-1) (by simp at b;omega);rw[show a-1+1=a by omega] at this;exact this.2
  rintro⟨_,h0,c⟩;refine⟨⟨by simpa[bG] using h0,Cp l x (λa b=>?_)⟩,e.2 λa b=>(c a b).2.1⟩;have:=c (a+1) (by simp;omega);have d:=this.2.2 (by omega);rw[aGg] at d;exact⟨this.1,d.1,d.2⟩
instance (f:List Run):Decidable (kL f):=decidable_of_iff _ lQ.symm
theorem zO {x:Nat->Int} (d:∀ t,t<48->mO (x t)):kL (aY x):=by
 refine⟨eO x,λa f=>?_⟩;obtain⟨b,a,rfl⟩:=aGo.1 f;obtain⟨g,h,i,e⟩:=cI (eO x) a;have:=e (bG (aY x) b).toNat (by omega) (by omega);rw[gF (by omega)] at this;have c:jF (aY x) b=((aY x)[b]'a).N:=by simp only[jF,aGl];rw[aGm a];rfl
 rw[<- c,<- this];exact d _ (by omega)
theorem aD7 {x:Nat->Int} (d:∀ a∈aY x,mO a.N):∀ t,t<48->mO (x t):=by
 intro t g;have i:∀ (l:List Run),l≠[]->∃ a∈l,sp l t=a.N:=by
  intro l
  induction l with
  | nil=>intro d;exact absurd rfl d
  | cons f l h=>
   intro _;cases l with
   | nil=>exact⟨f,by simp,rfl⟩
   | cons b l=>
    rw[sp];split
    ·obtain⟨a,e,c⟩:=h (by simp);exact⟨a,aGc _ e,c⟩
    exact⟨f,by simp,rfl⟩
 obtain⟨a,e,c⟩:=i (aY x) (by rw[nU];exact pE 48 (by omega));rw[gF g] at c;rw[c];exact d a e
theorem aBT {f:List Run} (a:kL f) {t:Nat} (b:t<48):mO (sp f t):=by
 have:=aD7 (x:=sp f) (by rw[aBS a.1];exact a.2) t b;exact this
abbrev d7 (w w':y4):Prop:=Below w w w'
theorem d7.rf (w:y4):d7 w w:=Below.refl _ _
theorem b8 (w:_root_.Go.World):d7 w w:=d7.rf w
theorem d7.r {a b c:y4} (d:d7 a b) (k:d7 b c):d7 a c:=d.trans (k.m d.size)
theorem d7.ce {w w':y4} (a:d7 w w') {b o:Nat} (hb:b<w.heap.size):w' ⟨b,o,J⟩=w ⟨b,o,J⟩:=a.cell (p:=⟨b,o,J⟩) hb
theorem d7.c {w w':y4} (c:d7 w w') {b o:Nat} {v:y5} (a:w ⟨b,o,J⟩=M v):w' ⟨b,o,J⟩=M v:=by
 rw[c.ce (aGp w ⟨b,o,J⟩ a)];exact a
theorem rtB {x y:Bool} (a:x=y):Ending.returned (zx y)=zv (zx x):=by rw[a]
theorem I {p:Prop} (a:p):Hid p:=a
theorem zr {A B:Prop} (a:A) (b:B):Hid A∧Hid B:=⟨a,b⟩
theorem zq {A B C:Prop} (a:A) (b:B) (c:C):Hid A∧Hid B∧Hid C:=⟨a,b,c⟩
theorem zp {A B C D:Prop} (a:A) (b:B) (c:C) (d:D):Hid A∧Hid B∧Hid C∧Hid D:=⟨a,b,c,d⟩
theorem zm {A B C D f:Prop} (a:A) (b:B) (c:C) (d:D) (e:f):Hid A∧Hid B∧Hid C∧Hid D∧Hid f:=⟨a,b,c,d,e⟩
theorem zl {A B C D g F:Prop} (a:A) (b:B) (c:C) (d:D) (e:g) (f:F):Hid A∧Hid B∧Hid C∧Hid D∧Hid g∧Hid F:=⟨a,b,c,d,e,f⟩
theorem zj {A B C D h F i:Prop} (a:A) (b:B) (c:C) (d:D) (e:h) (f:F) (g:i):Hid A∧Hid B∧Hid C∧Hid D∧Hid h∧Hid F∧Hid i:=⟨a,b,c,d,e,f,g⟩
theorem zi {A B C D h F i H:Prop} (a:A) (b:B) (c:C) (d:D) (e:h) (f:F) (g:i) (j:H):Hid A∧Hid B∧Hid C∧Hid D∧Hid h∧Hid F∧Hid i∧Hid H:=⟨a,b,c,d,e,f,g,j⟩
theorem zh {A B C D h F j H k:Prop} (a:A) (b:B) (c:C) (d:D) (e:h) (f:F) (g:j) (l:H) (i:k):Hid A∧Hid B∧Hid C∧Hid D∧Hid h∧Hid F∧Hid j∧Hid H∧Hid k:=⟨a,b,c,d,e,f,g,l,i⟩
theorem h10 {A B C D h F k H l m:Prop} (a:A) (b:B) (c:C) (d:D) (e:h) (f:F) (g:k) (n:H) (i:l) (j:m):Hid A∧Hid B∧Hid C∧Hid D∧Hid h∧Hid F∧Hid k∧Hid H∧Hid l∧Hid m:=⟨a,b,c,d,e,f,g,n,i,j⟩
theorem h11 {A B C D h F l H m n K:Prop} (a:A) (b:B) (c:C) (d:D) (e:h) (f:F) (g:l) (o:H) (i:m) (j:n) (k:K):Hid A∧Hid B∧Hid C∧Hid D∧Hid h∧Hid F∧Hid l∧Hid H∧Hid m∧Hid n∧Hid K:=⟨a,b,c,d,e,f,g,o,i,j,k⟩
theorem d7.a {a w:y4} (b:d7 a w) (o:Obj):d7 a (w.alloc o):=Below.alloc b b.size o
theorem d7.dr {a w:y4} (b:d7 a w):d7 a w.drew:=Below.drew b
theorem d7.dn {a w:y4} (b:d7 a w) (n:Nat):d7 a (w.drewN n):=b.trans ⟨rfl,rfl,rfl,aGi _,λ_ _=>rfl⟩
theorem d7.se {a w:y4} (c:d7 a w) {b o:Nat} (hb:a<=b) (v:y5):d7 a (w.setCell ⟨b,o,J⟩ v):=Below.setCell (p:=⟨b,o,J⟩) c hb v
theorem aJ {w w':y4} {base e d n:Nat} {v:y5} {xs:List y5} (h:w.ownsRow base e d v n xs) (l:d7 w w'):w'.ownsRow base e d v n xs:=by
 obtain⟨i,a⟩:=h;refine⟨i,?_⟩;rcases a with a|⟨b,f,g,k,j,c,m⟩
 ·exact .inl a
 exact .inr ⟨b,f,g,k,j,by rw[l.block b (aGq.1 c).1];exact c,m⟩
theorem d7.gr {a w w':y4} (b:d7 a w) {v:y5} (d:w.grownBy w' v.ownBlock) (e:∀ c,v.ownBlock=M c->a.heap.size<=c):d7 a w':=Below.grown b d b.size e
theorem bN {w:y4} {base e d n:Nat} {v:y5} {xs:List y5} (b:w.ownsRow base e d v n xs):∀ a,v.ownBlock=M a->base<=a:=λa c=>(b.lt a c).1
theorem xF (W:y4) {B:Nat} (d:B=W.heap.size) (a b:y5) (t:o8):∀ (j:Nat) c,[a,b][j]?=M c->(W.alloc (zt #[a,b] t)) ((⟨B,0,J⟩:Addr).add j)=M c:=by
 subst d;exact cell_two_new W a b t
theorem xE (k l:x8) (a b:Int):∀ c∈[Y k a,Y l b],c.oneCell'=true:=by simp[aGr]
theorem minw (a b:Int):(if b<a then b else a)=min a b:=by
 by_cases c:b<a
 ·rw[c7 c];omega
 rw[d8 c];omega
theorem maxw (a b:Int):(if a<b then b else a)=max a b:=by
 by_cases c:a<b
 ·rw[c7 c];omega
 rw[d8 c];omega
theorem eqF {a b:Int} (c:a≠b):(a == b)=false:=beq_eq_false_iff_ne.2 c
theorem eqT {a b:Int} (c:a=b):(a == b)=true:=beq_iff_eq.2 c
theorem neF {a b:Int} (c:a=b):(a != b)=false:=by rw[bne_eq_false_iff_eq];exact c
theorem neT {a b:Int} (c:a≠b):(a != b)=true:=bne_iff_ne.2 c
theorem deF {p:Prop} [Decidable p] (a:¬ p):decide p=false:=decide_eq_false a
theorem deT {p:Prop} [Decidable p] (a:p):decide p=true:=decide_eq_true a
theorem aL {a b:Int} (c:a=b):Ending.returned (Y Z a)=zv (Y Z b):=by rw[c]
theorem fT {a b:Bool} (c:a=b):Ending.returned (zx a)=zv (zx b):=by rw[c]
def I64 (n:Int):Prop:=-9223372036854775808<=n/\n<=9223372036854775807
theorem I64.wf {n:Int} (a:I64 n):(Lit.int .i64 n).wf=true:=WalkArith.wf_i64 a
theorem I64.of {n:Int} (a:-9223372036854775808<=n) (b:n<=9223372036854775807):I64 n:=⟨a,b⟩
structure Queue where
 Q:ByteArray
 R:Int
 Cap:List Run
structure Piece where
 Len:Int
 N:Int
 deriving DecidableEq
structure bK where
 Piece:Int
 At:Int
 deriving DecidableEq
structure aF where
 B:Int
 D:Int
 C:Int
 E:Int
 A:List Piece
structure aH where
 Id:Int
 P:aF
 L:List bK
structure aG where
 G:Int
 H:Int
 K:List Queue
 F:List aH
instance:Inhabited Queue:=⟨⟨ByteArray.empty,0,[]⟩⟩
instance:Inhabited Piece:=⟨⟨0,0⟩⟩
instance:Inhabited bK:=⟨⟨0,0⟩⟩
instance:Inhabited aF:=⟨⟨0,0,0,0,[]⟩⟩
instance:Inhabited aH:=⟨⟨0,default,[]⟩⟩
instance:Inhabited aG:=⟨⟨0,0,[],[]⟩⟩
def SV {α:Type} (e:Nat) (d:y4->Nat->Nat->α->Prop) (w:y4) (v:y5) (xs:List α):Prop:=
 (xs=[]/\∃ c a,v=O c 0 a/\a<=9223372036854775807)\/
 ∃ b c a,v=O (M ⟨b,c,J⟩) xs.length a/\xs.length<=a/\a<=9223372036854775807/\xs.length<=17592186044416/\b<w.heap.size/\∀ a x,xs[a]?=M x->d w b (c+a*e) x
theorem SV.nil {α:Type} {b:Nat} {a:y4->Nat->Nat->α->Prop} {w:y4}:SV b a w (O J 0 0) []:=.inl ⟨rfl,J,0,rfl,by omega⟩
theorem SV.m {α:Type} {e:Nat} {a:y4->Nat->Nat->α->Prop} (k:∀ (w w':y4) b c x,d7 w w'->a w b c x->a w' b c x) {w w':y4} {v:y5} {xs:List α} (c:SV e a w v xs) (d:d7 w w'):SV e a w' v xs:=by
 rcases c with c|⟨b,o,f,rfl,g,h,m,i,j⟩
 ·exact .inl c
 exact .inr ⟨b,o,f,rfl,g,h,m,aGs i d.size,λn x l=>k w w' _ _ _ d (j n x l)⟩
theorem SV.i {α:Type} {i:Nat} {e:y4->Nat->Nat->α->Prop} {w:y4} {v:y5} {xs:List α} (f:SV i e w v xs) :
  ∃ c a,v=O c xs.length a/\xs.length<=a/\a<=9223372036854775807/\xs.length<=17592186044416:=by
 rcases f with ⟨rfl,c,a,rfl,d⟩|⟨b,j,a,rfl,d,g,h,_⟩
 ·exact⟨c,a,rfl,by simp,d,by simp⟩
 exact⟨_,a,rfl,d,g,h⟩
def E2 {α:Type} (f g:α->Int) (w:y4) (b o:Nat) (x:α):Prop:=
 w ⟨b,o,J⟩=M (Y Z (f x))/\w ⟨b,o+1,J⟩=M (Y Z (g x))/\I64 (f x)/\I64 (g x)
theorem E2.m {α:Type} {f g:α->Int} (w w':y4) (b o:Nat) (x:α) (c:d7 w w') (a:E2 f g w b o x):E2 f g w' b o x:=
 ⟨c.c a.1,c.c a.2.1,a.2.2⟩
def Ic:=E2 Run.At Run.N
def aBq:=E2 Piece.Len Piece.N
def aA7:=E2 bK.Piece bK.At
abbrev aR:=SV 2 Ic
abbrev aM:=SV 2 aBq
abbrev bF:=SV 2 aA7
theorem aR.m {w w':y4} {v:y5} {xs:List Run} (a:aR w v xs) (b:d7 w w'):aR w' v xs:=SV.m E2.m a b
theorem aM.m {w w':y4} {v:y5} {xs:List Piece} (a:aM w v xs) (b:d7 w w'):aM w' v xs:=SV.m E2.m a b
theorem bF.m {w w':y4} {v:y5} {xs:List bK} (a:bF w v xs) (b:d7 w w'):bF w' v xs:=SV.m E2.m a b
def dG (w:y4) (b o:Nat) (x:Queue):Prop:=
 w ⟨b,o,J⟩=M (b9 x.Q)/\x.Q.size<=9223372036854775807/\w ⟨b,o+1,J⟩=M (Y Z x.R)/\I64 x.R/\
 ∃ a,w ⟨b,o+2,J⟩=M a/\aR w a x.Cap
theorem dG.m (w w':y4) (b o:Nat) (x:Queue) (a:d7 w w') (c:dG w b o x):dG w' b o x:=by
 obtain⟨d,e,f,g,j,h,i⟩:=c;exact⟨a.c d,e,a.c f,g,j,a.c h,i.m a⟩
abbrev aK:=SV 3 dG
theorem aK.m {w w':y4} {v:y5} {xs:List Queue} (a:aK w v xs) (b:d7 w w'):aK w' v xs:=SV.m dG.m a b
def aEC (w:y4) (cs:List y5) (r:aF):Prop:=
 ∃ a,cs=[Y Z r.B,Y Z r.D,Y Z r.C,Y Z r.E,a]/\aM w a r.A/\I64 r.B/\I64 r.D/\I64 r.C/\I64 r.E
theorem aEC.m {w w':y4} {cs:List y5} {r:aF} (a:aEC w cs r) (e:d7 w w'):aEC w' cs r:=by
 obtain⟨f,b,c,d⟩:=a;exact⟨f,b,c.m e,d⟩
def aG2 (w:y4) (v:y5) (r:aF):Prop:=∃ a,v=.agg a.toArray/\aEC w a r
theorem aG2.m {w w':y4} {v:y5} {r:aF} (b:aG2 w v r) (e:d7 w w'):aG2 w' v r:=by
 obtain⟨a,c,d⟩:=b;exact⟨a,c,d.m e⟩
def fW (w:y4) (cs:List y5) (x:aH):Prop:=
 ∃ b a,cs=Y Z x.Id::(b++[a])/\aEC w b x.P/\bF w a x.L/\I64 x.Id
theorem fW.m {w w':y4} {cs:List y5} {x:aH} (c:fW w cs x) (a:d7 w w'):fW w' cs x:=by
 obtain⟨h,b,d,e,f,g⟩:=c;exact⟨h,b,d,e.m a,f.m a,g⟩
def kM (w:y4) (b o:Nat) (x:aH):Prop:=∃ a,fW w a x/\∀ (c:Nat) d,a[c]?=M d->w ⟨b,o+c,J⟩=M d
theorem kM.m (w w':y4) (b o:Nat) (x:aH) (a:d7 w w') (d:kM w b o x):kM w' b o x:=by
 obtain⟨c,e,f⟩:=d;exact⟨c,e.m a,λh i g=>a.c (f h i g)⟩
abbrev aS:=SV 7 kM
theorem aS.m {w w':y4} {v:y5} {xs:List aH} (a:aS w v xs) (b:d7 w w'):aS w' v xs:=SV.m kM.m a b
def aEM (w:y4) (v:y5) (x:aH):Prop:=∃ a,v=.agg a.toArray/\fW w a x
theorem aEM.m {w w':y4} {v:y5} {x:aH} (b:aEM w v x) (e:d7 w w'):aEM w' v x:=by
 obtain⟨a,c,d⟩:=b;exact⟨a,c,d.m e⟩
def Vq (w:y4) (cs:List y5) (s:aG):Prop:=
 ∃ b a,cs=[Y Z s.G,Y Z s.H,b,a]/\aK w b s.K/\aS w a s.F/\I64 s.G/\I64 s.H
theorem Vq.m {w w':y4} {cs:List y5} {s:aG} (c:Vq w cs s) (a:d7 w w'):Vq w' cs s:=by
 obtain⟨h,b,d,e,f,g⟩:=c;exact⟨h,b,d,e.m a,f.m a,g⟩
def aBg (w:y4) (v:y5) (s:aG):Prop:=∃ a,v=.agg a.toArray/\Vq w a s
theorem aBg.m {w w':y4} {v:y5} {s:aG} (b:aBg w v s) (e:d7 w w'):aBg w' v s:=by
 obtain⟨a,c,d⟩:=b;exact⟨a,c,d.m e⟩
def aBr (w:y4) (b o:Nat) (x:Int):Prop:=w ⟨b,o,J⟩=M (Y Z x)/\I64 x
theorem aBr.m (w w':y4) (b o:Nat) (x:Int) (c:d7 w w') (a:aBr w b o x):aBr w' b o x:=⟨c.c a.1,a.2⟩
abbrev fY:=SV 1 aBr
theorem fY.m {w w':y4} {v:y5} {xs:List Int} (a:fY w v xs) (b:d7 w w'):fY w' v xs:=SV.m aBr.m a b
def aA6 (w:y4) (b o:Nat) (x:Bool):Prop:=w ⟨b,o,J⟩=M (zx x)
theorem aA6.m (w w':y4) (b o:Nat) (x:Bool) (c:d7 w w') (a:aA6 w b o x):aA6 w' b o x:=c.c a
abbrev aBx:=SV 1 aA6
theorem aBx.m {w w':y4} {v:y5} {xs:List Bool} (a:aBx w v xs) (b:d7 w w'):aBx w' v xs:=SV.m aA6.m a b
def Pf (w:y4) (b o:Nat) (x:List Run):Prop:=∃ a,w ⟨b,o,J⟩=M a/\aR w a x
theorem Pf.m (w w':y4) (b o:Nat) (x:List Run) (a:d7 w w') (c:Pf w b o x):Pf w' b o x:=by
 obtain⟨f,d,e⟩:=c;exact⟨f,a.c d,e.m a⟩
abbrev wD:=SV 1 Pf
theorem wD.m {w w':y4} {v:y5} {xs:List (List Run)} (a:wD w v xs) (b:d7 w w'):wD w' v xs:=SV.m Pf.m a b
def bH {α:Type} (f g:α->Int) (xs:List α):List y5:=xs.flatMap λx=>[Y Z (f x),Y Z (g x)]
theorem gX {α:Type} (f g:α->Int) (xs:List α):(bH f g xs).length=xs.length*2:=by
 unfold bH
 induction xs with
 | nil=>rfl
 | cons x xs a=>simp only[List.flatMap_cons,aGb,aGt,aGu,a];omega
theorem pB {α:Type} (f g:α->Int):∀ (xs:List α) (k:Nat) (x:α),xs[k]?=M x->(bH f g xs)[k*2]?=M (Y Z (f x))/\(bH f g xs)[k*2+1]?=M (Y Z (g x))
 | [],k,x,h=>by simp at h
 | a::xs,0,x,h=>by simp at h;subst h;simp[bH]
 | a::xs,k+1,x,h=>by
  have c:=pB f g xs k x (by simpa using h);have b:bH f g (a::xs)=Y Z (f a)::Y Z (g a)::bH f g xs:=by simp[bH]
  rw[b,show (k+1)*2=k*2+1+1 by omega];simpa using c
theorem lS {α:Type} (f g:α->Int) (xs:List α) (x:α):bH f g (xs++[x])=bH f g xs++[Y Z (f x),Y Z (g x)]:=by simp[bH]
theorem bL {α:Type} {f g:α->Int} {w:y4} {base e:Nat} {v:y5} {xs:List α} (m:w.ownsRow base e 2 v xs.length (bH f g xs)) (n:∀ x∈xs,I64 (f x)/\I64 (g x)) (o:xs.length<=17592186044416):SV 2 (E2 f g) w v xs:=by
 obtain⟨y,c⟩:=m;rcases c with ⟨rfl,c⟩|⟨b,l,u,rfl,z,j,q,p,B,r⟩
 ·exact .inl ⟨aGv c,J,0,rfl,by omega⟩
 refine .inr ⟨b,0,l,rfl,q,p,o,(aGq.1 j).1,λk x d=>?_⟩;have A:k<xs.length:=(aGw.1 d).1;obtain⟨s,t⟩:=pB f g xs k x d;have cell:∀ h i,(bH f g xs)[h]?=M i->w ⟨b,0+h,J⟩=M i:=by
  intro h i a;rw[aGx];simp only[aGy,j,aGz,Bool.false_eq_true,if_false];rw[<- r,aGA] at a;split at a
  ·simpa using a
  cases a
 exact⟨cell _ _ s,by simpa[aGB] using cell _ _ t,n x (aGC d)⟩
section
variable {P:o9} {ops:Array n7} {md:Region.Mode} {C:y4->Prop}
def Dy (P:o9) (md:Region.Mode) (ops:Array n7) (C:y4->Prop) (n:Nat) (L:Array Bool->Act->Prop):Nat->Array Bool->Act->Prop
 | 0,listed,a=>L listed a
 | f+1,listed,a=>
  Region.ready md ops listed≠[]/\∀ b∈Region.ready md ops listed,b<n/\qOp P ops C b (Dy P md ops C n L f (listed.setIfInBounds b true)) a
theorem yG {n g:Nat} {L:Array Bool->Act->Prop} {Q':Exit->Act->y4->Prop} (d:∀ listed a w,C w->L listed a->wpAny P md ops Q' g listed a w) :
  ∀ (f:Nat) (listed:Array Bool) (a:Act) (w:y4),C w->Dy P md ops C n L f listed a->wpAny P md ops Q' (f+g) listed a w
 | 0,listed,a,w,c,b=>by rw[aGx];exact d _ _ _ c b
 | f+1,listed,a,w,c,b=>by
  rw[show f+1+g=(f+g)+1 by omega];exact⟨λi=>absurd i b.1,λl j=>wpOp_of_qOp c (λe w' k h=>yG d f _ e w' k h) (b.2 l j).2⟩
theorem Pu {n i:Nat} {oi:n7} {v:y5} {L:Array Bool->Act->Prop} (u:ops[i]?=M oi) (E:∀ (j:Nat) (o:n7) l b,ops[j]?=M o->o.op≠.select l b)
  (D:Region.sinkB md ops n=true) (x:Region.chainB md ops n=true) (B:n<ops.size) (z:i<n)
  (K:∀ listed a,L listed a->∀ j∈Region.ready md ops listed,n<=j) :
  ∀ (f:Nat) (listed:Array Bool) (a:Act),HeadInv md ops n listed->
   (∀ j k,ops[j]?=M k->j≠i->listed.getD j true=false->(∀ c∈k.after,Region.binds md c=true->c.on≠i)->oi.apart ops k=true)->
   i∈Region.ready md ops listed->YieldsIn P ops C oi v a->
   Dy P md ops C n L f (listed.setIfInBounds i true) (a.put oi.dst v)->Dy P md ops C n L (f+1) listed a:=by
 intro f
 induction f with
 | zero=>
  intro listed a t _ e s m;have r:=(mem_ready.1 e).1;refine⟨λg=>(by rw[g] at e;cases e),λj h=>?_⟩;have q:j<n:=(aGD j n).elim id (λg=>absurd h (tail_waits D x B t _ i rfl z r j g));refine⟨q,?_⟩;by_cases d:j=i
  ·subst d;exact s.qOp u m
  have:=K _ _ m j (ready_mono h d);omega
 | succ f X=>
  intro listed a t y e s m;have r:=(mem_ready.1 e).1;refine⟨λg=>(by rw[g] at e;cases e),λj h=>?_⟩;have q:j<n:=(aGD j n).elim id (λg=>absurd h (tail_waits D x B t _ i rfl z r j g));refine⟨q,?_⟩;by_cases d:j=i
  ·subst d;exact s.qOp u m
  obtain⟨A,k,w,G⟩:=mem_ready.1 h;have W:∀ c∈k.after,Region.binds md c=true->c.on≠i:=λc N H Q=>by
   have p:=G c N H;rw[Q,getD_both r] at p;cases p
  have F:=qOp_put w (y j k w d A W) (λl b=>E i oi l b u) (λl b=>E j k l b w) s (m.2 j (ready_mono h d)).2;have R:∀ l p,ops[l]?=M p->l≠i->(listed.setIfInBounds j true).getD l true=false->
    (∀ c∈p.after,Region.binds md c=true->c.on≠i)->oi.apart ops p=true:=λl p S U T V=>by
   refine y l p S U ?_ V;by_cases c:j=l
   ·subst c;exact A
   rwa [getD_set_ne true c] at T
  refine qOp_mono (λl c=>X (listed.setIfInBounds j true) l (t.set h q) R (ready_mono e (Ne.symm d)) c.1 ?_) F;rw[aGE _ _ d];exact c.2
theorem Jd {n g:Nat} {d:Act->Prop} (q:Region.noSelect ops=true) (p:Region.sinkB md ops n=true) (f:Region.chainB md ops n=true) (j:n<ops.size) :
  ∀ (l:List n7) (k:Nat) (listed:Array Bool) (a:Act),(∀ b,b<l.length->l[b]?=ops[k+b]?)->k+l.length=n->HeadInv md ops n listed->
  Region.lexHead md ops g l.length k listed=true->wpQuiet P ops C d l a->
  Dy P md ops C n (λr e=>Region.seqB md ops g n r=true/\d e) l.length listed a
 | [],k,listed,a,_,hk,_,hB,h=>by
  have:k=n:=by simpa using hk
  subst this;exact⟨by simpa[Region.lexHead] using hB,h⟩
 | o::l,k,listed,a,hl,hk,inv,hB,h=>by
  have c:ops[k]?=M o:=by simpa using(hl 0 (by simp)).symm
  simp only[aGt,Region.lexHead,Bool.and_eq_true] at hB;obtain⟨⟨v,u⟩,s⟩:=hB;have i:k<n:=by simp only[aGt] at hk;omega
  have m:k∈Region.ready md ops listed:=by simpa using v
  have w:qOp P ops C k (wpQuiet P ops C d l) a:=by unfold qOp;simp only[c];exact h
  obtain⟨y,x,t⟩:=yieldsIn_of_qOp c w;exact Pu c (Region.noSelect_spec q) p f j i (λr e e=>seqB_ready e.1) l.length listed a inv (Region.free_spec c u) m x
   (Jd q p f j l (k+1) _ _ (λb e=>by have:=hl (b+1) (by simp;omega);simpa[aGB,aGF 1 b] using this) (by simp only[aGt] at hk;omega) (inv.set m i) s t)
theorem kW {id:Nat} {Q:Exit->Act->y4->Prop} {a:Act} {w:y4} {l:List n7} (n:Nat) (r:P.follows .mixedOrders=true) (e:Region.lexTailB .any l.toArray n=true) (o:C { w with drawn:=w.drawn+1 })
  (m:wpQuiet P l.toArray C (λc=>∀ w',C w'->wpList P l.toArray Q (l.drop n) c w') (l.take n) a):(Code.region id l.toArray true).wp P Q a w:=by
 simp only[Region.lexTailB,Bool.and_eq_true,decide_eq_true_eq] at e;obtain⟨⟨⟨⟨u,j⟩,s⟩,p⟩,q⟩:=e;have y:n<l.length:=by simpa using j
 have b:(l.take n).length=n:=by simp;omega
 have h:(l.drop n).length=l.toArray.size-n:=by simp
 have x:HeadInv .any l.toArray n (Array.replicate l.toArray.size false):=
  ⟨by simp,λd k _ f=>(by rw[getD_replicate_false] at f;cases f),λt _ i=>getD_in (by simpa using i) (getD_replicate_false _ _)⟩
 have k:=Jd (md:=.any) (C:=C) (g:=l.toArray.size-n) u s p j (l.take n) 0 _ a (λd i=>by
  have f:d<n:=by rw[b] at i;exact i
  simp[f]) (by simpa using b) x (by rw[b];exact q) m
 refine wp_region_any r ?_;have:=yG (Q':=Q) (g:=l.toArray.size-n) (λlisted c w' v f=>by
  have:=wpAny_of_seq (md:=.any) (Q':=Q) (l.drop n) n listed c w' (λd=>by simp[aGG]) (by rw[h];exact f.1) (f.2 w' v);rwa [h] at this) _ _ _ _ o k
 rw[b,show n+(l.toArray.size-n)=l.toArray.size by omega] at this;exact this
end
structure bB (w:y4) where
 v:y4
 h:d7 w v
instance (w:y4):Nonempty (bB w):=⟨⟨w,b8 w⟩⟩
theorem bB.cell {w:y4} (p:bB w) {a:Addr} {u:y5} (b:w a=M u):p.v a=M u:=by
 rw[p.h.cell (aGp w a b)];exact b
theorem bY {P:o9} {id:Nat} {Q:Exit->Act->y4->Prop} {a:Act} {w:y4} {l:List n7} (f:P.follows .mixedOrders=true) (e:Region.lexB .any l.toArray=true)
  (d:wpQuiet P l.toArray (λw'=>∃ b:bB w,w'=b.v) (λc=>∀ w',(∃ b:bB w,w'=b.v)->Q .normal c w') l a):(Code.region id l.toArray true).wp P Q a w:=
 wp_region_quiet (C:=λw'=>∃ b:bB w,w'=b.v) f e ⟨⟨w.drew,d7.dr (b8 w)⟩,rfl⟩ (by simpa using d)
theorem Cz {P:o9} {id:Nat} {Q:Exit->Act->y4->Prop} {a:Act} {w:y4} {l:List n7} (n:Nat) (f:P.follows .mixedOrders=true) (e:Region.lexTailB .any l.toArray n=true)
  (d:wpQuiet P l.toArray (λw'=>∃ b:bB w,w'=b.v) (λc=>∀ w',(∃ b:bB w,w'=b.v)->wpList P l.toArray Q (l.drop n) c w') (l.take n) a):(Code.region id l.toArray true).wp P Q a w:=
 kW (C:=λw'=>∃ b:bB w,w'=b.v) n f e ⟨⟨w.drew,d7.dr (b8 w)⟩,rfl⟩ d
theorem fV {P:o9} {f:FuncId} {args:Array y5} {w:y4} (p:bB w) {v:y5} (b:y8 P f args p.v λa w'=>a=zv v/\d7 p.v w') :
  y8 P f args p.v λa w'=>a=zv v/\∃ a:bB w,w'=a.v:=
 b.m λ_ w' ⟨a,c⟩=>⟨a,⟨w',p.h.r c⟩,rfl⟩
section
variable {P:o9} {ops:Array n7} {md:Region.Mode} {D0 D1:y4->Prop} {ia:Nat} {oa:n7} {va:y5}
def Uh (P:o9) (D0 D1:y4->Prop) (o:n7) (a:Act) (next:Act->Prop):Prop:=
 ∃ b,((∀ w,D0 w->o.quietAt P a D0 w b)/\(∀ w,D1 w->o.quietAt P a D1 w b))/\next (a.put o.dst b)
def op2 (P:o9) (ops:Array n7) (D0 D1:y4->Prop) (ia:Nat) (va:y5) (i:Nat) (K:Act->Prop) (a:Act):Prop:=
 match ops[i]? with
 | none=>K a
 | some b=>if i=ia then K (a.put b.dst va) else if Region.wanted b (yielded ops a.tmps) then Uh P D0 D1 b a K else K (a.put b.dst u5)
theorem aDT {i:Nat} {K d:Act->Prop} {a:Act} (c:∀ a,K a->d a) (b:op2 P ops D0 D1 ia va i K a):op2 P ops D0 D1 ia va i d a:=by
 unfold op2 at *;cases f:ops[i]? with
 | none=>simp only[f] at b ⊢;exact c _ b
 | some k=>
  simp only[f] at b ⊢;by_cases e:i=ia
  ·rw[c7 e] at b ⊢;exact c _ b
  rw[d8 e] at b ⊢;by_cases g:Region.wanted k (yielded ops a.tmps)=true
  ·rw[c7 g] at b ⊢;obtain⟨l,h,j⟩:=b;exact⟨l,h,c _ j⟩
  rw[d8 g] at b ⊢;exact c _ b
def mU (P:o9) (ops:Array n7) (D0 D1:y4->Prop) (ia:Nat) (va:y5) (i:Nat) (o:n7) (v:y5) (a:Act):Prop:=
 if i=ia then v=va else YieldsIn P ops D0 o v a/\YieldsIn P ops D1 o v a
theorem aAe {i:Nat} {o:n7} {a:Act} {K:Act->Prop} (j:ops[i]?=M o) (b:op2 P ops D0 D1 ia va i K a):∃ e,mU P ops D0 D1 ia va i o e a/\K (a.put o.dst e):=by
 unfold op2 at b;simp only[j] at b;unfold mU;by_cases d:i=ia
 ·rw[c7 d] at b;exact⟨va,by rw[c7 d],b⟩
 rw[d8 d] at b;by_cases c:Region.wanted o (yielded ops a.tmps)=true
 ·rw[c7 c] at b;obtain⟨e,⟨f,g⟩,h⟩:=b;exact⟨e,by rw[d8 d];exact⟨.inl ⟨c,f⟩,.inl ⟨c,g⟩⟩,h⟩
 rw[d8 c] at b;exact⟨u5,by rw[d8 d];exact⟨.inr ⟨by simpa using c,rfl⟩,.inr ⟨by simpa using c,rfl⟩⟩,b⟩
theorem mU.op {i:Nat} {o:n7} {v:y5} {a:Act} (j:ops[i]?=M o) (b:mU P ops D0 D1 ia va i o v a) {K:Act->Prop} (d:K (a.put o.dst v)):op2 P ops D0 D1 ia va i K a:=by
 unfold op2;simp only[j];unfold mU at b;by_cases e:i=ia
 ·rw[c7 e] at b ⊢;subst b;exact d
 rw[d8 e] at b ⊢;rcases b.1 with ⟨c,g⟩|⟨c,rfl⟩
 ·rw[c7 c];rcases b.2 with ⟨_,h⟩|⟨f,_⟩
  ·exact⟨v,⟨g,h⟩,d⟩
  rw[c] at f;cases f
 rw[d8 (by rw[c];exact Bool.false_ne_true)];exact d
theorem mU.put {i:Nat} {oi:n7} {v:y5} {a:Act} {c:n7} (h:oi.apart ops c=true) (g:∀ d b,oi.op≠.select d b) (d:mU P ops D0 D1 ia va i oi v a) (u:y5) :
  mU P ops D0 D1 ia va i oi v (a.put c.dst u):=by
 obtain⟨j,k,e⟩:=Oper.apart_spec h;unfold mU at *;by_cases f:i=ia
 ·rw[c7 f] at d ⊢;exact d
 rw[d8 f] at d ⊢;exact⟨d.1.of_same (execOp_put oi g a c.dst u e) (wanted_put oi a c.dst u e),d.2.of_same (execOp_put oi g a c.dst u e) (wanted_put oi a c.dst u e)⟩
theorem aF3 {i j:Nat} {oi d:n7} {v:y5} (q:ops[j]?=M d) (e:oi.apart ops d=true)
  (h:∀ c b,oi.op≠.select c b) (n:∀ c b,d.op≠.select c b) {K:Act->Prop} {a:Act}
  (l:mU P ops D0 D1 ia va i oi v a) (c:op2 P ops D0 D1 ia va j K (a.put oi.dst v)) :
  op2 P ops D0 D1 ia va j (λf=>mU P ops D0 D1 ia va i oi v f/\K (f.put oi.dst v)) a:=by
 obtain⟨f,g,u⟩:=Oper.apart_spec e;unfold op2 at *;simp only[q] at *;by_cases m:j=ia
 ·rw[c7 m] at c ⊢;exact⟨l.put e h _,by rw[<- Act.put_comm a v va g];exact c⟩
 rw[d8 m] at c ⊢;rw[wanted_put d a oi.dst v f] at c;by_cases o:Region.wanted d (yielded ops a.tmps)=true
 ·rw[c7 o] at c ⊢;obtain⟨p,⟨s,t⟩,r⟩:=c;refine⟨p,⟨λw k=>?_,λw k=>?_⟩,l.put e h _,by rw[<- Act.put_comm a v p g];exact r⟩
  ·have:=s w k;unfold Oper.quietAt at *;rwa [execOp_put d n a oi.dst v f] at this
  have:=t w k;unfold Oper.quietAt at *;rwa [execOp_put d n a oi.dst v f] at this
 rw[d8 o] at c ⊢;exact⟨l.put e h _,by rw[<- Act.put_comm a v u5 g];exact c⟩
def Zb (P:o9) (md:Region.Mode) (ops:Array n7) (D0 D1:y4->Prop) (ia:Nat) (va:y5) (n:Nat) (L:Array Bool->Act->Prop):Nat->Array Bool->Act->Prop
 | 0,listed,a=>L listed a
 | f+1,listed,a=>
  Region.ready md ops listed≠[]/\∀ b∈Region.ready md ops listed,b<n/\op2 P ops D0 D1 ia va b (Zb P md ops D0 D1 ia va n L f (listed.setIfInBounds b true)) a
def D2 (D0 D1:y4->Prop) (ia:Nat) (listed:Array Bool) (w:y4):Prop:=if listed.getD ia false=true then D1 w else D0 w
theorem aC8 {i:Nat} {a:Act} {K:Act->Prop} {k:Act->y4->Prop} {Q':Exit->Act->y4->Prop} {w:y4} {listed:Array Bool} (v:ops[ia]?=M oa) (t:oa.guard=J)
  (y:∀ (a:Act) (w:y4),D0 w->∃ w',(execOp a.eval oa).run P w=.ok (.value va) w'/\D1 w') (u:i∈Region.ready md ops listed) (x:i<listed.size) (c:D2 D0 D1 ia listed w)
  (e:∀ a w',D2 D0 D1 ia (listed.setIfInBounds i true) w'->K a->k a w') (b:op2 P ops D0 D1 ia va i K a):wpOp P ops Q' i k a w:=by
 have z:=(mem_ready.1 u).1;unfold op2 at b;unfold wpOp;by_cases o:i=ia
 ·subst o;simp only[v,if_true] at b ⊢;have h:Region.wanted oa (yielded ops a.tmps)=true:=by simp[Region.wanted,t]
  rw[c7 h];have m:D0 w:=by
   unfold D2 at c;rw[d8] at c
   ·exact c
   rw[getD_both z];exact Bool.false_ne_true
  obtain⟨w',d,n⟩:=y a w m;left;unfold Oper.wp;rw[d];show k (a.put oa.dst va) w';refine e _ _ ?_ b;unfold D2;rw[c7]
  ·exact n
  simp[x]
 have g:∀ w,D2 D0 D1 ia listed w->D2 D0 D1 ia (listed.setIfInBounds i true) w:=λw c=>by
  unfold D2 at *;rw[getD_set_ne false o];exact c
 cases s:ops[i]? with
 | none=>simp only[s] at b ⊢;exact e _ _ (g _ c) b
 | some q=>
  simp only[s] at b ⊢;rw[d8 o] at b;by_cases h:Region.wanted q (yielded ops a.tmps)=true
  ·rw[c7 h] at b ⊢;obtain⟨j,⟨m,n⟩,r⟩:=b;left;by_cases f:listed.getD ia false=true
   ·have A:D1 w:=by unfold D2 at c;rwa [c7 f] at c
    refine Oper.wp_of_quiet (C:=D1) A (K:=λd=>d=a.put q.dst j) (λd w' p l=>?_) ⟨j,n,rfl⟩;subst l;refine e _ _ (g _ ?_) r;unfold D2;rw[c7 f];exact p
   have A:D0 w:=by unfold D2 at c;rwa [d8 f] at c
   refine Oper.wp_of_quiet (C:=D0) A (K:=λd=>d=a.put q.dst j) (λd w' p l=>?_) ⟨j,m,rfl⟩;subst l;refine e _ _ (g _ ?_) r;unfold D2;rw[d8 f];exact p
  rw[d8 h] at b ⊢;exact e _ _ (g _ c) b
theorem Et {n g:Nat} {L:Array Bool->Act->Prop} {Q':Exit->Act->y4->Prop} (k:ops[ia]?=M oa) (j:oa.guard=J)
  (l:∀ (a:Act) (w:y4),D0 w->∃ w',(execOp a.eval oa).run P w=.ok (.value va) w'/\D1 w') (i:∀ listed a w,D2 D0 D1 ia listed w->L listed a->wpAny P md ops Q' g listed a w) :
  ∀ (f:Nat) (listed:Array Bool) (a:Act) (w:y4),listed.size=ops.size->D2 D0 D1 ia listed w->Zb P md ops D0 D1 ia va n L f listed a->wpAny P md ops Q' (f+g) listed a w
 | 0,listed,a,w,_,e,b=>by rw[aGx];exact i _ _ _ e b
 | f+1,listed,a,w,hs,e,b=>by
  rw[show f+1+g=(f+g)+1 by omega];refine⟨λo=>absurd o b.1,λh d=>?_⟩;have p:h<listed.size:=by
   rcases aGD h listed.size with c|c
   ·exact c
   have:=(mem_ready.1 d).1;simp[aGH c] at this
  exact aC8 k j l d p e (λc w' q m=>Et k j l i f _ c w' (by simp[hs]) q m) (b.2 h d).2
theorem Za {n i:Nat} {oi:n7} {v:y5} {L:Array Bool->Act->Prop} (u:ops[i]?=M oi) (D:∀ (j:Nat) (o:n7) l b,ops[j]?=M o->o.op≠.select l b)
  (C:Region.sinkB md ops n=true) (x:Region.chainB md ops n=true) (B:n<ops.size) (z:i<n)
  (H:∀ listed a,L listed a->∀ j∈Region.ready md ops listed,n<=j) :
  ∀ (f:Nat) (listed:Array Bool) (a:Act),HeadInv md ops n listed->
   (∀ j k,ops[j]?=M k->j≠i->listed.getD j true=false->(∀ c∈k.after,Region.binds md c=true->c.on≠i)->oi.apart ops k=true)->
   i∈Region.ready md ops listed->mU P ops D0 D1 ia va i oi v a->
   Zb P md ops D0 D1 ia va n L f (listed.setIfInBounds i true) (a.put oi.dst v)->Zb P md ops D0 D1 ia va n L (f+1) listed a:=by
 intro f
 induction f with
 | zero=>
  intro listed a t _ e s m;have r:=(mem_ready.1 e).1;refine⟨λg=>(by rw[g] at e;cases e),λj h=>?_⟩;have q:j<n:=(aGD j n).elim id (λg=>absurd h (tail_waits C x B t _ i rfl z r j g));refine⟨q,?_⟩;by_cases d:j=i
  ·subst d;exact s.op u m
  have:=H _ _ m j (ready_mono h d);omega
 | succ f W=>
  intro listed a t y e s m;have r:=(mem_ready.1 e).1;refine⟨λg=>(by rw[g] at e;cases e),λj h=>?_⟩;have q:j<n:=(aGD j n).elim id (λg=>absurd h (tail_waits C x B t _ i rfl z r j g));refine⟨q,?_⟩;by_cases d:j=i
  ·subst d;exact s.op u m
  obtain⟨A,k,w,F⟩:=mem_ready.1 h;have V:∀ c∈k.after,Region.binds md c=true->c.on≠i:=λc K G N=>by
   have p:=F c K G;rw[N,getD_both r] at p;cases p
  have E:=aF3 w (y j k w d A V) (λl b=>D i oi l b u) (λl b=>D j k l b w) s (m.2 j (ready_mono h d)).2;have Q:∀ l p,ops[l]?=M p->l≠i->(listed.setIfInBounds j true).getD l true=false->
    (∀ c∈p.after,Region.binds md c=true->c.on≠i)->oi.apart ops p=true:=λl p R T S U=>by
   refine y l p R T ?_ U;by_cases c:j=l
   ·subst c;exact A
   rwa [getD_set_ne true c] at S
  refine aDT (λl c=>W (listed.setIfInBounds j true) l (t.set h q) Q (ready_mono e (Ne.symm d)) c.1 ?_) E;rw[aGE _ _ d];exact c.2
def iQ (P:o9) (ops:Array n7) (D0 D1:y4->Prop) (ia:Nat) (va:y5) (Q:Act->Prop):Nat->List n7->Act->Prop
 | _,[],a=>Q a
 | k,o::rest,a=>if k=ia then iQ P ops D0 D1 ia va Q (k+1) rest (a.put o.dst va) else if Region.wanted o (yielded ops a.tmps) then Uh P D0 D1 o a (iQ P ops D0 D1 ia va Q (k+1) rest) else iQ P ops D0 D1 ia va Q (k+1) rest (a.put o.dst u5)
theorem Sl {n g:Nat} {d:Act->Prop} (s:Region.noSelect ops=true) (r:Region.sinkB md ops n=true) (j:Region.chainB md ops n=true) (p:n<ops.size) :
  ∀ (l:List n7) (k:Nat) (listed:Array Bool) (a:Act),(∀ b,b<l.length->l[b]?=ops[k+b]?)->k+l.length=n->HeadInv md ops n listed->(∀ b,b<k->listed.getD b false=true)->
  Region.lexHead md ops g l.length k listed=true->iQ P ops D0 D1 ia va d k l a->
  Zb P md ops D0 D1 ia va n (λe f=>Region.seqB md ops g n e=true/\(∀ b,b<n->e.getD b false=true)/\d f) l.length listed a
 | [],k,listed,a,_,hk,_,hall,hB,h=>by
  have:k=n:=by simpa using hk
  subst this;exact⟨by simpa[Region.lexHead] using hB,hall,h⟩
 | o::l,k,listed,a,hl,hk,inv,hall,hB,h=>by
  have c:ops[k]?=M o:=by simpa using(hl 0 (by simp)).symm
  simp only[aGt,Region.lexHead,Bool.and_eq_true] at hB;obtain⟨⟨y,w⟩,t⟩:=hB;have m:k<n:=by simp only[aGt] at hk;omega
  have q:k∈Region.ready md ops listed:=by simpa using y
  have z:op2 P ops D0 D1 ia va k (iQ P ops D0 D1 ia va d (k+1) l) a:=by
   unfold op2;simp only[c];exact h
  obtain⟨B,A,u⟩:=aAe c z;have v:∀ b,b<k+1->(listed.setIfInBounds k true).getD b false=true:=λb x=>by
   by_cases i:k=b
   ·subst i;have:k<listed.size:=by rw[inv.size];omega
    simp[this]
   rw[getD_set_ne false i];exact hall b (by omega)
  exact Za c (Region.noSelect_spec s) r j p m (λe f e=>seqB_ready e.1) l.length listed a inv (Region.free_spec c w) q A
   (Sl s r j p l (k+1) _ _ (λb x=>by have:=hl (b+1) (by simp;omega);simpa[aGB,aGF 1 b] using this) (by simp only[aGt] at hk;omega) (inv.set q m) v t u)
theorem Da {id:Nat} {Q:Exit->Act->y4->Prop} {a:Act} {w:y4} {l:List n7} (n ia:Nat) {oa:n7} {va:y5} {D0 D1:y4->Prop} (x:P.follows .mixedOrders=true) (h:Region.lexTailB .any l.toArray n=true)
  (u:l[ia]?=M oa) (q:ia<n) (s:oa.guard=J) (y:∀ (a:Act) (w:y4),D0 w->∃ w',(execOp a.eval oa).run P w=.ok (.value va) w'/\D1 w') (p:D0 { w with drawn:=w.drawn+1 })
  (o:iQ P l.toArray D0 D1 ia va (λe=>∀ w',D1 w'->wpList P l.toArray Q (l.drop n) e w') 0 (l.take n) a):(Code.region id l.toArray true).wp P Q a w:=by
 simp only[Region.lexTailB,Bool.and_eq_true,decide_eq_true_eq] at h;obtain⟨⟨⟨⟨A,j⟩,z⟩,r⟩,v⟩:=h;have D:n<l.length:=by simpa using j
 have c:(l.take n).length=n:=by simp;omega
 have i:(l.drop n).length=l.toArray.size-n:=by simp
 have C:HeadInv .any l.toArray n (Array.replicate l.toArray.size false):=
  ⟨by simp,λd k _ b=>(by rw[getD_replicate_false] at b;cases b),λt _ f=>getD_in (by simpa using f) (getD_replicate_false _ _)⟩
 have m:=Sl (md:=.any) (g:=l.toArray.size-n) A z r j (l.take n) 0 _ a (λd b=>by
  have f:d<n:=by rw[c] at b;exact b
  simp[f]) (by simpa using c) C (λd b=>absurd b (aGf _)) (by rw[c];exact v) o
 refine wp_region_any x ?_;have:=Et (Q':=Q) (g:=l.toArray.size-n) (oa:=oa) (by simpa using u) s y (λlisted e w' k f=>by
  have B:D1 w':=by unfold D2 at k;rwa [c7 (f.2.1 ia q)] at k
  have:=wpAny_of_seq (md:=.any) (Q':=Q) (l.drop n) n listed e w' (λd=>by simp[aGG]) (by rw[i];exact f.1) (f.2.2 w' B);rwa [i] at this) _ _ _ _ (by simp) (by unfold D2;rw[d8 (by rw[getD_replicate_false];exact Bool.false_ne_true)];exact p) m
 rw[c,show n+(l.toArray.size-n)=l.toArray.size by omega] at this;exact this
theorem To {k:Nat} {Q:Act->Prop} {a:Act} (b:Q a):iQ P ops D0 D1 ia va Q k [] a:=b
theorem sW {k:Nat} {Q:Act->Prop} {a:Act} {o:n7} {rest:List n7} (d:(k == ia)=false)
  (c:∀ b:Act->Prop,(∀ a,iQ P ops D0 D1 ia va Q (k+1) rest a->b a)->if Region.wanted o (yielded ops a.tmps) then Uh P D0 D1 o a b else b (a.put o.dst u5)):iQ P ops D0 D1 ia va Q k (o::rest) a:=by
 unfold iQ;rw[d8 (by simpa using d)];exact c _ (λ_ c=>c)
theorem Lb {k:Nat} {Q:Act->Prop} {a:Act} {o:n7} {rest:List n7} (c:(k == ia)=true) (b:iQ P ops D0 D1 ia va Q (k+1) rest (a.put o.dst va)):iQ P ops D0 D1 ia va Q k (o::rest) a:=by
 unfold iQ;rw[c7 (by simpa using c)];exact b
end
theorem Kf {P:o9} {id:Nat} {Q:Exit->Act->y4->Prop} {a:Act} {w:y4} {l:List n7} (n ia:Nat) {oa:n7} (o:Obj) (j:P.follows .mixedOrders=true) (f:Region.lexTailB .any l.toArray n=true)
  (i:l[ia]?=M oa) (g:(decide (ia<n))=true) (h:oa.guard=J) (k:∀ (a:Act) (w:y4),(execOp a.eval oa).run P w=.ok (.value (zz (M ⟨w,0,J⟩))) (w.alloc o))
  (d:iQ P l.toArray (λw'=>∃ b,w'=w.drewN b) (λw'=>∃ b,w'=(w.alloc o).drewN b) ia (zz (M ⟨w,0,J⟩)) (λc=>∀ b,wpList P l.toArray Q (l.drop n) c ((w.alloc o).drewN b)) 0 (l.take n) a):(Code.region id l.toArray true).wp P Q a w:=by
 refine Da (D0:=λw'=>∃ b,w'=w.drewN b) (D1:=λw'=>∃ b,w'=(w.alloc o).drewN b) (va:=zz (M ⟨w,0,J⟩)) n ia j f i (of_decide_eq_true g) h ?_ ⟨1,rfl⟩ ?_
 ·rintro a _ ⟨b,rfl⟩;refine⟨_,k a _,b,?_⟩;rfl
 have e:(λc=>∀ w',(∃ b,w'=(w.alloc o).drewN b)->wpList P l.toArray Q (l.drop n) c w')=(λc=>∀ b,wpList P l.toArray Q (l.drop n) c ((w.alloc o).drewN b)):=by
  funext c;exact propext ⟨λd b=>d _ ⟨b,rfl⟩,λd w' ⟨b,e⟩=>e▸d b⟩
 rw[e];exact d
theorem uJ {α:Type} {f:List α} {k:Nat} (a:k<f.length):∃ x,f[k]?=M x:=⟨f[k],by simp[a]⟩
theorem aX {f:List Run} {k:Nat} {x:Run} (a:f[k]?=M x):bG f k=x.At:=by simp[bG,aGl,a]
theorem cU {f:List Run} {k:Nat} {x:Run} (a:f[k]?=M x):jF f k=x.N:=by simp[jF,aGl,a]
theorem Ot (a b:Int) (w:y4) (d:0<=a) (e:a<b) (f:b<=48):y8 prog 146 #[a,b] w λc w'=>c=zv (zx true)/\w=w':=by
 go_enter func146,ntmps146;go_wp2;go_ret;exact⟨rfl,rfl⟩
theorem aC0 (a b:Int) (w:y4) (c:¬ (0<=a/\a<b/\b<=48)):y8 prog 146 #[a,b] w λe w'=>e=zv (zx false)/\w=w':=by
 by_cases f:0<=a
 ·by_cases g:a<b
  ·have d:¬ b<=48:=λd=>c ⟨f,g,d⟩;clear c;go_enter func146,ntmps146
   go_wp2;go_ret;exact⟨rfl,rfl⟩
  clear c;go_enter func146,ntmps146;go_wp2;go_ret;exact⟨rfl,rfl⟩
 clear c;go_enter func146,ntmps146;go_wp2;go_ret;exact⟨rfl,rfl⟩
theorem Yb (w:y4) (b g cap:Nat) (f:List Run) (k:Nat) (q:f.length<=17592186044416) (hb:b<w.heap.size) (d:∀ k x,f[k]?=M x->Ic w b (g+k*2) x) (p:k<f.length) :
  y8 prog 206 #[O (M ⟨b,g,J⟩) f.length cap,k] w λa w'=>a=zv (Y Z (bW f k))/\w=w':=by
 by_cases c:k+1<f.length
 ·obtain⟨x,e⟩:=uJ c;obtain⟨j,l,m,o⟩:=d (k+1) x e;have a:bW f k=x.At:=by rw[iN c,aX e]
  have h:=I a;have i:(k:Int)+1<(f.length:Int):=by omega
  clear a e d;generalize f.length=n at *;go_enter func206,ntmps206;go_wp2;go_ret;exact⟨aL h.symm,rfl⟩
 have a:=I (iU c);have i:¬ (k:Int)+1<(f.length:Int):=by omega
 clear d;generalize e:f.length=n at *;clear e;go_enter func206,ntmps206;go_wp2;go_ret;exact⟨aL a.symm,rfl⟩
theorem Kt (w:y4) (a n t:Int) (c:0<=a) (d:a<=48) (e:0<=t) (f:t<=48) :
  y8 prog 148 #[.agg #[a,n],t] w λb w'=>b=zv (Y Z (a-t))/\d7 w w':=by
 go_enter func148,ntmps148;go_wp2;go_ret;exact⟨rfl,(b8 _).a _⟩
theorem Oe {f:List Run} (d:dK f) {i j:Nat} (g:i<j) (c:j<f.length):bG f i<bG f j:=by
 induction j with
 | zero=>omega
 | succ j e=>
  have a:=cI d (i:=j) (by omega);rw[iN c] at a;by_cases b:i=j
  ·subst b;exact a.2.1
  have:=e (by omega) (by omega);omega
theorem by_lt {f:List Run} (e:dK f) {k:Nat} {x:Run} {t:Int} (g:f[k]?=M x) (d:k<f.length) (b:x.At<t):∀ a,a<=k->bG f a<t:=λa h=>by
 rw[<- aX g] at b;by_cases c:a=k
 ·subst c;exact b
 have:=Oe e (i:=a) (j:=k) (by omega) d;omega
theorem by_ge {f:List Run} (e:dK f) {k:Nat} {x:Run} {t:Int} (g:f[k]?=M x) (b:t<=x.At):∀ a,k<=a->a<f.length->t<=bG f a:=λa h d=>by
 rw[<- aX g] at b;by_cases c:k=a
 ·subst c;exact b
 have:=Oe e (i:=k) (j:=a) (by omega) d;omega
def Found (f:List Run) (t:Int) (w:y4) (e:r8) (w':y4):Prop:=
 ∃ (a:Nat) (b:Bool),e=zv (zw #[a,zx b])/\a<=f.length/\(∀ c,c<a->bG f c<t)/\(∀ c,a<=c->c<f.length->t<=bG f c)/\(b=true↔a<f.length/\bG f a=t)/\d7 w w'
theorem aAn (w:y4) (b P cap:Nat) (f:List Run) (t:Int) (D:dK f) (s:cap<=9223372036854775807) (hl:f.length<=cap) (hb:b<w.heap.size) (K:∀ k x,f[k]?=M x->Ic w b (P+k*2) x) (q:0<=t) (A:t<=48) :
  y8 prog 147 #[O (M ⟨b,P,J⟩) f.length cap,t,zy (.func 148) #[] #[]] w (Found f t w):=by
 have hlen:=kN D;obtain⟨H,z⟩:=zr K D;clear K D;generalize N:f.length=n at *;have c:=I N;clear N;go_enter func147,ntmps147;go_wp2;go_loopw [9,10] (λa g wr=>∃ i d:Nat,i<=d/\d<=n/\a=Y Z i/\g=Y Z d/\Hid ((∀ e,e<i->bG f e<t)/\(∀ e,d<=e->e<n->t<=bG f e))/\d7 w wr) (λa g _=>(intOf g-intOf a).toNat);exact⟨0,n,aGI _,aGi _,rfl,rfl,⟨λe s=>absurd s (aGf _),λe V q=>by omega⟩,b8 _⟩;obtain⟨i,d,X,C,rfl,rfl,j,g⟩:=hrel;have W:b<wr.heap.size:=aGs hb g.size;by_cases a0:i<d
 ·obtain⟨x,h⟩:=uJ (f:=f) (k:=(i+d) / 2) (by rw[c.o];omega);obtain⟨o,p,R,S⟩:=H ((i+d) / 2) x h;replace o:=g.c o;replace p:=g.c p;have u:=cI z (i:=(i+d) / 2) (by rw[c.o];omega);rw[aX h] at u;obtain⟨y,E,F,_⟩:=u;have v:x.At<=48:=by omega
  have m:=I h;clear h E F;by_cases r:x.At<t
  ·go_wp2_with (go_at_call 148;refine(Kt _ _ _ _ y v q A).m ?_;rintro B G ⟨rfl,l⟩);go_roundw;exact⟨(i+d) / 2+1,d,by omega,by omega,by go_num,rfl,⟨λe s=>by_lt z m (by rw[c.o];omega) r e (by omega),j.2⟩,g.r l⟩;simp[intOf];omega
  go_wp2_with (go_at_call 148;refine(Kt _ _ _ _ y v q A).m ?_;rintro B G ⟨rfl,l⟩);go_roundw;exact⟨i,(i+d) / 2,by omega,by omega,rfl,by go_num,⟨j.1,λe s L=>by_ge z m (by omega) e s (by rw[c.o];exact L)⟩,g.r l⟩;simp[intOf];omega
 obtain rfl:i=d:=by omega
 by_cases L:i<n
 ·obtain⟨x,h⟩:=uJ (f:=f) (k:=i) (by rw[c.o];omega);obtain⟨o,p,R,S⟩:=H i x h;replace o:=g.c o;replace p:=g.c p;have u:=cI z (i:=i) (by rw[c.o];omega);rw[aX h] at u;obtain⟨y,E,F,_⟩:=u;have v:x.At<=48:=by omega
  have m:=I h;have T:=z7 i n;clear h E F;by_cases r:x.At=t
  ·have U:=eqT (a:=x.At-t) (b:=0) (by omega);have Q:=I r;clear r;go_wp2_with (go_at_call 148;refine(Kt _ _ _ _ y v q A).m ?_;rintro B G ⟨rfl,l⟩);go_ret2;exact⟨i,true,rfl,by rw[c.o];exact C,j.1,by rw[c.o];exact j.2,by rw[c.o,aX m.o];simp[L,Q.o],g.r l⟩
  have U:=eqF (a:=x.At-t) (b:=0) (by omega);go_wp2_with (go_at_call 148;refine(Kt _ _ _ _ y v q A).m ?_;rintro B G ⟨rfl,l⟩);go_ret2;exact⟨i,false,rfl,by rw[c.o];exact C,j.1,by rw[c.o];exact j.2,by rw[c.o,aX m.o];simp[r],g.r l⟩
 have T:=z8 i n;go_wp2;go_ret2;exact⟨i,false,rfl,by rw[c.o];exact C,j.1,by rw[c.o];exact j.2,by rw[c.o];simp[L],g⟩
theorem aC6 (w:y4) (b y cap:Nat) (f:List Run) (t:Int) (p:dK f) (P:cap<=9223372036854775807) (N:f.length<=cap) (hb:b<w.heap.size) (v:∀ k x,f[k]?=M x->Ic w b (y+k*2) x) (K:0<=t) (R:t<48) :
  y8 prog 96 #[O (M ⟨b,y,J⟩) f.length cap,t] w λl w'=>l=zv (Y Z (sp f t.toNat))/\d7 w w':=by
 have D:=aAn w b y cap f t p P N hb v K (by omega);obtain⟨S,z,r⟩:=zq D v p;have hlen:=kN p;clear v p D;generalize C:f.length=n at *;have A:=I C;clear C;go_enter func96,ntmps96;go_wp2_with fail;refine S.m ?_;rintro l V ⟨i,H,rfl,G,u,m,o,e⟩;have q:=mW r;cases H with
 | true=>
  have c:=o.1 rfl;obtain⟨x,d⟩:=uJ (f:=f) (k:=i) c.1;obtain⟨g,h,E,F⟩:=z i x d;replace g:=e.c g;replace h:=e.c h;have j:sp f t.toNat=x.N:=by
   have a:=cI r c.1;rw[<- cU d];exact a.2.2.2 t.toNat (by omega) (by omega)
  have s:=I j;have L:(i:Int)<(n:Int):=by rw[A.o] at c;omega
  clear u m o c d j q;go_wp2;go_ret;exact⟨aL s.symm,e⟩
 | false=>
  have c:¬ (i<f.length/\bG f i=t):=λa=>by have:=o.2 a;cases this
  have U:0<i:=by
   rcases Nat.eq_zero_or_pos i with a|a
   ·subst a;exact absurd ⟨q.1,by have:=m 0 (aGi _) q.1;omega⟩ c
   exact a
  obtain⟨x,d⟩:=uJ (f:=f) (k:=i-1) (by omega);obtain⟨g,h,E,F⟩:=z (i-1) x d;replace g:=e.c g;replace h:=e.c h;have j:sp f t.toNat=x.N:=by
   have a:=cI r (i:=i-1) (by omega);rw[<- cU d];have Q:=u (i-1) (by omega);refine a.2.2.2 t.toNat (by omega) ?_;by_cases B:i<f.length
   ·rw[iN (by omega),show i-1+1=i by omega];have T:=m i (aGi _) B;have:bG f i≠t:=λl=>c ⟨B,l⟩;omega
   rw[iU (by omega)];omega
  have s:=I j;have L:(i:Int)-1<(n:Int):=by rw[A.o] at G;omega
  have Q:(0:Int)<=(i:Int)-1:=by omega
  have B:(0:Int)<(i:Int):=by omega
  clear u m o c d j q;go_wp2;go_ret;exact⟨aL s.symm,e⟩
theorem aEG (w:y4) (b o cap:Nat) (f:List Run) (s t:Int) (i:dK f) (G:cap<=9223372036854775807) (F:f.length<=cap) (hb:b<w.heap.size) (m:∀ k x,f[k]?=M x->Ic w b (o+k*2) x) (v:0<=s) (L:s<t) (N:t<=48) :
  y8 prog 236 #[O (M ⟨b,o,J⟩) f.length cap,s,t] w λu w'=>u=zv (Y Z (Dk (sp f) s.toNat t.toNat))/\d7 w w':=by
 have y:=aC6 w b o cap f s i G F hb m v (by omega);obtain⟨S,E,p⟩:=zq y m i;have hlen:=kN i;clear m i y;obtain⟨a,rfl⟩:=aGJ v;obtain⟨e,rfl⟩:=aGJ (show 0<=t by omega);rw[aGK,aGK];generalize A:f.length=n at *;have j:=I A;clear A;go_enter func236,ntmps236;go_wp2_with fail;refine S.m ?_;rintro u R ⟨rfl,d⟩;rw[aGK];go_wp2;go_loopw [7,15] (λg c wr=>∃ k:Nat,k<=n/\c=Y Z k/\g=Y Z (wK f (sp f) a e k)/\d7 w wr) (λ_ c _=>n-(intOf c).toNat);exact⟨0,aGI _,rfl,by rw[Yi p.o],d⟩;obtain⟨k,Q,rfl,rfl,d⟩:=hrel;have P:b<wr.heap.size:=aGs hb d.size;by_cases z:k<n
 ·obtain⟨x,g⟩:=uJ (f:=f) (k:=k) (by rw[j.o];exact z);obtain⟨q,r,H,K⟩:=E k x g;replace q:=d.c q;replace r:=d.c r;have c:=aAH p (a:=a) (b:=e) (by omega) (by omega) (k:=k) (by rw[j.o];exact z);rw[aX g,cU g] at c;by_cases C:(a:Int)<x.At
  ·by_cases D:x.At<(e:Int)
   ·rw[c7 ⟨C,D⟩] at c;have h:=I c;clear c g;generalize wK f (sp f) a e k=B at *;go_wp2;go_roundw;exact⟨k+1,by omega,by go_num,by rw[h.o,minw],d.a _⟩;simp[intOf];omega
   rw[d8 (λl=>D l.2)] at c;have h:=I c;clear c g;generalize wK f (sp f) a e k=B at *;go_wp2;go_roundw;exact⟨k+1,by omega,by go_num,by rw[h.o],d.a _⟩;simp[intOf];omega
  rw[d8 (λl=>C l.1)] at c;have h:=I c;clear c g;generalize wK f (sp f) a e k=B at *;go_wp2;go_roundw;exact⟨k+1,by omega,by go_num,by rw[h.o],d.a _⟩;simp[intOf];omega
 obtain rfl:k=n:=by omega
 have c:=aCQ (f:=f) (sp f) (a:=a) (b:=e) (by omega) (by omega);rw[j.o] at c;have g:=I c;clear c;go_wp2;go_ret;exact⟨aL g,d⟩
theorem aAx (n:Int) (w:y4) (b:mO n):y8 prog 178 #[n] w λa w'=>a=zv (zx true)/\w'=w:=by
 obtain⟨c,d⟩:=b;go_enter func178,ntmps178;go_wp2;go_ret;exact⟨rfl,rfl⟩
theorem aCK (n:Int) (w:y4) (a:¬ mO n):y8 prog 178 #[n] w λc w'=>c=zv (zx false)/\w'=w:=by
 by_cases d:-1048576<=n
 ·have b:¬ n<=1048576:=λb=>a ⟨d,b⟩;clear a;go_enter func178,ntmps178
  go_wp2;go_ret;exact⟨rfl,rfl⟩
 clear a;go_enter func178,ntmps178;go_wp2;go_ret;exact⟨rfl,rfl⟩
@[irreducible] def chk (f:List Run):Int:=if kL f then 0 else 1
theorem aBW {f:List Run} (a:kL f):chk f=0:=by unfold chk;rw[c7 a]
theorem Bt {f:List Run} (a:¬ kL f):chk f=1:=by unfold chk;rw[d8 a]
theorem Rs {f:List Run} {k:Nat} (c:∀ a,a<k->Kg f a) (d:Kg f k):∀ a,a<k+1->Kg f a:=λa e=>by
 by_cases b:a=k
 ·subst b;exact d
 exact c a (by omega)
theorem aBs (w:y4) (b T cap:Nat) (f:List Run) (a2:f.length<=cap) (hm:cap<=9223372036854775807) (hl:f.length<=17592186044416) (hb:b<w.heap.size)
  (A:∀ k x,f[k]?=M x->Ic w b (T+k*2) x) (N:0<f.length) :
  y8 prog 131 #[O (M ⟨b,T,J⟩) f.length cap] w λe w'=>e=zv (Y Z (chk f))/\d7 w w':=by
 obtain⟨u,C⟩:=uJ N;have W:=A 0 u C;obtain⟨X,e2,e3,e4⟩:=W;simp only[aGL,aGM] at X e2;have a4:((f.length:Int) == 0)=false:=eqF (by omega);generalize R:f.length=n at *;have j:=I R;clear R;by_cases r:u.At=0
 ·have a0:(u.At != 0)=false:=neF r;have V:=I r;clear r;go_enter func131,ntmps131;go_wp2;go_loopw [17] (λa wr=>∃ k:Nat,k<=n/\a=Y Z k/\(∀ s,s<k->Kg f s)/\d7 w wr) (λa _=>n-(intOf a).toNat);exact⟨0,aGI _,rfl,λs B=>absurd B (aGf _),b8 _⟩;obtain⟨k,hk,rfl,S,d⟩:=hrel;have v:=I S;clear S;have a1:b<wr.heap.size:=aGs hb d.size;by_cases p:k<n
  ·obtain⟨x,D⟩:=uJ (f:=f) (k:=k) (by rw[j.o];exact p);obtain⟨G,H,c3,c4⟩:=A k x D;replace G:=d.c G;replace H:=d.c H;have g:=I D;clear D;have U:∀ n (w:y4),n=x.N->y8 prog 178 #[n] w λe w'=>e=zv (zx (decide (mO x.N)))/\w'=w:=λn w e=>by
    subst e;by_cases a:mO x.N
    ·rw[deT a];exact aAx _ _ a
    rw[deF a];exact aCK _ _ a
   have z:=I U;clear U;go_wp2;by_cases t1:48<=x.At
   ·have h:¬ Kg f k:=λa=>by have:=a.1;rw[aX g.o] at this;omega
    have c:chk f=1:=Bt (λa=>h ((lQ.1 a).2.2 k (by rw[j.o];exact p)));have i:=I c;clear c;go_quiet (fail);go_wp2;go_ret;exact⟨aL i.symm,(d.a _).dn _⟩
   by_cases m:mO x.N
   ·by_cases t3:k=0
    ·have q:Kg f k:=⟨by rw[aX g.o];omega,by rw[cU g.o];exact m,λa=>by omega⟩;have y:=I q;clear q;subst t3;have Q:=λn w e=>by have:=z n w e;rw[deT m] at this;exact this
     have l:=I Q;clear Q;go_quiet ((go_at_call 178;exact Calls.quiet_of_same (l _ _ rfl)));go_wp2;go_roundw;exact⟨0+1,by omega,by go_num,Rs v y,(d.a _).dn _⟩;simp[intOf];omega
    have P:0<k:=by omega
    have a3:(0:Int)<(k:Int):=by omega
    obtain⟨F,E⟩:=uJ (f:=f) (k:=k-1) (by rw[j.o];omega);obtain⟨K,L,d3,d4⟩:=A (k-1) F E;replace K:=d.c K;replace L:=d.c L;have t:=I E;clear E;have Q:=λn w e=>by have:=z n w e;rw[deT m] at this;exact this
    have l:=I Q;clear Q;by_cases t4:x.At<=F.At
    ·have h:¬ Kg f k:=λa=>by have:=(a.2.2 P).1;rw[aX g.o,aX t.o] at this;omega
     have c:chk f=1:=Bt (λa=>h ((lQ.1 a).2.2 k (by rw[j.o];exact p)));have i:=I c;clear c h;go_quiet ((go_at_call 178;exact Calls.quiet_of_same (l _ _ rfl)));go_wp2;go_ret;exact⟨aL i.symm,(d.a _).dn _⟩
    by_cases o:x.N=F.N
    ·have h:¬ Kg f k:=λa=>by have:=(a.2.2 P).2;rw[cU g.o,cU t.o] at this;exact this o
     have c:chk f=1:=Bt (λa=>h ((lQ.1 a).2.2 k (by rw[j.o];exact p)));have i:=I c;have t6:=eqT o;clear c h o;go_quiet ((go_at_call 178;exact Calls.quiet_of_same (l _ _ rfl)));go_wp2;go_ret;exact⟨aL i.symm,(d.a _).dn _⟩
    have q:Kg f k:=⟨by rw[aX g.o];omega,by rw[cU g.o];exact m,λ_=>by rw[aX g.o,cU g.o,aX t.o,cU t.o];exact⟨by omega,o⟩⟩;have y:=I q;have t6:=eqF o;clear q o;go_quiet ((go_at_call 178;exact Calls.quiet_of_same (l _ _ rfl)));go_wp2;go_roundw;exact⟨k+1,by omega,by go_num,Rs v y,(d.a _).dn _⟩;simp[intOf];omega
   have h:¬ Kg f k:=λa=>by have:=a.2.1;rw[cU g.o] at this;exact m this
   have c:chk f=1:=Bt (λa=>h ((lQ.1 a).2.2 k (by rw[j.o];exact p)));have i:=I c;have Q:=λn w e=>by have:=z n w e;rw[deF m] at this;exact this
   have l:=I Q;clear Q c h;go_quiet ((go_at_call 178;exact Calls.quiet_of_same (l _ _ rfl)));go_wp2;go_ret;exact⟨aL i.symm,(d.a _).dn _⟩
  go_wp2;go_ret;have c:chk f=0:=aBW (lQ.2 ⟨by rw[j.o];exact N,by rw[aX C];exact V,λs B=>v s (by rw[j.o] at B;omega)⟩);exact⟨aL c.symm,d⟩
 have a0:(u.At != 0)=true:=neT r;have c:chk f=1:=Bt (λa=>r (by rw[<- aX C];exact(lQ.1 a).2.1));have i:=I c;clear c;go_enter func131,ntmps131;go_wp2;go_ret;exact⟨aL i.symm,b8 _⟩
theorem bI (n lo a:Int) (w:y4) (c:lo<=n) (d:n<=a):y8 prog 106 #[n,lo,a] w λb w'=>b=zv (zx true)/\w'=w:=by
 go_enter func106,ntmps106;go_wp2;go_ret;exact⟨rfl,rfl⟩
theorem dH (n lo b:Int) (w:y4) (a:¬ (lo<=n/\n<=b)):y8 prog 106 #[n,lo,b] w λd w'=>d=zv (zx false)/\w'=w:=by
 by_cases e:lo<=n
 ·have c:¬ n<=b:=λc=>a ⟨e,c⟩;clear a;go_enter func106,ntmps106
  go_wp2;go_ret;exact⟨rfl,rfl⟩
 clear a;go_enter func106,ntmps106;go_wp2;go_ret;exact⟨rfl,rfl⟩
theorem Nf (n:Int) (w:y4) (b:0<=n) (c:n<=47):y8 prog 115 #[n] w λa w'=>a=zv (zx true)/\w'=w:=by
 go_enter func115,ntmps115;go_wp2_with (go_at_call 106;refine(bI _ _ _ _ b c).m ?_;rintro a w' ⟨rfl,rfl⟩);go_ret;exact⟨rfl,rfl⟩
theorem Sh (n:Int) (w:y4) (b:¬ (0<=n/\n<=47)):y8 prog 115 #[n] w λa w'=>a=zv (zx false)/\w'=w:=by
 go_enter func115,ntmps115;go_wp2_with (go_at_call 106;refine(dH _ _ _ _ b).m ?_;rintro a w' ⟨rfl,rfl⟩);go_ret;exact⟨rfl,rfl⟩
theorem aDJ (a b:Int) (w:y4) (f:0<=a) (h:a<b) (g:b<=48):y8 prog 217 #[a,b] w λc w'=>c=zv (zx true)/\w'=w:=by
 obtain⟨d,e⟩:=zr (bI a 0 48 w f (by omega)) (bI b 0 48 w (by omega) g);go_enter func217,ntmps217;go_wp2_with fail;refine d.m ?_;rintro c w' ⟨rfl,rfl⟩;go_wp2_with fail;refine e.m ?_;rintro c w' ⟨rfl,rfl⟩;go_wp2;go_ret;exact⟨rfl,rfl⟩
theorem aEW (a b:Int) (w:y4) (g:¬ (0<=a/\a<b/\b<=48)):y8 prog 217 #[a,b] w λd w'=>d=zv (zx false)/\w'=w:=by
 by_cases c:0<=a/\a<=48
 ·have f:=I (bI a 0 48 w c.1 c.2);by_cases e:0<=b/\b<=48
  ·have h:=I (bI b 0 48 w e.1 e.2);have i:¬ a<b:=λi=>g ⟨c.1,i,e.2⟩;clear g c e;go_enter func217,ntmps217
   go_wp2_with fail;refine f.m ?_;rintro d w' ⟨rfl,rfl⟩;go_wp2_with fail;refine h.m ?_;rintro d w' ⟨rfl,rfl⟩;go_wp2;go_ret;exact⟨fT (deF (by omega)),rfl⟩
  have h:=I (dH b 0 48 w e);clear g c e;go_enter func217,ntmps217;go_wp2_with fail;refine f.m ?_;rintro d w' ⟨rfl,rfl⟩;go_wp2_with fail;refine h.m ?_;rintro d w' ⟨rfl,rfl⟩;go_wp2;go_ret;exact⟨rfl,rfl⟩
 have f:=I (dH a 0 48 w c);clear g c;go_enter func217,ntmps217;go_wp2_with fail;refine f.m ?_;rintro d w' ⟨rfl,rfl⟩;go_wp2;go_ret;exact⟨rfl,rfl⟩
def okR (f:List Run) (j:Nat):Prop:=(0<=bG f j/\bG f j<=47)/\mO (jF f j)/\(j=0->bG f j=0)/\(0<j->bG f (j-1)<bG f j/\jF f j≠jF f (j-1))
theorem Gx {f:List Run}:kL f↔0<f.length/\∀ a,a<f.length->okR f a:=by
 rw[lQ];constructor
 ·rintro⟨h1,h2,h3⟩;have h:∀ a,a<f.length->0<=bG f a:=by
   intro a
   induction a with
   | zero=>intro _;omega
   | succ a c=>intro b;have:=c (by omega);have:=(h3 (a+1) b).2.2 (by omega);simp only[aGg] at this;omega
  refine⟨h1,λa b=>?_⟩;obtain⟨g,c,d⟩:=h3 a b;exact⟨⟨h a b,by omega⟩,c,λe=>by subst e;exact h2,d⟩
 rintro⟨h1,h2⟩;exact⟨h1,(h2 0 h1).2.2.1 rfl,λa b=>by
  obtain⟨g,c,d,e⟩:=h2 a b;exact⟨by omega,c,e⟩⟩
theorem aDU {f:List Run} {k:Nat} (c:∀ a,a<k->okR f a) (d:okR f k):∀ a,a<k+1->okR f a:=λa e=>by
 by_cases b:a=k
 ·subst b;exact d
 exact c a (by omega)
theorem Qe (w:y4) (b T cap:Nat) (f:List Run) (hl:f.length<=17592186044416) (hb:b<w.heap.size) (P:∀ k x,f[k]?=M x->Ic w b (T+k*2) x) :
  y8 prog 162 #[O (M ⟨b,T,J⟩) f.length cap] w λD w'=>D=zv (zx (decide (kL f)))/\d7 w w':=by
 have G:=I P;clear P;generalize S:f.length=n at *;have q:=I S;clear S;go_enter func162,ntmps162;go_wp2;go_loopw [3] (λa wr=>∃ k:Nat,k<=n/\a=Y Z k/\Hid (∀ m,m<k->okR f m)/\d7 w wr) (λa _=>n-(intOf a).toNat);exact⟨0,aGI _,rfl,λm s=>absurd s (aGf _),b8 _⟩;obtain⟨k,hk,rfl,H,c⟩:=hrel;have a0:b<wr.heap.size:=aGs hb c.size;by_cases R:k<n
 ·obtain⟨x,E⟩:=uJ (f:=f) (k:=k) (by rw[q.o];exact R);obtain⟨B,C,c3,c4⟩:=G k x E;replace B:=c.c B;replace C:=c.c C;have d:=I E;clear E;have V:=z7 k n;have K:¬ okR f k->decide (kL f)=false:=λa=>decide_eq_false (λU=>a ((Gx.1 U).2 k (by rw[q.o];exact R)));have r:=I K;clear K;by_cases h:0<=x.At/\x.At<=47
  ·have t:=λw=>Nf x.At w h.1 h.2;have g:=I t;clear t;by_cases o:mO x.N
   ·have u:=λw=>bI x.N (-1048576) 1048576 w o.1 o.2;obtain⟨l,y⟩:=zr u (And.intro h o);clear u h o;by_cases W:k=0
    ·subst W;simp only[aGL,aGM] at B C;by_cases i:x.At=0
     ·have j:=neF i;have A:=I (show okR f 0 from ⟨by rw[aX d.o];exact y.1,by rw[cU d.o];exact y.2,λ_=>by rw[aX d.o];exact i,λa=>absurd a (aGa _)⟩);clear i;go_wp2;go_quiet (first|(go_at_call 115;exact Calls.quiet_of_same (g _))|(go_at_call 106;exact Calls.quiet_of_same (l _)));go_wp2;go_roundw;exact⟨0+1,by omega,by go_num,λm s=>(show m=0 by omega)▸A.o,c.dn _⟩;simp[intOf];omega
     have j:=neT i;have e:=I (r (λa=>i (by rw[<- aX d.o];exact a.2.2.1 rfl)));clear i;go_wp2;go_quiet (first|(go_at_call 115;exact Calls.quiet_of_same (g _))|(go_at_call 106;exact Calls.quiet_of_same (l _)));go_wp2;go_ret;exact⟨fT e.symm,c.dn _⟩
    have Q:0<k:=by omega
    have a1:(0:Int)<(k:Int):=by omega
    have a2:((k:Int) == 0)=false:=eqF (by omega);obtain⟨z,F⟩:=uJ (f:=f) (k:=k-1) (by rw[q.o];omega);obtain⟨L,N,d3,d4⟩:=G (k-1) z F;replace L:=c.c L;replace N:=c.c N;have v:=I F;clear F;by_cases i:x.At<=z.At
    ·have e:=I (r (λa=>by have:=(a.2.2.2 Q).1;rw[aX d.o,aX v.o] at this;omega));go_wp2;go_quiet (first|(go_at_call 115;exact Calls.quiet_of_same (g _))|(go_at_call 106;exact Calls.quiet_of_same (l _)));go_wp2;go_ret;exact⟨fT e.symm,c.dn _⟩
    have a3:=deF i;have a4:z.At<x.At:=by omega
    by_cases j:z.N=x.N
    ·have e:=I (r (λa=>by have:=(a.2.2.2 Q).2;rw[cU d.o,cU v.o] at this;exact this j.symm));have X:=eqT j;clear j;go_wp2;go_quiet (first|(go_at_call 115;exact Calls.quiet_of_same (g _))|(go_at_call 106;exact Calls.quiet_of_same (l _)));go_wp2;go_ret;exact⟨fT e.symm,c.dn _⟩
    have X:=eqF j;have A:=I (show okR f k from ⟨by rw[aX d.o];exact y.1,by rw[cU d.o];exact y.2,λa=>by omega,λ_=>by rw[aX d.o,cU d.o,aX v.o,cU v.o];exact⟨by omega,λD=>j D.symm⟩⟩);clear j;go_wp2;go_quiet (first|(go_at_call 115;exact Calls.quiet_of_same (g _))|(go_at_call 106;exact Calls.quiet_of_same (l _)));go_wp2;go_roundw;exact⟨k+1,by omega,by go_num,aDU H A,c.dn _⟩;simp[intOf];omega
   have u:=λw=>dH x.N (-1048576) 1048576 w o;obtain⟨l,e⟩:=zr u (r (λa=>o (by rw[<- cU d.o];exact a.2.1)));clear u h o
   go_wp2;go_quiet (first|(go_at_call 115;exact Calls.quiet_of_same (g _))|(go_at_call 106;exact Calls.quiet_of_same (l _)));go_wp2;go_ret;exact⟨fT e.symm,c.dn _⟩
  have t:=λw=>Sh x.At w h;obtain⟨g,e⟩:=zr t (r (λa=>h (by rw[<- aX d.o];exact a.1)));clear t h
  go_wp2;go_quiet (first|(go_at_call 115;exact Calls.quiet_of_same (g _)));go_wp2;go_ret;exact⟨fT e.symm,c.dn _⟩
 have V:=z8 k n;obtain rfl:k=n:=by omega
 by_cases e:0<k
 ·have g:(0:Int)<(k:Int):=by omega
  have d:=I (decide_eq_true (Gx.2 ⟨by rw[q.o];exact e,λm s=>H m (by rw[q.o] at s;exact s)⟩));go_wp2;go_ret;exact⟨fT d.symm,c⟩
 have g:¬ (0:Int)<(k:Int):=by omega
 have d:=I (decide_eq_false (p:=kL f) (λa=>by have:=(Gx.1 a).1;rw[q.o] at this;exact e this));go_wp2;go_ret;exact⟨fT d.symm,c⟩
theorem Vs (w:y4) (v:y5) (f:List Run) (j:aR w v f):y8 prog 162 #[v] w λd w'=>d=zv (zx (decide (kL f)))/\d7 w w':=by
 rcases j with ⟨rfl,l,m,rfl,q⟩|⟨b,k,c,rfl,n,o,e,g,h⟩
 ·have i:=I (decide_eq_false (p:=kL []) (λa=>a.1));go_enter func162,ntmps162;go_wp2;go_loopw [3] (λa wr=>a=Y Z 0/\wr=w) (λa _=>0);exact⟨rfl,rfl⟩;obtain⟨rfl,rfl⟩:=hrel;go_wp2;go_ret;exact⟨fT i.symm,b8 _⟩
 exact Qe w b k c f e g h
@[irreducible] def tab (x:Nat->Int):Array y5:=((List.range 48).map (λt=>Y .i64 (x t))).toArray
theorem eE (x:Nat->Int):(tab x).size=48:=by unfold tab;simp
theorem Kl {x:Nat->Int} {t:Nat} (a:t<48):(tab x)[t]?=M (Y Z (x t)):=by
 unfold tab;simp[a]
theorem Fp {x y:Nat->Int} (a:∀ t,t<48->x t=y t):tab x=tab y:=by
 unfold tab;congr 1;exact List.map_congr_left λt b=>by rw[a t (aGN.1 b)]
theorem aBE (x:Nat->Int):(tab x).all (·.oneCell')=true:=by
 unfold tab;simp[aGr]
def upd (x:Nat->Int) (t:Nat) (n:Int):Nat->Int:=λs=>if s=t then n else x s
theorem Wu (x:Nat->Int) (t:Nat) (n:Int):upd x t n t=n:=by simp[upd]
theorem aCd (x:Nat->Int) {t s:Nat} (n:Int) (a:s≠t):upd x t n s=x s:=by simp[upd,a]
theorem aET {x:Nat->Int} {t:Nat} (n:Int) (c:t<48):(tab x).setIfInBounds t (Y Z n)=tab (upd x t n):=by
 apply Array.ext
 ·simp[eE]
 intro a h f;have g:a<48:=by simpa[eE] using f
 have d:(tab (upd x t n))[a]?=M (Y Z (upd x t n a)):=Kl g;have e:((tab x).setIfInBounds t (Y Z n))[a]?=M (Y Z (upd x t n a)):=by
  rw[Array.getElem?_setIfInBounds];by_cases b:t=a
  ·subst b;rw[c7 rfl,c7 (by rw[eE];exact c),Wu]
  rw[d8 b,Kl g,aCd x n (λc=>b c.symm)]
 rw[aGO h] at e;rw[aGO f] at d;rw[b7 e,b7 d]
theorem Wz:(#[Y Z 0,Y Z 0,Y Z 0,Y Z 0,Y Z 0,Y Z 0,Y Z 0,Y Z 0,Y Z 0,Y Z 0,Y Z 0,Y Z 0,Y Z 0,Y Z 0,Y Z 0,Y Z 0,Y Z 0,Y Z 0,Y Z 0,Y Z 0,Y Z 0,Y Z 0,Y Z 0,Y Z 0,Y Z 0,Y Z 0,Y Z 0,Y Z 0,Y Z 0,Y Z 0,Y Z 0,Y Z 0,Y Z 0,Y Z 0,Y Z 0,Y Z 0,Y Z 0,Y Z 0,Y Z 0,Y Z 0,Y Z 0,Y Z 0,Y Z 0,Y Z 0,Y Z 0,Y Z 0,Y Z 0,Y Z 0]:Array y5)=tab (λ_=>0):=by
 unfold tab;rfl
def cG (T:o8) (w:y4) (b:Nat) (x:Nat->Int):Prop:=w.heap[b]?=M (zt (tab x) T (0,0))
section
variable {T:o8} {w w':y4} {b:Nat} {x:Nat->Int}
theorem cG.lt (a:cG T w b x):b<w.heap.size:=(aGq.1 a).1
theorem cG.cell (a:cG T w b x) {t:Nat} (c:t<48):w ⟨b,t,J⟩=M (Y Z (x t)):=by
 rw[y6 w b t _ T _ a];exact Kl c
theorem cG.free (a:cG T w b x) (t:Nat):w.frozen? ⟨b,t,J⟩=false:=x4 w b t _ T a
theorem cG.set (a:cG T w b x) {t:Nat} (c:t<48) (n:Int):cG T (w.setCell ⟨b,t,J⟩ (Y Z n)) b (upd x t n):=by
 unfold cG;rw[x6 w b t _ T _ a,aET n c]
theorem cG.other (a:cG T w b x) {c o:Nat} (d:b≠c) (v:y5):cG T (w.setCell ⟨c,o,J⟩ v) b x:=by
 unfold cG;rw[x7 w ⟨c,o,J⟩ b v d];exact a
theorem cG.e (a:cG T w b x) (c:d7 w w'):cG T w' b x:=by
 unfold cG;rw[c.block b a.lt];exact a
theorem cG.congr {y:Nat->Int} (a:cG T w b x) (e:∀ t,t<48->x t=y t):cG T w b y:=by
 unfold cG at *;rw[<- Fp e];exact a
theorem cG.new (w:y4) (x:Nat->Int):cG T (w.alloc (zt (tab x) T)) w x:=y7 w _
theorem cG.grown (a:cG T w b x) {v:y5} (d:w.grownBy w' v.ownBlock) (e:∀ c,v.ownBlock=M c->b<c):cG T w' b x:=by
 unfold cG;rw[d.block b a.lt (λc=>by have:=e b c.symm;omega)];exact a
theorem cG.row (a:cG T w b x) (y:Nat->Int):cG T (w.setRow b (tab y)) b y:=setRow_heap w b _ _ T _ a
end
theorem d7.sr {a w:y4} (c:d7 a w) {b:Nat} (hb:a<=b) (cs:Array y5):d7 a (w.setRow b cs):=
 c.trans ⟨rfl,rfl,rfl,by simp[World.setRow],λd e=>setRow_other w b d cs (by omega)⟩
def iE (T:o8) (w:y4) (b:Nat) (vs:List y5):Prop:=w.heap[b]?=M (zt vs.toArray T (0,0))
section
variable {T:o8} {w w':y4} {b:Nat} {vs:List y5}
theorem iE.lt (a:iE T w b vs):b<w.heap.size:=(aGq.1 a).1
theorem iE.cell (a:iE T w b vs) {k:Nat} {v:y5} (c:vs[k]?=M v):w ⟨b,k,J⟩=M v:=by
 rw[y6 w b k _ T _ a];simpa using c
theorem iE.free (a:iE T w b vs) (k:Nat):w.frozen? ⟨b,k,J⟩=false:=x4 w b k _ T a
theorem iE.set (a:iE T w b vs) (k:Nat) (v:y5):iE T (w.setCell ⟨b,k,J⟩ v) b (vs.set k v):=by
 unfold iE;rw[x6 w b k _ T _ a];simp
theorem iE.other (a:iE T w b vs) {c o:Nat} (d:b≠c) (v:y5):iE T (w.setCell ⟨c,o,J⟩ v) b vs:=by
 unfold iE;rw[x7 w ⟨c,o,J⟩ b v d];exact a
theorem iE.e (a:iE T w b vs) (c:d7 w w'):iE T w' b vs:=by
 unfold iE;rw[c.block b a.lt];exact a
theorem iE.new (w:y4) (vs:List y5):iE T (w.alloc (zt vs.toArray T)) w vs:=y7 w _
theorem iE.kept (a:iE T w b vs) {row:Option Nat} (c:w.grownBy w' row) (d:M b≠row):iE T w' b vs:=(c.block b a.lt d).trans a
end
theorem Ub {P:o9} {t e:o8} {i:TypeInfo} {z:y5} (f:P.underlying t=M (.slice e)) (c:P.info? e=M i) (g:i.zero=M z) (h:z.cells=#[z]) (d:i.size=1) (n:Nat) (hb:i.bytes*n<=281474976710656) (k:n<=17592186044416) (w:y4) :
  (Instr.makeSlice t (Y Z (n:Int)) (Y Z (n:Int))).run P w=.ok (O (M ⟨w,0,J⟩) n n) (w.alloc (zt (List.replicate n z).toArray e)):=by
 have b:(i.bytes:Int)*(n:Int)<=281474976710656:=by
  have a:((i.bytes*n:Nat):Int)<=281474976710656:=by omega
  rwa [Int.natCast_mul] at a
 have:=run_make (P:=P) w t e i z f c g .i64 .i64 n n (by omega) (aGh _) b (by omega);rw[this];simp only[aGK,h,d,aGP];congr 2;congr 1;apply Array.toList_inj.1;apply List.ext_getElem?;intro j;by_cases a:j<n
 ·simp[madeCells,a,Nat.mod_one]
 simp[madeCells,a]
attribute [local go_sem] Uh
def Ky (w:y4) (rs:List Run) (e:r8) (w':y4):Prop:=∃ a,e=zv a/\aR w' a rs/\d7 w w'
def pZ (w:y4) (rs:List Run) (e:r8) (w':y4):Prop:=∃ a,e=zv a/\aR w' a rs/\(∀ b n c,a=O (M b) n c->w.heap.size<=b.block)/\d7 w w'
theorem pZ.ret {w w':y4} {rs:List Run} {e:r8} (a:pZ w rs e w'):Ky w rs e w':=by
 obtain⟨f,b,c,_,d⟩:=a;exact⟨f,b,c,d⟩
theorem yZ {w:y4} {base e f n:Nat} {v:y5} {xs:List y5} (d:w.ownsRow base e f v n xs):∀ a c b,v=O (M a) c b->base<=a.block:=λa c b e=>d.lt a.block (by rw[e];rfl) |>.1
theorem Bm {x:Nat->Int}:∀ n b,b∈cX x n->∃ t,t<n/\b.N=x t
 | 0,b,a=>by simp[cX] at a
 | n+1,b,a=>by
  simp only[cX,aGe] at a;rcases a with a|a
  ·obtain⟨t,d,c⟩:=Bm n b a;exact⟨t,by omega,c⟩
  split at a
  ·simp at a;subst a;exact⟨n,by omega,rfl⟩
  simp at a
theorem Ml {w:y4} {base e:Nat} {v:y5} {a:List Run} (j:w.ownsRow base e 2 v a.length (bH Run.At Run.N a)) (m:a=[]->v=O J 0 0) :
  (a=[]/\v=O J 0 0)\/∃ d cp c,v=O (M ⟨d,0,J⟩) a.length cp/\base<=d/\d<w.heap.size/\a.getLast?=M c/\0<a.length/\w ⟨d,(a.length-1)*2+1,J⟩=M (Y Z c.N):=by
 by_cases d:a=[]
 ·exact .inl ⟨d,m d⟩
 obtain⟨_,f⟩:=j;have n:0<a.length:=List.length_pos_iff.2 d;rcases f with ⟨rfl,f⟩|⟨b,i,p,rfl,k,g,r,q,s,o⟩
 ·omega
 right;obtain⟨c,h⟩:∃ c,a.getLast?=M c:=⟨a.getLast d,List.getLast?_eq_some_getLast d⟩;refine⟨b,i,c,rfl,k,(aGq.1 g).1,h,n,?_⟩;have l:a[a.length-1]?=M c:=by rw[<- List.getLast?_eq_getElem?];exact h
 have:=(pB Run.At Run.N a _ c l).2;simp only[aGy,g,aGz,Bool.false_eq_true,if_false];rw[<- o,aGA] at this;split at this
 ·simpa using this
 cases this
theorem Lr:∀ (l:List Run) (t:Nat),l≠[]->∃ c∈l,sp l t=c.N
 | [],_,h=>absurd rfl h
 | [a],_,_=>⟨a,by simp,rfl⟩
 | a::b::l,t,_=>by
  rw[sp];split
  ·obtain⟨c,d,e⟩:=Lr (b::l) t (by simp);exact⟨c,aGc _ d,e⟩
  exact⟨a,by simp,rfl⟩
theorem Lt {f:List Run} (b:dK f):f≠[]:=by
 intro a;subst a;exact b
theorem Wi {f g:List Run} {of:Int->Int->Int} (j:dK f) (k:dK g) (h:∀ x∈f,∀ c∈g,I64 (of x.N c.N)):∀ b∈aY (λt=>of (sp f t) (sp g t)),I64 b.At/\I64 b.N:=λb a=>by
 rw[nU] at a;have n:=uM _ _ a;obtain⟨t,_,i⟩:=Bm _ _ a;obtain⟨x,l,d⟩:=Lr f t (Lt j);obtain⟨c,m,e⟩:=Lr g t (Lt k);refine⟨I64.of (by omega) (by omega),?_⟩;rw[i];simp only[d,e];exact h x l c m
theorem info101:(prog.info? 101).map (λa=>(a.zero,a.size,a.bytes))=M (M (.agg #[Y Z 0,Y Z 0]),2,16):=by kernel_rfl
theorem aDj (w:y4) (K fo fc L go gc:Nat) (f g:List Run) (R:Nat) (of:Int->Int->Int) (a6:dK f) (a7:dK g)
  (ap:f.length<=fc) (av:g.length<=gc) (ar:fc<=9223372036854775807) (ax:gc<=9223372036854775807) (aa:K<w.heap.size) (ab:L<w.heap.size)
  (hE:∀ k x,f[k]?=M x->Ic w K (fo+k*2) x) (hG:∀ k x,g[k]?=M x->Ic w L (go+k*2) x)
  (ao:∀ (args:Array y5) (w:y4),(i6 R args).run prog w=.ok (.enter R args) w)
  (ae:∀ x∈f,∀ a∈g,I64 (of x.N a.N)/\∀ w,y8 prog R #[x.N,a.N] w λH w'=>H=zv (Y Z (of x.N a.N))/\w'=w) :
  y8 prog 151 #[O (M ⟨K,fo,J⟩) f.length fc,O (M ⟨L,go,J⟩) g.length gc,zy (.func R) #[] #[]] w (pZ w (aY (λt=>of (sp f t) (sp g t)))):=by
 have aq:=kN a6;have aw:=kN a7;obtain⟨HE,HG,G,W,V⟩:=zm hE hG a6 a7 ae;clear hE hG a6 a7 ae;obtain⟨ir,ag,ah,ai,aj⟩:=s8 info101;generalize hn:f.length=n at *;have v:=I hn;generalize hm:g.length=p at *;have u:=I hm;clear hn hm;go_enter func151,ntmps151;go_wp2;go_loopw [7,8,9] (λr l b wr=>∃ (c k:Nat) (i:List Run),l=Y Z c/\b=Y Z k/\c<=n/\k<=p/\Hid (wr.ownsRow w 101 2 r i.length (bH Run.At Run.N i))/\Hid (i=[]->r=O J 0 0)/\Hid (Ti f g (λt=>of (sp f t) (sp g t)) c k i)/\d7 w wr)
  (λ_ l b _=>(n+p)-(intOf l+intOf b).toNat)
 case atStart=>exact⟨0,0,[],rfl,rfl,aGI _,aGI _,aGQ _ _ _ _,λ_=>rfl,Wk G W _,b8 _⟩
 case round=>
  obtain⟨c,k,i,rfl,rfl,hi,hk,j,D,o,b⟩:=hrel;have au:K<wr.heap.size:=aGs aa b.size;have ay:L<wr.heap.size:=aGs ab b.size;by_cases a3:c<n
  ·by_cases a4:k<p
   ·obtain⟨x,B⟩:=uJ (f:=f) (k:=c) (by rw[v.o];exact a3);obtain⟨a,C⟩:=uJ (f:=g) (k:=k) (by rw[u.o];exact a4);obtain⟨c1,c2,c3,c4⟩:=HE c x B;obtain⟨d1,d2,d3,d4⟩:=HG k a C;replace c1:=b.c c1;replace c2:=b.c c2;replace d1:=b.c d1;replace d2:=b.c d2;have a8:=aAd G W (of:=of) (by rw[v.o];exact a3) (by rw[u.o];exact a4) o;rw[aX B,aX C,cU B,cU C] at a8;have X:=I a8;have m:=(V x (aGC B) a (aGC C)).1;have y:=λ(d:y4) (e:d7 w d)=>Yb d K fo fc f c (by rw[v.o];omega) (aGs aa e.size) (λk x hk=>E2.m w d _ _ _ e (HE k x hk)) (by rw[v.o];exact a3);have z:=λ(d:y4) (e:d7 w d)=>Yb d L go gc g k (by rw[u.o];omega) (aGs ab e.size) (λk x hk=>E2.m w d _ _ _ e (HG k x hk)) (by rw[u.o];exact a4);rw[v.o] at y;rw[u.o] at z;obtain⟨S,T⟩:=zr y z;have ho:=V x (aGC B) a (aGC C);have E:=I ho;have ac:=z7 c n
    have al:=z7 k p;have a0:=I m;clear ho B C a8 m y z;go_upto_region 4 with fail
    go_cut [10] (λq d=>∃ h:Nat,q=zz (M ⟨h,0,J⟩)/\wr<=h/\d ⟨h,0,J⟩=M (Y Z (max x.At a.At))/\d ⟨h,1,J⟩=M (Y Z (of x.N a.N))/\d7 wr d)
    case first=>
     refine Kf 25 24 (Obj.cells #[Y Z 0,Y Z 0] 101) (by kernel_rfl) (by kernel_rfl) rfl rfl rfl (λl w=>by kernel_rfl) ?_;simp only[List.take_succ_cons,List.take_zero,List.drop_succ_cons,List.drop_zero]
     repeat (refine sW rfl (λq l=>?_);go_simp;refine l _ ?_;clear l q)
     refine sW rfl (λq l=>?_);go_simp;refine⟨_,⟨λp=>(E.2 _).m λH w' ⟨A,P⟩=>⟨A,_,P⟩,λp=>(E.2 _).m λH w' ⟨A,P⟩=>⟨A,_,P⟩⟩,l _ ?_⟩;clear l q
     repeat (refine sW rfl (λq l=>?_);go_simp;refine l _ ?_;clear l q)
     refine Lb rfl ?_;refine To ?_;intro Q;simp only[Act.put,zD,zE,zF];rw[maxw];generalize N:max x.At a.At=mx;have U:=I N;generalize m:of x.N a.N=s;have F:=I m;clear N m S T X E a0 j o D;go_wp2_with fail;go_meet
     case rel=>exact⟨wr,rfl,aGi _,by rw[U.o];simp[go_sem],by rw[F.o];simp[go_sem],(((b8 wr).a _).dn _).se (aGi _) _ |>.se (aGi _) _⟩
    case rest=>
     obtain⟨h,rfl,hB,b1,b2,Q⟩:=hcut;clear c1 c2 d1 d2
     go_step
     go_step
     have am:w.heap.size<=wc.heap.size:=aGR b.size Q.size
     go_cut [7,11] (λr _ d=>∃ q:List Run,q=jV i ⟨max x.At a.At,of x.N a.N⟩/\Hid (d.ownsRow w 101 2 r q.length (bH Run.At Run.N q))/\d7 w d)
     case first=>
      have l:=I (aJ j Q);have af:=aC7 G o;generalize N:max x.At a.At=mx at b1;have U:=I N;generalize m:of x.N a.N=s at b2;have F:=I m;clear N m S T X E a0 o j;rcases Ml l D with ⟨rfl,rfl⟩|⟨ob,cp,r,rfl,b0,am,ad,b3,az⟩
      ·clear D;have ak:h<wc.heap.size:=aGp wc ⟨h,0,J⟩ b1;go_wp2;go_quiet (fail);have P:=aJ l ((b8 wc).dn nq);go_wp2_with (at_builtin;refine r6 _ rfl _ _ 61 rfl w 101 ir _ 2 16 underlying61 ag ah ai aj rfl (by decide) _ _ _ rfl (P.alloc _) ⟨wc,0,J⟩ 1 1 [Y Z mx,Y Z s] rfl rfl (xF _ (by simp) _ _ _) (xE _ _ _ _) (by simp[o0]) (by simp) (by simp;omega) ?_);intro v2 W2 a5 a2 _;go_wp2_with fail;go_meet
       case rel=>exact⟨_,rfl,I (by rw[U.o,F.o];simpa[Mg,bH] using a5),(((b.r Q).dn nq).a _).gr a2 (bN P)⟩
      have b4:((i.length:Int) == 0)=false:=eqF (by omega);have b5:(0:Int)<(i.length:Int):=by omega
      have a9:=I ad;have ak:h<wc.heap.size:=aGp wc ⟨h,0,J⟩ b1;clear ad D;by_cases A:r.N=s
      ·have an:(r.N != s)=false:=neF A;have a1:=I A;clear A;go_wp2;go_quiet (fail);go_wp2_with fail;go_meet
       case rel=>exact⟨_,rfl,by rw[wZ a9.o (by rw[F.o];exact a1)];exact aJ l ((b8 wc).dn nq),(b.r Q).dn nq⟩
      have an:(r.N != s)=true:=neT A;have a1:=I A;clear A;go_wp2;go_quiet (fail);have P:=aJ l ((b8 wc).dn nq);go_wp2_with (at_builtin;refine r6 _ rfl _ _ 61 rfl w 101 ir _ 2 16 underlying61 ag ah ai aj rfl (by decide) _ _ _ rfl (P.alloc _) ⟨wc,0,J⟩ 1 1 [Y Z mx,Y Z s] rfl rfl (xF _ (by simp) _ _ _) (xE _ _ _ _) (by unfold o0;omega) (by omega) (by simp;omega) ?_);intro v2 W2 a5 a2 _;go_wp2_with fail;go_meet
      case rel=>exact⟨_,rfl,by rw[U.o,F.o,Ay a9.o (x:=⟨mx,s⟩) a1.o,lS,aGb];exact a5,(((b.r Q).dn nq).a _).gr a2 (bN P)⟩
     case rest=>
      obtain⟨q,a1,l,A⟩:=hcut;obtain⟨N,P⟩:=zr (a1▸aCD i ⟨max x.At a.At,of x.N a.N⟩) (by have:=X.o;rw[<- a1] at this;exact this);clear b1 b2 hB E a0 o j D X a1;have y:=S _ A;have z:=T _ A;generalize a9:bW f c=na at *;generalize ad:bW g k=nb at *;obtain⟨a2,a5⟩:=zr y z;clear y z a9 ad S T;go_wp2_with fail;refine a2.m ?_;rintro H W3 ⟨rfl,rfl⟩;go_wp2_with fail;refine a5.m ?_;rintro H W3 ⟨rfl,rfl⟩;clear a2 a5;by_cases U:na<=nb
      ·by_cases F:nb<=na
       ·have s:=I (by have:=P.o;rw[c7 U,c7 F] at this;exact this);go_wp2;go_roundw;exact⟨c+1,k+1,q,by go_num,by go_num,by omega,by omega,l,λe=>absurd e N,s,A⟩;simp[intOf];omega
       have s:=I (by have:=P.o;rw[c7 U,d8 F] at this;exact this);go_wp2;go_roundw;exact⟨c+1,k,q,by go_num,rfl,by omega,by omega,l,λe=>absurd e N,s,A⟩;simp[intOf];omega
      have F:nb<=na:=by omega
      have s:=I (by have:=P.o;rw[d8 U,c7 F] at this;exact this);go_wp2;go_roundw;exact⟨c,k+1,q,rfl,by go_num,by omega,by omega,l,λe=>absurd e N,s,A⟩;simp[intOf];omega
   have ac:=z7 c n;have al:=z8 k p;have d:=La o (.inr (by rw[u.o];omega));subst d;have af:(aY (λt=>of (sp f t) (sp g t))).length<=48:=by rw[nU];exact rA 48
   go_wp2;go_ret;exact⟨_,rfl,bL j (λr e=>Wi G W (λx b a h=>(V x b a h).1) r e) (by omega),yZ j,b⟩
  have ac:=z8 c n;have d:=La o (.inl (by rw[v.o];omega));subst d;have af:(aY (λt=>of (sp f t) (sp g t))).length<=48:=by rw[nU];exact rA 48
  go_wp2;go_ret;exact⟨_,rfl,bL j (λr e=>Wi G W (λx b a h=>(V x b a h).1) r e) (by omega),yZ j,b⟩
theorem size150:(prog.info? 150).map (·.size)=M 48:=by kernel_rfl
def Ou (w:y4) (x:Nat->Int) (e:r8) (w':y4):Prop:=e=zv (.agg (tab x))/\d7 w w'
def yI (f:List Run) (k t:Nat):Prop:=k<f.length/\bG f k<=(t:Int)/\(t:Int)<=bW f k
def Wt (x:Nat->Int) (t:Nat):Nat->Int:=λs=>if s<t then x s else 0
theorem aCc (x:Nat->Int):Wt x 0=λ_=>0:=by funext s;simp[Wt]
theorem Fk (x:Nat->Int) (t:Nat):upd (Wt x t) t (x t)=Wt x (t+1):=by
 funext s;unfold upd Wt;by_cases a:s=t
 ·subst a;simp
 rw[d8 a];by_cases b:s<t
 ·rw[c7 b,c7 (by omega)]
 rw[d8 b,d8 (by omega)]
theorem aDC (x:Nat->Int):∀ t,t<48->Wt x 48 t=x t:=λt a=>by simp[Wt,a]
theorem Xd (w:y4) (b S cap:Nat) (f:List Run) (B:dK f) (hb:b<w.heap.size) (N:∀ k x,f[k]?=M x->Ic w b (S+k*2) x) :
  y8 prog 169 #[O (M ⟨b,S,J⟩) f.length cap] w (Ou w (sp f)):=by
 have hlen:=kN B;have C:=mW B;obtain⟨F,G⟩:=zr N B;have R:yI f 0 0:=⟨C.1,by rw[C.2];simp,by have:=cI B C.1;omega⟩;have U:=I R;clear N B R;generalize Q:f.length=n at *;have e:=I Q;have a2:=C.1;clear Q C;go_enter func169,ntmps169;go_wp2_with fail;rw[Wz];go_loopw [4,5] (λc a wr=>∃ k t:Nat,c=Y Z k/\a=Y Z t/\t<=48/\k<n/\Hid (yI f k t)/\Hid (cG 150 wr (w+1) (Wt (sp f) t))/\Hid (cG 150 wr w (λ_=>0))/\d7 w wr) (λ_ a _=>48-(intOf a).toNat);exact⟨0,0,rfl,rfl,by omega,a2,U,by rw[aCc];exact I (by have:=cG.new (T:=150) (w.alloc (zt (tab λ_=>0) 150)) (λ_=>0);simpa using this),I ((cG.new w _).e ((b8 _).a _)),((b8 w).a _).a _⟩;obtain⟨k,t,rfl,rfl,ht,o,H,r,q,c⟩:=hrel;have a3:b<wr.heap.size:=aGs hb c.size;by_cases P:t<48
 ·have a1:(t:Int)<48:=by omega
  have m:=λ(n:Int)=>r.set P n;have a4:=r.cell P;have a5:=r.free t;have a6:w.heap.size+1<wr.heap.size:=r.lt;by_cases p:k+1<n
  ·have a0:(k:Int)+1<(n:Int):=by omega
   obtain⟨D,j⟩:=uJ (f:=f) (k:=k+1) (by rw[e.o];exact p);obtain⟨K,L,d3,d4⟩:=F (k+1) D j;replace K:=c.c K;replace L:=c.c L;have E:bW f k=D.At:=by rw[iN (by rw[e.o];exact p),aX j]
   by_cases A:D.At=(t:Int)
   ·have X:=eqT A;have d:=cI G (i:=k+1) (by rw[e.o];exact p);have h:D.N=sp f t:=by
     rw[<- cU j];rw[aX j] at d;exact(d.2.2.2 t (by rw[A];exact aGh _) (by omega)).symm
    have g:=I h;have u:Hid (yI f (k+1) (t+1)):=I ⟨by rw[e.o];exact p,by rw[aX j];omega,by rw[aX j] at d;omega⟩;have s:=I m;clear A E d h j m;go_wp2;go_roundw;exact⟨k+1,t+1,by go_num,by go_num,by omega,p,u,I (by have:=s D.N;rw[g.o,Fk] at this;rw[g.o];exact this),I (q.other (by omega) _),c.se (by omega) _⟩;simp[intOf];omega
   have X:=eqF A;obtain⟨x,l⟩:=uJ (f:=f) (k:=k) (by rw[e.o];exact o);obtain⟨y,z,V,W⟩:=F k x l;replace y:=c.c y;replace z:=c.c z;have d:=cI G (i:=k) (by rw[e.o];exact o);have a:=H.o;have h:x.N=sp f t:=by
    rw[<- cU l];exact(d.2.2.2 t a.2.1 (by have:=a.2.2;omega)).symm
   have g:=I h;have u:Hid (yI f k (t+1)):=I ⟨a.1,by have:=a.2.1;omega,by have:=a.2.2;omega⟩;have s:=I m;clear A E d h j l a m;go_wp2;go_roundw;exact⟨k,t+1,rfl,by go_num,by omega,o,u,I (by have:=s x.N;rw[g.o,Fk] at this;rw[g.o];exact this),I (q.other (by omega) _),c.se (by omega) _⟩;simp[intOf];omega
  have a0:¬ (k:Int)+1<(n:Int):=by omega
  obtain⟨x,l⟩:=uJ (f:=f) (k:=k) (by rw[e.o];exact o);obtain⟨y,z,V,W⟩:=F k x l;replace y:=c.c y;replace z:=c.c z;have d:=cI G (i:=k) (by rw[e.o];exact o);have a:=H.o;have E:bW f k=48:=iU (by rw[e.o];exact p);have h:x.N=sp f t:=by
   rw[<- cU l];exact(d.2.2.2 t a.2.1 (by omega)).symm
  have g:=I h;have u:Hid (yI f k (t+1)):=I ⟨a.1,by have:=a.2.1;omega,by omega⟩;have s:=I m;clear E d h l a m;go_wp2;go_roundw;exact⟨k,t+1,rfl,by go_num,by omega,o,u,I (by have:=s x.N;rw[g.o,Fk] at this;rw[g.o];exact this),I (q.other (by omega) _),c.se (by omega) _⟩;simp[intOf];omega
 have a1:¬ (t:Int)<48:=by omega
 obtain rfl:t=48:=by omega
 have a:cG 150 wr (w+1) (sp f):=r.congr (aDC _);go_wp2_with (first
  | (refine wpList_load_row rfl 150 _ rfl (w+1) rfl 150 (tab (sp f)) (0,0) _ a underlying150 rfl (by rw[eE];exact size150) ?_)
  | (refine y9 rfl 150 _ _ rfl w (tab (sp f)) rfl rfl 150 (tab λ_=>0) q (by rw[eE];exact size150) (by rw[eE,eE]) (aBE _) ?_))
 refine bodyPost_ret (v:=.agg (tab (sp f))) (results_cell_row rfl _ _ w 150 (tab (sp f)) (0,0) _ rfl (q.row _) underlying150 rfl (by rw[eE];exact size150)) rfl ⟨rfl,c.sr (aGi _) _⟩
theorem Lo (w:y4) (v:y5) (f:List Run) (g:aR w v f) (a:dK f):y8 prog 169 #[v] w (Ou w (sp f)):=by
 rcases g with ⟨rfl,i,j,rfl,n⟩|⟨b,h,c,rfl,k,l,m,d,e⟩
 ·exact a.elim
 exact Xd w b h c f a d e
theorem aD6 {x:Nat->Int} (b:∀ t,t<48->I64 (x t)):∀ a∈aY x,I64 a.At/\I64 a.N:=λa a=>by
 rw[nU] at a;have e:=uM _ _ a;obtain⟨t,d,c⟩:=Bm _ _ a;exact⟨I64.of (by omega) (by omega),by rw[c];exact b t d⟩
@[irreducible] def fX {α:Type} (p:α->Bool) (xs:List α):Int:=match xs.findIdx? p with|some a=>(a:Int)|none=>-1
theorem uF {α:Type} {p:α->Bool} {xs:List α} {k:Nat} {x:α} (b:xs[k]?=M x) (f:p x=true) (d:∀ a c,a<k->xs[a]?=M c->p c=false):fX p xs=k:=by
 unfold fX;have e:=(aGw.1 b).1;have:xs.findIdx? p=M k:=by
  rw[aGS];refine⟨e,?_,λa c=>?_⟩
  ·have:=(aGw.1 b).2;rw[this];exact f
  rw[d a (xs[a]'(by omega)) c (by simp)];simp
 rw[this]
theorem lL {α:Type} {p:α->Bool} {xs:List α} (c:∀ a b,a<xs.length->xs[a]?=M b->p b=false):fX p xs=-1:=by
 unfold fX;have:xs.findIdx? p=none:=by
  rw[aGT];intro x d;obtain⟨a,b,rfl⟩:=aGo.1 d;exact c a _ b (by simp)
 rw[this]
theorem uG {α:Type} (p:α->Bool) (xs:List α):decide (0<=fX p xs)=xs.any p:=by
 unfold fX;cases a:xs.findIdx? p with
 | none=>
  rw[aGT] at a;have:xs.any p=false:=by rw[aGU];intro x b;rw[a x b];simp
  rw[this];rfl
 | some c=>
  rw[aGS] at a;obtain⟨d,b,_⟩:=a;have:xs.any p=true:=aGV.2 ⟨xs[c],aGn _,b⟩;rw[this];simp
theorem oZ {α:Type} {p:α->Bool} {xs:List α} {k:Nat} {x:α} (f:xs[k]?=M x) (g:p x=false) (e:∀ a b,a<k->xs[a]?=M b->p b=false):∀ a b,a<k+1->xs[a]?=M b->p b=false:=λa b h c=>by
 by_cases d:a=k
 ·subst d;rw[f] at c;obtain rfl:=b7 c;exact g
 exact e a b (by omega) c
theorem Qj (w:y4) (b B cap:Nat) (f:List Run) (h:Nat) (lb:Array y5) (p:Run->Bool) (P:f.length<=17592186044416) (hb:b<w.heap.size) (v:∀ k x,f[k]?=M x->Ic w b (B+k*2) x)
  (L:∀ (args:Array y5) (w:y4),(i6 h args).run prog w=.ok (.enter h args) w)
  (A:∀ (k:Nat) (x:Run),f[k]?=M x->∀ a,d7 w a->y8 prog h (#[.agg #[x.At,x.N]]++lb) a λd w'=>d=zv (zx (p x))/\d7 a w') :
  y8 prog 179 #[O (M ⟨b,B,J⟩) f.length cap,zy (.func h) #[] lb] w λd w'=>d=zv (Y Z (fX p f))/\d7 w w':=by
 obtain⟨C,D⟩:=zr v A;clear v A;generalize z:f.length=n at *;have r:=I z;clear z;go_enter func179,ntmps179;go_wp2;go_loopw [8] (λa wr=>∃ k:Nat,k<=n/\a=Y Z k/\Hid (∀ e g,e<k->f[e]?=M g->p g=false)/\d7 w wr) (λa _=>n-(intOf a).toNat);exact⟨0,aGI _,rfl,λe g j=>absurd j (aGf _),b8 _⟩;obtain⟨k,N,rfl,m,a⟩:=hrel;have K:b<wr.heap.size:=aGs hb a.size;by_cases E:k<n
 ·obtain⟨x,l⟩:=uJ (f:=f) (k:=k) (by rw[r.o];exact E);obtain⟨t,u,G,H⟩:=C k x l;replace t:=a.c t;replace u:=a.c u;have y:=D k x l wr a;obtain⟨i,s⟩:=zr y l;clear y l;cases c:p x with
  | true=>
   rw[c] at i;have o:=I c;clear c;go_wp2_with fail;refine i.m ?_;rintro d F ⟨rfl,q⟩;go_wp2;go_ret;exact⟨aL (uF s o m).symm,a.r q⟩
  | false=>
   rw[c] at i;have o:=I c;clear c;go_wp2_with fail;refine i.m ?_;rintro d F ⟨rfl,q⟩;go_wp2;go_roundw;exact⟨k+1,by omega,by go_num,oZ s o m,a.r q⟩;simp[intOf];omega
 obtain rfl:k=n:=by omega
 go_wp2;go_ret;exact⟨aL (lL (λe g j c=>m e g (by rw[r.o] at j;exact j) c)).symm,a⟩
theorem Ie (w:y4) (v:y5) (f:List Run) (a:Nat) (lb:Array y5) (p:Run->Bool) (r:aR w v f)
  (o:∀ (args:Array y5) (w:y4),(i6 a args).run prog w=.ok (.enter a args) w)
  (g:∀ (k:Nat) (x:Run),f[k]?=M x->∀ d,d7 w d->y8 prog a (#[.agg #[x.At,x.N]]++lb) d λc w'=>c=zv (zx (p x))/\d7 d w') :
  y8 prog 132 #[v,zy (.func a) #[] lb] w λc w'=>c=zv (zx (f.any p))/\d7 w w':=by
 rcases r with ⟨rfl,u,y,rfl,B⟩|⟨b,t,i,rfl,z,A,j,l,d⟩
 ·go_enter func132,ntmps132;go_wp2;go_loopw [8] (λe wr=>e=Y Z 0/\wr=w) (λe _=>0);exact⟨rfl,rfl⟩;obtain⟨rfl,rfl⟩:=hrel;go_wp2;go_ret;exact⟨rfl,b8 _⟩
 have e:=Qj w b t i f a lb p j l d o g;obtain⟨h,m⟩:=zr e (uG p f);clear e g d;generalize fX p f=C at *;generalize q:f.length=n at *;clear q;generalize f.any p=D at *;go_enter func132,ntmps132;go_wp2_with fail;refine h.m ?_;rintro c E ⟨rfl,s⟩;go_wp2;go_ret;exact⟨fT m,s⟩
theorem aDy (w:y4) (v:y5) (f:List Run) (g:aR w v f):y8 prog 131 #[v] w λd w'=>d=zv (Y Z (chk f))/\d7 w w':=by
 have m:∀ (c:Option Addr) (a:Nat),y8 prog 131 #[O c 0 a] w λd w'=>d=zv (Y Z 1)/\d7 w w':=by
  intro c a;go_enter func131,ntmps131;go_wp2;go_ret;exact⟨rfl,b8 _⟩
 by_cases e:f.length=0
 ·have j:f=[]:=aGv e;subst j;have i:chk []=1:=Bt (λh=>h.1);rw[i];obtain⟨c,a,rfl,_⟩:=g.i;exact m c a
 rcases g with ⟨rfl,o,p,rfl,q⟩|⟨b,n,a,rfl,h,i,j,k,l⟩
 ·exact absurd rfl e
 exact aBs w b n a f h i j k l (by omega)
theorem aR.some {w:y4} {v:y5} {f:List Run} (c:aR w v f) (e:dK f) :
  ∃ b d a,v=O (M ⟨b,d,J⟩) f.length a/\f.length<=a/\a<=9223372036854775807/\f.length<=17592186044416/\b<w.heap.size/\∀ a x,f[a]?=M x->Ic w b (d+a*2) x:=by
 rcases c with ⟨rfl,a,d,rfl,g⟩|c
 ·exact e.elim
 exact c
theorem Ev (w:y4) (e h:y5) (f g:List Run) (z:aR w e f) (A:aR w h g) (c:dK f) (d:dK g) (a:Nat) (of:Int->Int->Int)
  (y:∀ (args:Array y5) (w:y4),(i6 a args).run prog w=.ok (.enter a args) w)
  (B:∀ x∈f,∀ b∈g,I64 (of x.N b.N)/\∀ w,y8 prog a #[x.N,b.N] w λi w'=>i=zv (Y Z (of x.N b.N))/\w'=w) :
  y8 prog 151 #[e,h,zy (.func a) #[] #[]] w (pZ w (aY (λt=>of (sp f t) (sp g t)))):=by
 obtain⟨l,n,m,rfl,b,i,_,j,k⟩:=z.some c;obtain⟨s,v,u,rfl,o,p,_,q,r⟩:=A.some d;exact aDj w l n m s v u f g a of c d b o i p j q k r y B
theorem aG8 (w:y4) (v:y5) (f:List Run) (k:aR w v f) (a:dK f) (t:Int) (d:0<=t) (e:t<48) :
  y8 prog 96 #[v,t] w λc w'=>c=zv (Y Z (sp f t.toNat))/\d7 w w':=by
 obtain⟨b,l,c,rfl,g,h,_,i,j⟩:=k.some a;exact aC6 w b l c f t a h g i j d e
theorem aFo (w:y4) (v:y5) (f:List Run) (l:aR w v f) (a:dK f) (s t:Int) (d:0<=s) (e:s<t) (g:t<=48) :
  y8 prog 236 #[v,s,t] w λc w'=>c=zv (Y Z (Dk (sp f) s.toNat t.toNat))/\d7 w w':=by
 obtain⟨b,m,c,rfl,h,i,_,j,k⟩:=l.some a;exact aEG w b m c f s t a i h j k d e g
@[irreducible] def xL (f:List Run) (a b:Int):Int × Int:=if kL f then(if 0<=a/\a<b/\b<=48 then(Dk (sp f) a.toNat b.toNat,0) else(0,3)) else(0,1)
@[irreducible] noncomputable def aBC (x:Nat->Int):List Run × Int:=open Classical in if∀ t,t<48->mO (x t) then(aY x,0) else([],2)
theorem aCg {x:Nat->Int} (a:∀ t,t<48->mO (x t)):aBC x=(aY x,0):=by unfold aBC;rw[c7 a]
def tD (z x:Nat->Int) (t:Nat):Nat->Int:=λs=>if s<t then z s else x s
theorem aCP (z x:Nat->Int):tD z x 0=x:=by funext s;simp[tD]
theorem aBL (z x:Nat->Int) (t:Nat):tD z x t t=x t:=by simp[tD]
theorem Ru (z x:Nat->Int) (t:Nat):upd (tD z x t) t (z t)=tD z x (t+1):=by
 funext s;unfold upd tD;by_cases a:s=t
 ·subst a;simp
 rw[d8 a];by_cases b:s<t
 ·rw[c7 b,c7 (by omega)]
 rw[d8 b,d8 (by omega)]
theorem aDY (z x:Nat->Int):∀ t,t<48->tD z x 48 t=z t:=λt a=>by simp[tD,a]
def De (l:List Run) (t n:Int):List Run:=if t<48 then jV l ⟨t,n⟩ else l
theorem mS {w:y4} {base e d n c o:Nat} {v u:y5} {xs:List y5} (h:w.ownsRow base e d v n xs) (p:c<base):(w.setCell ⟨c,o,J⟩ u).ownsRow base e d v n xs:=by
 obtain⟨i,b⟩:=h;refine⟨i,?_⟩;rcases b with b|⟨a,f,g,l,j,k,m⟩
 ·exact .inl b
 exact .inr ⟨a,f,g,l,j,by rw[x7 w ⟨c,o,J⟩ a u (by show a≠c;omega)];exact k,m⟩
def Pn (c:Nat) (w:y4) (l:List Run):Prop:=∃ a,w.heap[c]?=M (zt #[a] 61 (0,0))/\w.ownsRow (c+1) 101 2 a l.length (bH Run.At Run.N l)/\(l=[]->a=O J 0 0)
theorem Pn.e {c:Nat} {w w':y4} {l:List Run} (d:Pn c w l) (b:d7 w w'):Pn c w' l:=by
 obtain⟨g,a,e,f⟩:=d;exact⟨g,by rw[b.block c (aGq.1 a).1];exact a,aJ e b,f⟩
theorem Tf {c:Nat} {W a:y4} {l2:List Run} {v u d:y5} (hb:W.heap[c]?=M (zt #[u] 61 (0,0))) (i:∀ b,v.ownBlock=M b->c+1<=b)
  (h:a.ownsRow (c+1) 101 2 d l2.length (bH Run.At Run.N l2)) (f:W.grownBy a v.ownBlock) (g:l2≠[]):Pn c (a.setCell ⟨c,0,J⟩ d) l2:=by
 have e:a.heap[c]?=M (zt #[u] 61 (0,0)):=by
  rw[f.block c (aGq.1 hb).1 (λb=>by have:=i c b.symm;omega)];exact hb
 refine⟨d,?_,mS h (by omega),λb=>absurd b g⟩;rw[x6 a c 0 _ _ _ e];rfl
theorem eV {w:y4} {base e d n:Nat} {v:y5} {xs:List y5} (c:w.ownsRow base e d v n xs):∃ b a,v=O b n a:=by
 obtain⟨_,b⟩:=c;rcases b with ⟨rfl,rfl⟩|⟨g,a,f,rfl,_⟩
 ·exact⟨J,0,rfl⟩
 exact⟨_,_,rfl⟩
theorem Td {c:Nat} {W a:y4} {v u:y5} (hb:W.heap[c]?=M (zt #[u] 61 (0,0))) (e:∀ b,v.ownBlock=M b->c+1<=b) (d:W.grownBy a v.ownBlock) :
  a.heap[c]?=M (zt #[u] 61 (0,0)):=by
 rw[d.block c (aGq.1 hb).1 (λb=>by have:=e c b.symm;omega)];exact hb
theorem zS {c:Nat} {W:y4} {u:y5} (o:Obj) (hb:W.heap[c]?=M (zt #[u] 61 (0,0))):(W.alloc o).heap[c]?=M (zt #[u] 61 (0,0)):=by
 rw[((b8 W).a o).block c (aGq.1 hb).1];exact hb
theorem Dd (w0 w:y4) (c:Nat) (l:List Run) (t n:Int) (E:w0<=c) (q:d7 w0 w) (hb:Pn c w l) (W:l.length<=48) :
  y8 prog 245 #[t,n,zz (M ⟨c,0,J⟩)] w λa w'=>a=zv (zw #[])/\d7 w0 w'/\Pn c w' (De l t n):=by
 obtain⟨H,K,L,N,P⟩:=s8 info101;have A:=I hb;obtain⟨T,p,f,m⟩:=hb;have U:w ⟨c,0,J⟩=M T:=by rw[y6 _ _ _ _ _ _ p];rfl
 have V:=(aGq.1 p).1;obtain⟨b,k⟩:=zr f p;clear p;by_cases G:t<48
 ·have j:De l t n=jV l ⟨t,n⟩:=by unfold De;rw[c7 G]
  rw[j];clear j;rcases Ml f m with ⟨rfl,rfl⟩|⟨ob,cp,y,rfl,a0,a1,F,a2,X⟩
  ·clear f m;go_enter func245,ntmps245;go_wp2_with (at_builtin;refine r6 _ rfl _ _ 61 rfl (c+1) 101 H _ 2 16 underlying61 K L N P rfl (by decide) _ _ _ rfl (b.alloc _) ⟨w,0,J⟩ 1 1 [Y Z t,Y Z n] rfl rfl (xF _ (by simp) _ _ _) (xE _ _ _ _) (by simp[o0]) (by simp) (by simp;omega) ?_);intro z i e a _;have d:=Td (zS _ k) (bN b) a;have Q:i ⟨c,0,J⟩=_:=y6 _ _ _ _ _ _ d;have R:=x4 i c 0 _ _ d;obtain⟨r,s⟩:=zr (Tf (l2:=[⟨t,n⟩]) (zS _ k) (bN b) (by simpa[bH] using e) a (by simp)) (((q.a _).gr a (λv u=>by have:=bN b v u;omega)).se (o:=0) E z);obtain⟨C,D,rfl⟩:=eV e;clear e a d;go_wp2;go_end0;exact⟨rfl,s,r⟩
  have a3:((l.length:Int) == 0)=false:=eqF (by omega);have a4:(0:Int)<(l.length:Int):=by omega
  have B:=I F;clear F m f;by_cases g:y.N=n
  ·have S:(y.N != n)=false:=neF g;have h:=I (wZ (x:=⟨t,n⟩) B g);rw[h.o];clear g h;go_enter func245,ntmps245;go_wp2;go_end0;exact⟨rfl,q,A⟩
  have S:(y.N != n)=true:=neT g;have h:=I (Ay (x:=⟨t,n⟩) B g);rw[h.o];clear g h;go_enter func245,ntmps245;go_wp2_with (at_builtin;refine r6 _ rfl _ _ 61 rfl (c+1) 101 H _ 2 16 underlying61 K L N P rfl (by decide) _ _ _ rfl (b.alloc _) ⟨w,0,J⟩ 1 1 [Y Z t,Y Z n] rfl rfl (xF _ (by simp) _ _ _) (xE _ _ _ _) (by unfold o0;omega) (by omega) (by simp;omega) ?_);intro z i e a _;have d:=Td (zS _ k) (bN b) a;have Q:i ⟨c,0,J⟩=_:=y6 _ _ _ _ _ _ d;have R:=x4 i c 0 _ _ d;obtain⟨r,s⟩:=zr (Tf (l2:=l++[⟨t,n⟩]) (zS _ k) (bN b) (by rw[lS,aGb];exact e) a (by simp)) (((q.a _).gr a (λv u=>by have:=bN b v u;omega)).se (o:=0) E z);obtain⟨C,D,rfl⟩:=eV e;clear e a d;go_wp2;go_end0;exact⟨rfl,s,r⟩
 have j:De l t n=l:=by unfold De;rw[d8 G]
 rw[j];obtain⟨C,D,rfl⟩:=eV f;clear j f m;go_enter func245,ntmps245;go_wp2;go_end0;exact⟨rfl,q,A⟩
theorem xA (l:List Run) (t n:Int):(De l t n).length<=l.length+1:=by
 unfold De;split
 ·cases a:l.getLast? with
  | none=>rw[List.getLast?_eq_none_iff] at a;subst a;simp[Mg]
  | some c=>
   by_cases b:c.N=n
   ·rw[wZ a b];omega
   rw[Ay a b];simp
 omega
theorem aD1 {a b n:Int} (d:0<=a) (c:a<48):uI a b n=De (De (if 0<a then De [] 0 0 else[]) a n) b 0:=by
 unfold uI De;simp only[c7 c];rfl
theorem aCZ {a b n:Int} (e:0<=a) (f:a<b) (g:b<=48) (d:I64 n):∀ c∈uI a b n,I64 c.At/\I64 c.N:=by
 obtain⟨h,rfl⟩:∃ c:Nat,a=c:=⟨a.toNat,by omega⟩;obtain⟨i,rfl⟩:∃ c:Nat,b=c:=⟨b.toNat,by omega⟩;rw[xR (by omega) (by omega)];exact aD6 (λt c=>by
  unfold cM;split
  ·exact d
  exact I64.of (by omega) (by omega))
theorem aA4 (w:y4) (a b n:Int) (y:0<=a) (G:a<b) (H:b<=48) (N:I64 n) :
  y8 prog 204 #[a,b,n] w (Ky w (uI a b n)):=by
 have A:Pn w (w.alloc (zt #[O J 0 0] 61)) []:=⟨_,y7 w _,aGQ _ _ _ _,λ_=>rfl⟩;obtain⟨v,i,z⟩:=zq A (aD1 (b:=b) (n:=n) y (by omega)) (aCZ y G H N);clear A;by_cases x:0<a
 ·rw[c7 x] at i;go_enter func204,ntmps204;go_wp2_with fail;refine(Dd w _ w [] 0 0 (aGi _) ((b8 w).a _) v (by simp)).m ?_;rintro h R ⟨rfl,P,B⟩;have p:=xA [] 0 0;generalize L:De [] 0 0=s at *;clear L;have C:=I B;clear B;go_wp2_with fail;refine(Dd w _ w s a n (aGi _) P C (by simp at p;omega)).m ?_;rintro h Q ⟨rfl,m,e⟩;have q:=xA s a n;generalize l:De s a n=g at *;clear l;have j:=I e;clear e;go_wp2_with fail;refine(Dd w _ w g b 0 (aGi _) m j (by simp at p;omega)).m ?_;rintro h u ⟨rfl,o,c⟩;have r:=xA g b 0;rw[<- i.o] at c r;have D:=I c;obtain⟨t,f,d,_⟩:=c;have K:u ⟨w,0,J⟩=M t:=by rw[y6 _ _ _ _ _ _ f];rfl
  obtain⟨E,F,rfl⟩:=eV d;have k:=I (bL d z (by simp at p;omega));clear d f;go_wp2;go_ret;exact⟨_,rfl,k,o⟩
 rw[d8 x] at i;go_enter func204,ntmps204;go_wp2_with fail;refine(Dd w _ w [] a n (aGi _) ((b8 w).a _) v (by simp)).m ?_;rintro h Q ⟨rfl,m,e⟩;have q:=xA [] a n;generalize l:De [] a n=g at *;clear l;have j:=I e;clear e;go_wp2_with fail;refine(Dd w _ w g b 0 (aGi _) m j (by simp at q;omega)).m ?_;rintro h u ⟨rfl,o,c⟩;have r:=xA g b 0;rw[<- i.o] at c r;have D:=I c;obtain⟨t,f,d,_⟩:=c;have K:u ⟨w,0,J⟩=M t:=by rw[y6 _ _ _ _ _ _ f];rfl
 obtain⟨E,F,rfl⟩:=eV d;have k:=I (bL d z (by simp at q;omega));clear d f;go_wp2;go_ret;exact⟨_,rfl,k,o⟩
@[irreducible] noncomputable def yC (f:List Run) (a b n:Int):List Run × Int:=
 if kL f then(if(0<=a/\a<b/\b<=48)/\mO n then aBC (λt=>sp f t+cM a.toNat b.toNat n t) else([],3)) else([],1)
theorem sZ (x:Nat->Int) (k:Nat) (b:k<48) (w:y4):(Instr.index 150 (.agg (tab x)) (Y Z k)).run prog w=.ok (Y Z (x k)) w:=by
 have c:(0<=(k:Int)/\(k:Int)<(48:Nat)):=by omega
 have a:=Kl (x:=x) b;simp[Instr.index,run_underlying underlying150,asIntOf,c,go_sem,a];omega
theorem Dx {a b t:Nat} {n:Int} (c:a<=t) (d:t<b):cM a b n t=n:=by unfold cM;rw[c7 ⟨c,d⟩]
theorem qZ {a b t:Nat} {n:Int} (c:¬ (a<=t/\t<b)):cM a b n t=0:=by unfold cM;rw[d8 c]
theorem aAA (x:Nat->Int) (a b:Nat) (n:Int):tD (λt=>x t+cM a b n t) x a=x:=by
 funext s;unfold tD;by_cases c:s<a
 ·rw[c7 c];show x s+cM a b n s=x s;rw[qZ (by omega)];omega
 rw[d8 c]
theorem aDZ (x:Nat->Int) (a b:Nat) (n:Int):tD (λt=>x t+cM a b n t) x b=λt=>x t+cM a b n t:=by
 funext s;unfold tD;by_cases c:s<b
 ·rw[c7 c]
 rw[d8 c,qZ (by omega)];omega
@[irreducible] def wT (f:List Run) (from_ until_ size n:Int):Int × Bool:=match lM (sp f) from_.toNat until_.toNat size.toNat n with|some t=>((t:Int),true)|none=>(0,false)
theorem Lv {f:List Run} {F a b t:Nat} {n:Int} (c:lM (sp f) F a b n=M t):wT f (F:Int) (a:Int) (b:Int) n=((t:Int),true):=by unfold wT;simp only[aGK,c]
theorem aAl {f:List Run} {F a b:Nat} {n:Int} (c:lM (sp f) F a b n=J):wT f (F:Int) (a:Int) (b:Int) n=(0,false):=by unfold wT;simp only[aGK,c]
def Jz (w:y4) (r:Int × Bool) (e:r8) (w':y4):Prop:=e=zv (zw #[r.1,zx r.2])/\d7 w w'
theorem wW {w w':y4} {r:Int × Bool} {n:Int} {b:Bool} (a:r=(n,b)) (c:d7 w w'):Jz w r (zv (zw #[n,zx b])) w':=by
 subst a;exact⟨rfl,c⟩
theorem Ua {f:List Run} {F a b:Nat} {n:Int} {k A:Nat} (j:a<=48) (i:F<=48) (c:lU f F a b n k A):A<=48:=by
 obtain⟨d,h,e,g,_⟩:=c;omega
theorem aDn (w:y4) (b a1 cap:Nat) (f:List Run) (F c g:Nat) (n:Int) (t:dK f) (hF:F<=48) (X:c<=48) (D:0<g) (a7:g<=48) (a9:f.length<=cap) (hm:cap<=9223372036854775807) (hb:b<w.heap.size) (p:∀ k x,f[k]?=M x->Ic w b (a1+k*2) x) :
  y8 prog 254 #[O (M ⟨b,a1,J⟩) f.length cap,F,c,g,n] w (Jz w (wT f F c g n)):=by
 have G:=I p;have hl:=kN t;obtain⟨S0,T,S,R,Q,SN,SB,SI⟩:=zi (Ty (n:=n) (from_:=F) (until_:=c) t D) (λ(k a:Nat) (o:k<f.length) (m:lU f F c g n k a)=>Xh t D o m) (λ(k a:Nat) (o:k<f.length) (m:lU f F c g n k a)=>aAm t D o m) (λ(k a:Nat) (o:k<f.length) (m:lU f F c g n k a)=>Xj t o m) (λ(k a:Nat) (o:k<f.length) (m:lU f F c g n k a)=>Tz t D o m) (λ(a:Nat) (m:lU f F c g n f.length a)=>aAl (Xi X m)) (λ(k a:Nat) (m:lU f F c g n k a)=>Ua X hF m) (λ(k:Nat) (o:k<f.length)=>cI t o);clear p t;generalize hn:f.length=j at *;have y:=I hn;clear hn;go_enter func254,ntmps254;go_wp2;go_loopw [12,19] (λe d wr=>∃ k a:Nat,k<=j/\e=Y Z (a:Int)/\d=Y Z k/\Hid (lU f F c g n k a)/\d7 w wr) (λ_ d _=>j-(intOf d).toNat);exact⟨0,F,aGI _,rfl,rfl,S0,b8 _⟩;obtain⟨k,a,o,rfl,rfl,u,i⟩:=hrel;have a8:b<wr.heap.size:=aGs hb i.size;have hA:=SB k a u;by_cases v:k<j
 ·have a5:=z7 k j;obtain⟨x,N⟩:=uJ (f:=f) (k:=k) (by rw[y.o];exact v);obtain⟨U,V,c3,c4⟩:=G k x N;replace U:=i.c U;replace V:=i.c V;have W:=cU N;have a4:=I W;obtain⟨q1,q2,q3,q4⟩:=SI k v;clear N W q4;have a3:bW f k<=48/\0<=bW f k:=⟨by omega,by omega⟩;obtain⟨d,p⟩:∃ d:Int,jU f c k=d:=⟨_,rfl⟩;have a2:=I p;have L:0<=d/\d<=48:=by rw[<- p];unfold jU;omega
  obtain⟨H,C,B,A⟩:=zp (T k a v u) (S k a v u) (R k a v u) (Q k a v u);rw[p] at H C B A;rw[a4.o] at C B A;clear u T S R Q;have a6:(k+1<j/\∃ e,f[k+1]?=M e/\e.At<(c:Int)/\d=e.At)\/(k+1<j/\∃ e,f[k+1]?=M e/\¬ e.At<(c:Int)/\d=c)\/(¬ k+1<j/\d=c):=by
   by_cases q:k+1<j
   ·obtain⟨e,r⟩:=uJ (f:=f) (k:=k+1) (by rw[y.o];exact q);rw[<- p];unfold jU;rw[iN (by rw[y.o];exact q),aX r];by_cases E:e.At<(c:Int)
    ·exact .inl ⟨q,e,r,E,by omega⟩
    exact .inr (.inl ⟨q,e,r,E,by omega⟩)
   rw[<- p];unfold jU;rw[iU (by rw[y.o];exact q)];exact .inr (.inr ⟨q,by omega⟩)
  clear p a3 a2 q1 q2 q3;have leaf:∀ h:Prop,(d<=(a:Int)->h)->(¬ d<=(a:Int)->x.N<n->h)->(¬ d<=(a:Int)->¬ x.N<n->(g:Int)<=d-a->h)->(¬ d<=(a:Int)->¬ x.N<n->¬ (g:Int)<=d-a->h)->h:=λh h1 h2 h3 h4=>by
   by_cases h:d<=(a:Int)
   ·exact h1 h
   by_cases l:x.N<n
   ·exact h2 h l
   by_cases s:(g:Int)<=d-a
   ·exact h3 h l s
   exact h4 h l s
  have P:=I leaf;clear leaf;have e1:=L.1;have e2:=L.2;clear L;rcases a6 with ⟨q,e,r,E,rfl⟩|⟨q,e,r,E,rfl⟩|⟨q,rfl⟩
  ·have a0:(k:Int)+1<(j:Int):=by omega
   obtain⟨z,K,d3,d4⟩:=G (k+1) e r;replace z:=i.c z;clear K r;refine P _ (λh=>?_) (λh l=>?_) (λh l s=>?_) (λh l s=>?_)
   ·go_wp2;go_roundw;exact⟨k+1,a,by omega,rfl,by go_num,I (H h),i.a _⟩;simp[intOf];omega
   ·go_wp2;go_roundw;exact⟨k+1,e.At.toNat,by omega,by rw[Int.toNat_of_nonneg e1],by go_num,I (C (by omega) l),i.a _⟩;simp[intOf];omega
   ·go_wp2;go_ret2;exact wW (Lv (A (by omega) (by omega) s)) (i.a _)
   go_wp2;go_roundw;exact⟨k+1,a,by omega,rfl,by go_num,I (B (by omega) (by omega) (by omega)),i.a _⟩;simp[intOf];omega
  have a0:(k:Int)+1<(j:Int):=by omega
  obtain⟨z,K,d3,d4⟩:=G (k+1) e r;replace z:=i.c z;clear K r;rotate_left;have a0:¬ (k:Int)+1<(j:Int):=by omega
  all_goals
   refine P _ (λh=>?_) (λh l=>?_) (λh l s=>?_) (λh l s=>?_)
   ·go_wp2;go_roundw;exact⟨k+1,a,by omega,rfl,by go_num,I (H h),i.a _⟩;simp[intOf];omega
   ·go_wp2;go_roundw;exact⟨k+1,c,by omega,rfl,by go_num,I (by have:=C (by omega) l;simpa using this),i.a _⟩;simp[intOf];omega
   ·go_wp2;go_ret2;exact wW (Lv (A (by omega) (by omega) s)) (i.a _)
   go_wp2;go_roundw;exact⟨k+1,a,by omega,rfl,by go_num,I (B (by omega) (by omega) (by omega)),i.a _⟩;simp[intOf];omega
 obtain rfl:k=j:=by omega
 have a5:=z8 k k;have d:=I (SN a (by have:=u.o;rw[<- y.o] at this ⊢;exact this));go_wp2;go_ret2;exact wW d i
theorem aEA (w:y4) (v:y5) (f:List Run) (a u z n:Int) (p:aR w v f) (c:dK f) (m:0<=a/\a<=48) (o:0<=u/\u<=48) (r:1<=z/\z<=48) :
  y8 prog 254 #[v,a,u,z,n] w (Jz w (wT f a u z n)):=by
 obtain⟨b,q,h,rfl,i,j,_,k,l⟩:=p.some c;obtain⟨d,rfl⟩:=aGJ m.1;obtain⟨e,rfl⟩:=aGJ o.1;obtain⟨g,rfl⟩:=aGJ (by omega:0<=z);exact aDn w b q h f d e g n c (by omega) (by omega) (by omega) (by omega) i j k l
theorem aV {α:Type} {f:List α} {k:Nat} (a:k<f.length):∃ x,f[k]?=M x:=⟨_,aGm a⟩
theorem Kj (w:y4) (b B cap:Nat) (f:List Piece) (h:Nat) (lb:Array y5) (p:Piece->Bool) (P:f.length<=17592186044416) (hb:b<w.heap.size) (v:∀ k x,f[k]?=M x->aBq w b (B+k*2) x)
  (L:∀ (args:Array y5) (w:y4),(i6 h args).run prog w=.ok (.enter h args) w)
  (A:∀ (k:Nat) (x:Piece),f[k]?=M x->∀ a,d7 w a->y8 prog h (#[.agg #[x.Len,x.N]]++lb) a λd w'=>d=zv (zx (p x))/\d7 a w') :
  y8 prog 266 #[O (M ⟨b,B,J⟩) f.length cap,zy (.func h) #[] lb] w λd w'=>d=zv (Y Z (fX p f))/\d7 w w':=by
 obtain⟨C,D⟩:=zr v A;clear v A;generalize z:f.length=n at *;have r:=I z;clear z;go_enter func266,ntmps266;go_wp2;go_loopw [8] (λa wr=>∃ k:Nat,k<=n/\a=Y Z k/\Hid (∀ e g,e<k->f[e]?=M g->p g=false)/\d7 w wr) (λa _=>n-(intOf a).toNat);exact⟨0,aGI _,rfl,λe g j=>absurd j (aGf _),b8 _⟩;obtain⟨k,N,rfl,m,a⟩:=hrel;have K:b<wr.heap.size:=aGs hb a.size;by_cases E:k<n
 ·obtain⟨x,l⟩:=aV (f:=f) (k:=k) (by rw[r.o];exact E);obtain⟨t,u,G,H⟩:=C k x l;replace t:=a.c t;replace u:=a.c u;have y:=D k x l wr a;obtain⟨i,s⟩:=zr y l;clear y l;cases c:p x with
  | true=>
   rw[c] at i;have o:=I c;clear c;go_wp2_with fail;refine i.m ?_;rintro d F ⟨rfl,q⟩;go_wp2;go_ret;exact⟨aL (uF s o m).symm,a.r q⟩
  | false=>
   rw[c] at i;have o:=I c;clear c;go_wp2_with fail;refine i.m ?_;rintro d F ⟨rfl,q⟩;go_wp2;go_roundw;exact⟨k+1,by omega,by go_num,oZ s o m,a.r q⟩;simp[intOf];omega
 obtain rfl:k=n:=by omega
 go_wp2;go_ret;exact⟨aL (lL (λe g j c=>m e g (by rw[r.o] at j;exact j) c)).symm,a⟩
theorem Cd (w:y4) (v:y5) (f:List Piece) (a:Nat) (lb:Array y5) (p:Piece->Bool) (r:aM w v f)
  (o:∀ (args:Array y5) (w:y4),(i6 a args).run prog w=.ok (.enter a args) w)
  (g:∀ (k:Nat) (x:Piece),f[k]?=M x->∀ d,d7 w d->y8 prog a (#[.agg #[x.Len,x.N]]++lb) d λc w'=>c=zv (zx (p x))/\d7 d w') :
  y8 prog 247 #[v,zy (.func a) #[] lb] w λc w'=>c=zv (zx (f.any p))/\d7 w w':=by
 rcases r with ⟨rfl,u,y,rfl,B⟩|⟨b,t,i,rfl,z,A,j,l,d⟩
 ·go_enter func247,ntmps247;go_wp2;go_loopw [8] (λe wr=>e=Y Z 0/\wr=w) (λe _=>0);exact⟨rfl,rfl⟩;obtain⟨rfl,rfl⟩:=hrel;go_wp2;go_ret;exact⟨rfl,b8 _⟩
 have e:=Kj w b t i f a lb p j l d o g;obtain⟨h,m⟩:=zr e (uG p f);clear e g d;generalize fX p f=C at *;generalize q:f.length=n at *;clear q;generalize f.any p=D at *;go_enter func247,ntmps247;go_wp2_with fail;refine h.m ?_;rintro c E ⟨rfl,s⟩;go_wp2;go_ret;exact⟨fT m,s⟩
def iG (p:Piece):Prop:=(1<=p.Len/\p.Len<=24)/\(1<=p.N/\p.N<=50)
instance (p:Piece):Decidable (iG p):=inferInstanceAs (Decidable (_/\_))
def kU (k:Int):Prop:=1<=k/\k<=4
instance (k:Int):Decidable (kU k):=inferInstanceAs (Decidable (_/\_))
def kD (r:aF):Prop:=1<=r.A.length/\r.A.length<=3
instance (r:aF):Decidable (kD r):=inferInstanceAs (Decidable (_/\_))
def Vr (a b:Int):Prop:=0<=a/\a<b/\b<=48
instance (a b:Int):Decidable (Vr a b):=inferInstanceAs (Decidable (_/\_/\_))
def kA (r:aF):Prop:=Vr r.D r.C/\∀ a∈r.A,iG a
instance (r:aF):Decidable (kA r):=inferInstanceAs (Decidable (_/\_))
structure bO (r:aF):Prop where
 kind:kU r.E
 many:kD r
 range:kA r
theorem aCx {r:aF}:bO r↔kU r.E/\kD r/\kA r:=⟨λa=>⟨a.kind,a.many,a.range⟩,λa=>⟨a.1,a.2.1,a.2.2⟩⟩
instance (r:aF):Decidable (bO r):=decidable_of_iff _ aCx.symm
@[irreducible] def pT (r:aF):Int × Bool:=if¬ kU r.E then(7,true) else if¬ kD r then(2,true) else if¬ kA r then(3,false) else(0,false)
theorem aAV {r:aF} (a:¬ kU r.E):pT r=(7,true):=by unfold pT;rw[c7 a]
theorem aAU {r:aF} (a:kU r.E) (c:¬ kD r):pT r=(2,true):=by unfold pT;rw[d8 (λb=>b a),c7 c]
theorem Zd {r:aF} (b:kU r.E) (c:kD r) (d:¬ kA r):pT r=(3,false):=by unfold pT;rw[d8 (λa=>a b),d8 (λa=>a c),c7 d]
theorem Eb {r:aF} (b:bO r):pT r=(0,false):=by unfold pT;rw[d8 (λa=>a b.kind),d8 (λa=>a b.many),d8 (λa=>a b.range)]
theorem xT (r:aF):(¬ kU r.E/\pT r=(7,true))\/(kU r.E/\¬ kD r/\pT r=(2,true))\/(kU r.E/\kD r/\¬ kA r/\pT r=(3,false))\/(bO r/\pT r=(0,false)):=by
 by_cases a:kU r.E
 ·by_cases b:kD r
  ·by_cases c:kA r
   ·exact .inr (.inr (.inr ⟨⟨a,b,c⟩,Eb ⟨a,b,c⟩⟩))
   exact .inr (.inr (.inl ⟨a,b,c,Zd a b c⟩))
  exact .inr (.inl ⟨a,b,aAU a b⟩)
 exact .inl ⟨a,aAV a⟩
theorem Sn {r:aF} (c:¬ bO r):∃ a b,pT r=(a,b)/\a≠0:=by
 rcases xT r with ⟨_,a⟩|⟨_,_,a⟩|⟨_,_,_,a⟩|⟨a,_⟩
 ·exact⟨_,_,a,by decide⟩
 ·exact⟨_,_,a,by decide⟩
 ·exact⟨_,_,a,by decide⟩
 exact absurd a c
theorem form1 (x:Piece) (w:y4):y8 prog 248 #[.agg #[x.Len,x.N]] w λd w'=>d=zv (zx (decide (¬ iG x)))/\d7 w w':=by
 have b:=I (λ(c:y4) (e:Obj)=>(b8 c).a e);by_cases f:x.Len<1
 ·rw[deT (p:=¬ iG x) (λa=>by have:=a.1.1;omega)];go_enter func248,ntmps248;go_wp2;go_ret;exact⟨rfl,b _ _⟩
 by_cases g:24<x.Len
 ·rw[deT (p:=¬ iG x) (λa=>by have:=a.1.2;omega)];go_enter func248,ntmps248;go_wp2;go_ret;exact⟨rfl,b _ _⟩
 by_cases h:x.N<1
 ·rw[deT (p:=¬ iG x) (λa=>by have:=a.2.1;omega)];go_enter func248,ntmps248;go_wp2;go_ret;exact⟨rfl,b _ _⟩
 by_cases i:50<x.N
 ·rw[deT (p:=¬ iG x) (λa=>by have:=a.2.2;omega)];go_enter func248,ntmps248;go_wp2;go_ret;exact⟨rfl,b _ _⟩
 rw[deF (p:=¬ iG x) (λa=>a ⟨⟨by omega,by omega⟩,by omega,by omega⟩)];go_enter func248,ntmps248;go_wp2;go_ret;exact⟨rfl,b _ _⟩
def aC2 (w:y4) (r:Int × Bool) (e:r8) (w':y4):Prop:=e=zv (zw #[r.1,zx r.2])/\d7 w w'
theorem mX {w w':y4} {r:Int × Bool} {n:Int} {b:Bool} (a:r=(n,b)) (c:d7 w w'):aC2 w r (zv (zw #[n,zx b])) w':=by
 subst a;exact⟨rfl,c⟩
theorem uU (w:y4) (q:y5) (r:aF) (o:aM w q r.A) :
  y8 prog 211 #[.agg #[r.B,r.D,r.C,r.E,q]] w (aC2 w (pT r)):=by
 obtain⟨e,P⟩:=zr (λ(E:Obj)=>(b8 w).a E) (λ(f:y4) (g:d7 w f)=>Cd f q r.A 248 #[] (λx=>decide (¬ iG x)) (o.m g) (enters_of func248 (by kernel_rfl) rfl) (λa x _ y _=>form1 x y));obtain⟨K,L,rfl,G,_,H⟩:=o.i;have s:=I (show r.A.any (λx=>decide (¬ iG x))=false↔∀ j∈r.A,iG j from by
  rw[aGU];exact⟨λg j a=>by simpa using g j a,λg j a=>by simpa using g j a⟩)
 clear o;generalize r.A.any (λx=>decide (¬ iG x))=l at *;rcases xT r with ⟨a,b⟩|⟨a,h,b⟩|⟨a,h,i,b⟩|⟨a,b⟩
 ·have d:=I b;by_cases c:r.E<1
  ·clear a b;generalize r.A.length=n at *;go_enter func211,ntmps211;go_wp2;go_ret2;exact mX d (e _)
  have k:4<r.E:=by
   apply Classical.byContradiction;intro k;exact a ⟨by omega,by omega⟩
  clear a b;generalize r.A.length=n at *;go_enter func211,ntmps211;go_wp2;go_ret2;exact mX d (e _)
 ·have d:=I b;have t:¬ r.E<1:=by have:=a.1;omega
  have u:¬ 4<r.E:=by have:=a.2;omega
  have i:¬ (1<=r.A.length/\r.A.length<=3):=λg=>h g;clear b a h;by_cases c:r.A.length<1
  ·have k:(r.A.length:Int)<1:=by omega
   clear i;generalize r.A.length=n at *;go_enter func211,ntmps211;go_wp2;go_ret2;exact mX d (e _)
  have k:¬ (r.A.length:Int)<1:=by omega
  have m:(3:Int)<(r.A.length:Int):=by omega
  clear i;generalize r.A.length=n at *;go_enter func211,ntmps211;go_wp2;go_ret2;exact mX d (e _)
 ·have d:=I b;have t:¬ r.E<1:=by have:=a.1;omega
  have u:¬ 4<r.E:=by have:=a.2;omega
  have D:=h;obtain⟨B,C⟩:=D;have z:¬ (r.A.length:Int)<1:=by omega
  have A:¬ (3:Int)<(r.A.length:Int):=by omega
  by_cases c:Vr r.D r.C
  ·have S:=I (λ(f:y4)=>Ot r.D r.C f c.1 c.2.1 c.2.2);have m:l=true:=by
    cases k:l with
    | true=>rfl
    | false=>exact absurd ⟨c,s.1 k⟩ i
   subst m;clear b a h i c;generalize r.A.length=n at *;go_enter func211,ntmps211;go_wp2_with fail;refine(S _).m ?_;rintro k v ⟨rfl,rfl⟩;go_wp2_with fail;refine(P _ (e _)).m ?_;rintro k F ⟨rfl,p⟩;go_wp2;go_ret2;exact mX d ((e _).r p)
  have S:=I (λ(f:y4)=>aC0 r.D r.C f c);clear b a h i c;generalize r.A.length=n at *;go_enter func211,ntmps211;go_wp2_with fail;refine(S _).m ?_;rintro k v ⟨rfl,rfl⟩;go_wp2;go_ret2;exact mX d (e _)
 have d:=I b;have t:¬ r.E<1:=by have:=a.kind.1;omega
 have u:¬ 4<r.E:=by have:=a.kind.2;omega
 obtain⟨B,C⟩:=a.many;have z:¬ (r.A.length:Int)<1:=by omega
 have A:¬ (3:Int)<(r.A.length:Int):=by omega
 have c:=a.range.1;have S:=I (λ(f:y4)=>Ot r.D r.C f c.1 c.2.1 c.2.2);have m:l=false:=s.2 a.range.2;subst m;clear b a c;generalize r.A.length=n at *;go_enter func211,ntmps211;go_wp2_with fail;refine(S _).m ?_;rintro k v ⟨rfl,rfl⟩;go_wp2_with fail;refine(P _ (e _)).m ?_;rintro k F ⟨rfl,p⟩;go_wp2;go_ret2;exact mX d ((e _).r p)
theorem Ng (k:Int) (w:y4):y8 prog 172 #[k] w λc w'=>c=zv (zx (decide (kU k)))/\w'=w:=by
 by_cases a:kU k
 ·rw[deT a];have b:=I (bI k 1 4 w a.1 a.2);clear a;go_enter func172,ntmps172;go_wp2_with fail;refine b.m ?_;rintro c d ⟨rfl,rfl⟩;go_wp2;go_ret;exact⟨rfl,rfl⟩
 rw[deF a];have b:=I (dH k 1 4 w a);clear a;go_enter func172,ntmps172;go_wp2_with fail;refine b.m ?_;rintro c d ⟨rfl,rfl⟩;go_wp2;go_ret;exact⟨rfl,rfl⟩
@[irreducible] def Yh (r:aF):Int:=if kD r then 0 else 2
theorem Gj {r:aF} (a:kD r):Yh r=0:=by unfold Yh;rw[c7 a]
theorem Ms {r:aF} (a:¬ kD r):Yh r=2:=by unfold Yh;rw[d8 a]
@[irreducible] def Ax (r:aF):Int:=if kA r then 0 else 3
theorem vL {r:aF} (a:kA r):Ax r=0:=by unfold Ax;rw[c7 a]
theorem yV {r:aF} (a:¬ kA r):Ax r=3:=by unfold Ax;rw[d8 a]
theorem wJ (w:y4) (i:y5) (r:aF) (h:aM w i r.A) :
  y8 prog 173 #[.agg #[r.B,r.D,r.C,r.E,i]] w λe w'=>e=zv (Y Z (Yh r))/\d7 w w':=by
 have g:=I (λ(j:Obj)=>(b8 w).a j);obtain⟨o,p,rfl,l,_,m⟩:=h.i;clear h;by_cases a:kD r
 ·obtain⟨b,d⟩:=zr (Gj a) (λ(c:y4)=>bI (r.A.length:Int) 1 3 c (by have:=a.1;omega) (by have:=a.2;omega));clear a;generalize r.A.length=n at *;go_enter func173,ntmps173;go_wp2_with fail;refine(d _).m ?_;rintro e k ⟨rfl,rfl⟩;go_wp2;go_ret;exact⟨aL b.symm,g _⟩
 obtain⟨b,d⟩:=zr (Ms a) (λ(c:y4)=>dH (r.A.length:Int) 1 3 c (λf=>a ⟨by have:=f.1;omega,by have:=f.2;omega⟩));clear a;generalize r.A.length=n at *;go_enter func173,ntmps173;go_wp2_with fail;refine(d _).m ?_;rintro e k ⟨rfl,rfl⟩;go_wp2;go_ret;exact⟨aL b.symm,g _⟩
theorem eS {w W:y4} {a b c d e:y5} {t:o8} (j:d7 (w.alloc (zt #[a,b,c,d,e] t)) W) :
  W ⟨w,0,J⟩=M a/\W ⟨w,1,J⟩=M b/\W ⟨w,2,J⟩=M c/\W ⟨w,3,J⟩=M d/\W ⟨w,4,J⟩=M e:=by
 have i:=y7 w (zt #[a,b,c,d,e] t);have f:∀ g h,(#[a,b,c,d,e]:Array y5)[g]?=M h->W ⟨w,g,J⟩=M h:=λg h g=>j.c (by rw[y6 _ _ _ _ _ _ i];exact g);exact⟨f 0 _ rfl,f 1 _ rfl,f 2 _ rfl,f 3 _ rfl,f 4 _ rfl⟩
def bP (b:List bK) (k:Nat):Int:=(b.getD k default).Piece
def bA (b:List bK) (k:Nat):Int:=(b.getD k default).At
def pL (r:aF) (j:Nat):Int:=(r.A.getD j default).Len
def pN (r:aF) (j:Nat):Int:=(r.A.getD j default).N
theorem iS {b:List bK} {k:Nat} {x:bK} (c:b[k]?=M x):bP b k=x.Piece/\bA b k=x.At:=by
 have a:b.getD k default=x:=by simp[aGW,c]
 exact⟨by unfold bP;rw[a],by unfold bA;rw[a]⟩
theorem eG {r:aF} {k:Nat} {x:Piece} (b:r.A[k]?=M x):pL r k=x.Len/\pN r k=x.N:=by
 have a:r.A.getD k default=x:=by simp[aGW,b]
 exact⟨by unfold pL;rw[a],by unfold pN;rw[a]⟩
def mL (b:List bK) (k:Nat):Int:=if k=0 then -1 else bP b (k-1)
def sB (r:aF) (b:List bK) (k:Nat):Int:=if k=0 then -1 else bA b (k-1)+pL r (bP b (k-1)).toNat
structure oB (r:aF) (b:List bK) (k:Nat):Prop where
 up:mL b k<bP b k
 is:bP b k<r.A.length
 from_:r.D<=bA b k
 until_:bA b k<=r.C
 fits:pL r (bP b k).toNat<=r.C-bA b k
 order:0<k->r.E=3->sB r b k<=bA b k
 tight:0<k->r.E=4->bA b k=sB r b k
def kE (r:aF) (b:List bK):Prop:=if r.E=2 then b.length=1 else b.length=r.A.length
instance (r:aF) (b:List bK):Decidable (kE r b):=by unfold kE;infer_instance
@[irreducible] noncomputable def dI (r:aF) (b:List bK):Bool:=open Classical in decide (bO r/\(∀ a,a<b.length->oB r b a)/\kE r b)
theorem gL {r:aF} {b:List bK}:dI r b=true↔bO r/\(∀ a,a<b.length->oB r b a)/\kE r b:=by unfold dI;simp
theorem Gh {r:aF} {b:List bK} (c:¬ (bO r/\(∀ a,a<b.length->oB r b a)/\kE r b)):dI r b=false:=by
 rw[Bool.eq_false_iff];exact λa=>c (gL.1 a)
theorem Iu {r:aF} {b:List bK} (a:¬ bO r):dI r b=false:=Gh (λc=>a c.1)
theorem Ye {r:aF} {b:List bK} {k:Nat} (d:k<b.length) (a:¬ oB r b k):dI r b=false:=Gh (λc=>a (c.2.1 k d))
structure Ak (r:aF) (b:List bK) (k:Nat):Prop where
 low:0<=bP b k
 is:bP b k<=(r.A.length:Int)-1
 up:0<k->bP b (k-1)<bP b k
 from_:r.D<=bA b k
 until_:bA b k<=r.C
 fits:bA b k<=r.C-pL r (bP b k).toNat
structure sA (r:aF) (b:List bK) (k:Nat):Prop where
 order:r.E=3->bA b (k-1)+pL r (k-1)<=bA b k
 tight:r.E=4->bA b k=bA b (k-1)+pL r (k-1)
theorem aEb {f:Nat->Int} {n:Nat} (g:∀ a,a<n->0<=f a) (e:∀ a,0<a->a<n->f (a-1)<f a) (i:∀ a,a<n->f a<=(n:Int)-1):∀ a,a<n->f a=a:=by
 have lo:∀ a,a<n->(a:Int)<=f a:=by
  intro a
  induction a with
  | zero=>intro b;exact g 0 b
  | succ a d=>intro b;have:=d (by omega);have:=e (a+1) (by omega) b;simp only[aGg] at this;omega
 have h:∀ c a,a+c+1=n->f a<=a:=by
  intro c
  induction c with
  | zero=>intro a b;have:=i a (by omega);omega
  | succ c d=>intro a b;have:=d (a+1) (by omega);have:=e (a+1) (by omega) (by omega);simp only[aGg] at this;omega
 intro a b;have:=lo a b;have:=h (n-a-1) a (by omega);omega
theorem Cm {r:aF} {b:List bK} {n:Nat} (d:∀ a,a<n->oB r b a):∀ a,a<n->0<=bP b a:=by
 intro a
 induction a with
 | zero=>intro c;have:=(d 0 c).up;unfold mL at this;rw[c7 rfl] at this;omega
 | succ a e=>intro c;have f:=e (by omega);have:=(d (a+1) c).up;unfold mL at this;rw[d8 (by omega)] at this;simp only[aGg] at this;omega
theorem mZ {r:aF} {b:List bK} (l:bO r):dI r b=true↔(∀ a,a<b.length->Ak r b a)/\(if r.E=2 then b.length=1 else b.length=r.A.length/\∀ a,0<a->a<b.length->sA r b a):=by
 rw[gL];constructor
 ·rintro⟨_,hs,hc⟩;have j:=Cm hs;have k:∀ a,0<a->a<b.length->bP b (a-1)<bP b a:=λa d e=>by
   have:=(hs a e).up;unfold mL at this;rw[d8 (by omega)] at this;exact this
  refine⟨λa c=>⟨j a c,by have:=(hs a c).is;omega,λf=>k a f c,(hs a c).from_,(hs a c).until_,by have:=(hs a c).fits;omega⟩,?_⟩;unfold kE at hc;split
  ·rename_i e;rw[c7 e] at hc;exact hc
  rename_i e
  rw[d8 e] at hc;have I:=aEb j k (λa c=>by have:=(hs a c).is;omega);refine⟨hc,λa d c=>?_⟩;have g:sB r b a=bA b (a-1)+pL r (a-1):=by
   unfold sB;rw[d8 (by omega),I (a-1) (by omega),aGK]
  exact⟨λh=>by have:=(hs a c).order d h;omega,λi=>by have:=(hs a c).tight d i;omega⟩
 rintro⟨hs,hc⟩;refine⟨l,λa c=>?_,?_⟩
 ·have f:=hs a c;have link:0<a->r.E≠2->sB r b a=bA b (a-1)+pL r (a-1)/\sA r b a:=λd e=>by
   rw[d8 e] at hc;have I:=aEb (λa c=>(hs a c).low) (λa d c=>(hs a c).up d) (λa c=>by have:=(hs a c).is;omega);exact⟨by unfold sB;rw[d8 (by omega),I (a-1) (by omega),aGK],hc.2 a d c⟩
  refine⟨?_,by have:=f.is;omega,f.from_,f.until_,by have:=f.fits;omega,λd h=>?_,λd i=>?_⟩
  ·unfold mL;split
   ·have:=f.low;omega
   exact f.up (by omega)
  ·obtain⟨g,j⟩:=link d (by omega);rw[g];exact j.order h
  obtain⟨g,j⟩:=link d (by omega);rw[g];exact j.tight i
 unfold kE;split
 ·rename_i e;rw[c7 e] at hc;exact hc
 rename_i e;rw[d8 e] at hc;exact hc.1
theorem aAC {r:aF} {b:List bK} (e:bO r) (c:∀ a,a<b.length->oB r b a):dI r b=decide (kE r b):=by
 by_cases a:kE r b
 ·rw[decide_eq_true a];exact gL.2 ⟨e,c,a⟩
 rw[decide_eq_false a];exact Gh (λd=>a d.2.2)
def bV (s:ByteArray) (i:Nat):Nat:=(s.get! i).toNat
def tM (n:Nat):Prop:=97<=n/\n<=122
instance (n:Nat):Decidable (tM n):=inferInstanceAs (Decidable (_/\_))
def oF (s:ByteArray):Prop:=∀ a,a<s.size->tM (bV s a)
instance (s:ByteArray):Decidable (oF s):=inferInstanceAs (Decidable (∀ a,a<s.size->_))
def kC (s:ByteArray):Prop:=(1<=s.size/\s.size<=8)/\oF s
instance (s:ByteArray):Decidable (kC s):=inferInstanceAs (Decidable (_/\_))
theorem fM (s:ByteArray) (i:Nat) (a:i<s.size):bV s i=(s[i]'a).toNat:=by
 unfold bV;rw[show s.get! i=s[i]'a from by have:=get_at s i a;simpa using this]
theorem aCO (x:Nat) (w:y4) (a:tM x):y8 prog 130 #[.int .i32 x] w λb w'=>b=zv (zx false)/\w'=w:=by
 have c:=a.1;have d:=a.2;have e:¬ (x:Int)<97:=by omega
 have f:¬ (122:Int)<(x:Int):=by omega
 go_enter func130,ntmps130;go_wp2;go_ret;exact⟨rfl,rfl⟩
theorem aDX (x:Nat) (w:y4) (a:¬ tM x):y8 prog 130 #[.int .i32 x] w λc w'=>c=zv (zx true)/\w'=w:=by
 by_cases e:x<97
 ·have d:(x:Int)<97:=by omega
  clear a;go_enter func130,ntmps130;go_wp2;go_ret;exact⟨rfl,rfl⟩
 have b:¬ x<=122:=λb=>a ⟨by omega,b⟩;have d:¬ (x:Int)<97:=by omega
 have f:(122:Int)<(x:Int):=by omega
 clear a;go_enter func130,ntmps130;go_wp2;go_ret;exact⟨rfl,rfl⟩
theorem Yv (w:y4) (s:ByteArray) (a:Nat):d7 w (w.iter s a):=(b8 w).a _
def Fb (s:ByteArray) (r:Int):Prop:=(oF s/\r=-1)\/(¬ oF s/\0<=r)
theorem Nl (w:y4) (s:ByteArray) (t:s.size<=9223372036854775807) :
  y8 prog 220 #[b9 s,zy (.func 130) #[] #[],zx true] w λg w'=>∃ a,g=zv (Y Z a)/\Fb s a/\d7 w w':=by
 have q:∀ (args:Array y5) (w:y4),(i6 130 args).run prog w=.ok (.enter 130 args) w:=enters_of func130 (by kernel_rfl) rfl;go_enter func220,ntmps220;go_wp2;go_loopw [] (λwr=>∃ a:Nat,wr=w.iter s a/\a<=s.size/\Hid (∀ c,c<a->tM (bV s c))) (λwr=>s.size-wr.iterPos w);exact⟨0,rfl,by omega,λc l=>absurd l (aGf _)⟩;obtain⟨a,rfl,r,j⟩:=hrel;by_cases b:a<s.size
 ·by_cases e:tM (bV s a)
  ·have i:(s[a]'b).toNat<128:=by have:=e.2;rw[fM s a b] at this;omega
   have o:∀ d,(Instr.next (zz (M ⟨w,0,J⟩)) true d).run prog (w.iter s a)=.ok (zw #[zx true,a,.int .i32 (bV s a)]) (w.iter s (a+1)):=λd=>by
    rw[fM s a b];exact run_next_ascii w s a d b i
   obtain⟨C,f⟩:=zr (aCO (bV s a) (w.iter s (a+1)) e) (show ∀ c,c<a+1->tM (bV s c) from λc l=>if g:c=a then g▸e else j.o c (by omega));clear e i j;generalize bV s a=x at *;go_wp2_with fail;refine C.m ?_;rintro g p ⟨rfl,rfl⟩;go_wp2;go_roundw;exact⟨a+1,rfl,by omega,f⟩;simp;omega
  obtain⟨f,h,m,n⟩:∃ f h,Utf8.decode s a=(f,h)/\¬ tM f:=by
   by_cases i:(s[a]'b).toNat<128
   ·exact⟨_,_,decode_ascii s a b i,by rw[<- fM s a b];exact e⟩
   have:=decode_high s a b (by omega);exact⟨(Utf8.decode s a).1,(Utf8.decode s a).2,rfl,λk=>by have:=k.2;omega⟩
  have o:∀ d,(Instr.next (zz (M ⟨w,0,J⟩)) true d).run prog (w.iter s a)=.ok (zw #[zx true,a,.int .i32 f]) (w.iter s (a+h)):=λd=>by
   have:=run_next_any (P:=prog) w s a d b;rw[m] at this;exact this
  obtain⟨C,i⟩:=zr (aDX f (w.iter s (a+h)) n) (show Fb s a from .inr ⟨λk=>e (k a b),by omega⟩);clear e n m;go_wp2_with fail;refine C.m ?_;rintro g p ⟨rfl,rfl⟩;go_wp2;go_ret;exact⟨_,rfl,i,Yv _ _ _⟩
 have o:∀ d,(Instr.next (zz (M ⟨w,0,J⟩)) true d).run prog (w.iter s a)=.ok (zw #[zx false]) (w.iter s a):=λd=>run_next_end w s a d b;have i:=I (show Fb s (-1) from .inl ⟨λc l=>j c (by omega),rfl⟩)
 go_wp2;go_ret;exact⟨_,rfl,i,Yv _ _ _⟩
theorem Pc (w:y4) (s:ByteArray) (e:s.size<=9223372036854775807) :
  y8 prog 177 #[b9 s,zy (.func 130) #[] #[]] w λb w'=>∃ a,b=zv (Y Z a)/\Fb s a/\d7 w w':=by
 have C:=I (Nl w s e);go_enter func177,ntmps177;go_wp2_with fail;refine C.m ?_;rintro b g ⟨a,rfl,c,f⟩;have d:=I c;clear c;go_wp2;go_ret;exact⟨_,rfl,d,f⟩
theorem Fe (w:y4) (s:ByteArray) (h:s.size<=9223372036854775807) :
  y8 prog 129 #[b9 s,zy (.func 130) #[] #[]] w λd w'=>d=zv (zx (decide (¬ oF s)))/\d7 w w':=by
 have C:=I (Pc w s h);by_cases b:oF s
 ·have e:=I (deF (p:=¬ oF s) (λa=>a b));go_enter func129,ntmps129;go_wp2_with fail;refine C.m ?_;rintro d i ⟨g,rfl,c,f⟩;obtain rfl:g=-1:=by rcases c with ⟨_,a⟩|⟨a,_⟩;exact a;exact absurd b a
  clear c b;go_wp2;go_ret;exact⟨(rtB e),f⟩
 have e:=I (deT (p:=¬ oF s) b);go_enter func129,ntmps129;go_wp2_with fail;refine C.m ?_;rintro d i ⟨g,rfl,c,f⟩;have j:0<=g:=by rcases c with ⟨a,_⟩|⟨_,a⟩;exact absurd a b;exact a
 clear c b;go_wp2;go_ret;exact⟨(rtB e),f⟩
theorem aEE (w:y4) (s:ByteArray) (j:s.size<=9223372036854775807) :
  y8 prog 78 #[b9 s] w λd w'=>d=zv (zx (decide (kC s)))/\d7 w w':=by
 have C:=I (Fe w s j);by_cases f:0<s.size
 ·have h:(0:Int)<(s.size:Int):=by omega
  by_cases g:s.size<=8
  ·have i:(s.size:Int)<=8:=by omega
   by_cases c:oF s
   ·rw[deF (p:=¬ oF s) (λa=>a c)] at C;have b:=I (deT (p:=kC s) ⟨⟨f,g⟩,c⟩);clear c;go_enter func78,ntmps78;go_wp2_with fail;refine C.m ?_;rintro d k ⟨rfl,e⟩;go_wp2;go_ret;exact⟨(rtB b),e⟩
   rw[deT (p:=¬ oF s) c] at C;have b:=I (deF (p:=kC s) (λa=>c a.2));clear c;go_enter func78,ntmps78;go_wp2_with fail;refine C.m ?_;rintro d k ⟨rfl,e⟩;go_wp2;go_ret;exact⟨(rtB b),e⟩
  have i:¬ (s.size:Int)<=8:=by omega
  have b:=I (deF (p:=kC s) (λa=>g a.1.2));go_enter func78,ntmps78;go_wp2;go_ret;exact⟨(rtB b),b8 _⟩
 have h:¬ (0:Int)<(s.size:Int):=by omega
 have b:=I (deF (p:=kC s) (λa=>f a.1.1));go_enter func78,ntmps78;go_wp2;go_ret;exact⟨(rtB b),b8 _⟩
theorem nK (s:ByteArray) (k:Nat) (a:k<s.size) (w:y4):(Instr.index 9 (b9 s) (Y Z k)).run prog w=.ok (.int .u8 (bV s k)) w:=by
 rw[run_index_string w 9 s .i64 k underlying9,fM s k a];simp[a]
theorem aBn (w:y4) (s:ByteArray) (t:s.size<=9223372036854775807) :
  y8 prog 107 #[b9 s] w λd w'=>d=zv (zx (decide (kC s)))/\d7 w w':=by
 go_enter func107,ntmps107;go_wp2;go_loopw [3] (λc wr=>∃ a:Nat,c=Y Z a/\a<=s.size/\Hid (∀ b,b<a->tM (bV s b))/\d7 w wr) (λc _=>s.size-(intOf c).toNat);exact⟨0,rfl,by omega,λb j=>absurd j (aGf _),b8 _⟩;obtain⟨a,rfl,r,h,f⟩:=hrel;by_cases k:a<s.size
 ·have m:=z7 a s.size;have q:=λw=>nK s a k w;by_cases n:bV s a<97
  ·have i:(bV s a:Int)<97:=by omega
   have c:=I (deF (p:=kC s) (λe=>by have:=(e.2 a k).1;omega));generalize bV s a=x at *;go_wp2;go_ret;exact⟨(rtB c),f⟩
  have i:¬ (bV s a:Int)<97:=by omega
  by_cases o:122<bV s a
  ·have l:(122:Int)<(bV s a:Int):=by omega
   have c:=I (deF (p:=kC s) (λe=>by have:=(e.2 a k).2;omega));generalize bV s a=x at *;go_wp2;go_ret;exact⟨(rtB c),f⟩
  have l:¬ (122:Int)<(bV s a:Int):=by omega
  have g:=I (show ∀ b,b<a+1->tM (bV s b) from λb j=>if d:b=a then d▸⟨by omega,by omega⟩ else h.o b (by omega));clear h;generalize bV s a=x at *;go_wp2;go_roundw;exact⟨a+1,by go_num,by omega,g,f⟩;simp[intOf];omega
 have m:=z8 a s.size;by_cases g:1<=s.size/\s.size<=8
 ·obtain⟨C,c⟩:=zr (λ(i:y4)=>bI (s.size:Int) 1 8 i (by omega) (by omega)) (deT (p:=kC s) ⟨g,λb j=>h b (by omega)⟩);clear g;go_wp2_with fail;refine(C _).m ?_;rintro d l ⟨rfl,rfl⟩;go_wp2;go_ret;exact⟨(rtB c),f⟩
 obtain⟨C,c⟩:=zr (λ(i:y4)=>dH (s.size:Int) 1 8 i (by omega)) (deF (p:=kC s) (λe=>g e.1));clear g;go_wp2_with fail;refine(C _).m ?_;rintro d l ⟨rfl,rfl⟩;go_wp2;go_ret;exact⟨(rtB c),f⟩
def mG (n:Int):Prop:=0<=n/\n<=50
instance (n:Int):Decidable (mG n):=inferInstanceAs (Decidable (_/\_))
def eB (f:List Run):Prop:=kL f/\∀ a∈f,mG a.N
instance (f:List Run):Decidable (eB f):=inferInstanceAs (Decidable (_/\_))
theorem cap1 (x:Run) (w:y4):y8 prog 133 #[.agg #[x.At,x.N]] w λb w'=>b=zv (zx (decide (¬ mG x.N)))/\d7 w w':=by
 by_cases c:x.N<0
 ·rw[deT (p:=¬ mG x.N) (λa=>by have:=a.1;omega)];go_enter func133,ntmps133;go_wp2;go_ret;exact⟨rfl,(b8 _).a _⟩
 by_cases d:50<x.N
 ·rw[deT (p:=¬ mG x.N) (λa=>by have:=a.2;omega)];go_enter func133,ntmps133;go_wp2;go_ret;exact⟨rfl,(b8 _).a _⟩
 rw[deF (p:=¬ mG x.N) (λa=>a ⟨by omega,by omega⟩)];go_enter func133,ntmps133;go_wp2;go_ret;exact⟨rfl,(b8 _).a _⟩
theorem Wf (w:y4) (v:y5) (f:List Run) (g:aR w v f) :
  y8 prog 82 #[v] w λe w'=>e=zv (zx (decide (eB f)))/\d7 w w':=by
 have C:=I (aDy w v f g);by_cases c:kL f
 ·obtain⟨P,h⟩:=zr (λ(k:y4) (a:d7 w k)=>Ie k v f 133 #[] (λx=>decide (¬ mG x.N)) (g.m a) (enters_of func133 (by kernel_rfl) rfl) (λb x _ l _=>cap1 x l)) (aBW c);have n:∃ i,f.any (λx=>decide (¬ mG x.N))=i/\decide (eB f)=!i:=by
   refine⟨_,rfl,?_⟩;by_cases b:∀ d∈f,mG d.N
   ·rw[deT (p:=eB f) ⟨c,b⟩];have:f.any (λx=>decide (¬ mG x.N))=false:=aGU.2 (λd j=>by simpa using b d j);rw[this];rfl
   rw[deF (p:=eB f) (λa=>b a.2)];have:f.any (λx=>decide (¬ mG x.N))=true:=by
    rw[aGV];apply Classical.byContradiction;intro m;exact b (λd j=>Classical.byContradiction λa=>m ⟨d,j,by simpa using a⟩)
   rw[this];rfl
  obtain⟨i,b,j⟩:=n;rw[b] at P;rw[j];clear b j c g;go_enter func82,ntmps82;go_wp2_with fail;refine C.m ?_;rintro e o ⟨rfl,d⟩;rw[h.o];go_wp2_with fail;refine(P _ d).m ?_;rintro e q ⟨rfl,m⟩;go_wp2;go_ret;exact⟨rfl,d.r m⟩
 have h:=I (Bt c);rw[deF (p:=eB f) (λa=>c a.1)];clear c g;go_enter func82,ntmps82;go_wp2_with fail;refine C.m ?_;rintro e o ⟨rfl,d⟩;rw[h.o];go_wp2;go_ret;exact⟨rfl,d⟩
theorem yL (w:y4) (v:y5) (f:List Run) (B:aR w v f) :
  y8 prog 108 #[v] w λc w'=>c=zv (zx (decide (eB f)))/\d7 w w':=by
 have q:=I (λ(i:y4) (d:d7 w i)=>Vs i v f (B.m d));rcases B with ⟨rfl,H,K,rfl,U⟩|⟨b,W,P,rfl,Q,R,S,T,z⟩
 ·have j:=I (deF (p:=eB []) (λd=>d.1.1));rw[deF (p:=kL []) (λd=>d.1)] at q;go_enter func108,ntmps108;go_wp2;go_loopw [3] (λa wr=>a=Y Z 0/\wr=w) (λa _=>0);exact⟨rfl,rfl⟩;obtain⟨rfl,rfl⟩:=hrel;go_wp2_with fail;refine(q _ (b8 _)).m ?_;rintro c s ⟨rfl,e⟩;go_wp2;go_ret;exact⟨(rtB j),e⟩
 have D:=I z;clear z;generalize A:f.length=n at *;have t:=I A;clear A;go_enter func108,ntmps108;go_wp2;go_loopw [3] (λh wr=>∃ k:Nat,h=Y Z k/\k<=n/\Hid (∀ a g,a<k->f[a]?=M g->mG g.N)/\d7 w wr) (λh _=>n-(intOf h).toNat);exact⟨0,rfl,aGI _,λa g o=>absurd o (aGf _),b8 _⟩;obtain⟨k,rfl,V,m,e⟩:=hrel;by_cases F:k<n
 ·have G:=z7 k n;obtain⟨x,l⟩:=uJ (f:=f) (k:=k) (by rw[t.o];exact F);obtain⟨u,y,L,N⟩:=D k x l;replace u:=e.c u;replace y:=e.c y;by_cases h:mG x.N
  ·obtain⟨C,E⟩:=zr (λ(i:y4)=>bI x.N 0 50 i h.1 h.2) (show ∀ a g,a<k+1->f[a]?=M g->mG g.N from λa g o r=>if c:a=k then(by subst c;rw[l] at r;cases r;exact h) else m.o a g (by omega) r);clear h l m;go_wp2_with fail;refine(C _).m ?_;rintro c s ⟨rfl,rfl⟩;go_wp2;go_roundw;exact⟨k+1,by go_num,by omega,E,e⟩;simp[intOf];omega
  obtain⟨C,j⟩:=zr (λ(i:y4)=>dH x.N 0 50 i h) (deF (p:=eB f) (λd=>h (d.2 x (aGC l))));clear h l m;go_wp2_with fail;refine(C _).m ?_;rintro c s ⟨rfl,rfl⟩;go_wp2;go_ret;exact⟨(rtB j),e⟩
 have G:=z8 k n;have j:decide (eB f)=decide (kL f):=by
  have l:∀ h∈f,mG h.N:=λh r=>by
   obtain⟨a,o,c⟩:=aGX r;exact m a h (by have:=t.o;omega) (by rw[aGm o,c])
  by_cases h:kL f
  ·rw[deT h,deT (p:=eB f) ⟨h,l⟩]
  rw[deF h,deF (p:=eB f) (λd=>h d.1)]
 have h:=I j;clear j;go_wp2_with fail;refine(q _ e).m ?_;rintro c s ⟨rfl,l⟩;go_wp2;go_ret;exact⟨(rtB h),e.r l⟩
def aG6 (n:Nat) (p:Nat->Bool) (b:Nat->y4->Prop) (r:Int) (w':y4):Prop:=
 (r=-1/\(∀ a,a<n->p a=false)/\b n w')\/(0<=r/\(∃ a,a<n/\p a=true)/\∃ a,b a w')
theorem Pv {l:List Queue} {k:Nat} (a:k<l.length):∃ x,l[k]?=M x:=⟨_,aGm a⟩
theorem Ki (w0 w:y4) (b D cap:Nat) (l:List Queue) (g:Nat) (lb:Array y5) (p:Nat->Bool) (d:Nat->y4->Prop) (W:l.length<=17592186044416) (hb:b<w0.heap.size)
  (t:∀ k x,l[k]?=M x->dG w0 b (D+k*3) x)
  (U:∀ (args:Array y5) (w:y4),(i6 g args).run prog w=.ok (.enter g args) w)
  (u:d 0 w) (v:∀ k a,d k a->d7 w0 a)
  (B:∀ (k:Nat) (x:Queue),l[k]?=M x->∀ a i,d k a->aR a i x.Cap->y8 prog g (#[.agg #[b9 x.Q,x.R,i]]++lb) a λc w'=>c=zv (zx (p k))/\d (k+1) w') :
  y8 prog 70 #[O (M ⟨b,D,J⟩) l.length cap,zy (.func g) #[] lb] w λc w'=>∃ a,c=zv (Y Z a)/\aG6 l.length p d a w':=by
 obtain⟨E,K,G,F⟩:=zp t B v u;clear t B v u;generalize A:l.length=n at *;have H:=I A;clear A;go_enter func70,ntmps70;go_wp2;go_loopw [8] (λe wr=>∃ k:Nat,k<=n/\e=Y Z k/\Hid (∀ a,a<k->p a=false)/\Hid (d k wr)) (λe _=>n-(intOf e).toNat);exact⟨0,aGI _,rfl,λa y=>absurd y (aGf _),F⟩;obtain⟨k,V,rfl,s,j⟩:=hrel;have C:=G k wr j;have T:b<wr.heap.size:=aGs hb C.size;by_cases z:k<n
 ·obtain⟨x,r⟩:=Pv (l:=l) (k:=k) (by rw[H.o];exact z);obtain⟨N,P,Q,R,i,S,q⟩:=dG.m w0 wr b _ x C (E k x r);have h:=I (K k x r wr i j q);obtain⟨va,X,rfl,_⟩:=q.i;clear q r;generalize x.Cap.length=vn at *;cases e:p k with
  | true=>
   rw[e] at h;have o:=I (show ∃ k,k<n/\p k=true from ⟨k,z,e⟩);clear e;go_wp2_with fail;refine h.m ?_;rintro c L ⟨rfl,f⟩;have m:=I f;clear f;go_wp2;go_ret;exact⟨_,rfl,.inr ⟨by omega,o,_,m⟩⟩
  | false=>
   rw[e] at h;have o:=I (show ∀ a,a<k+1->p a=false from λa y=>if c:a=k then c▸e else s.o a (by omega));clear e;go_wp2_with fail;refine h.m ?_;rintro c L ⟨rfl,f⟩;have m:=I f;clear f;go_wp2;go_roundw;exact⟨k+1,by omega,by go_num,o,m⟩;simp[intOf];omega
 obtain rfl:k=n:=by omega
 go_wp2;go_ret;exact⟨_,rfl,.inl ⟨rfl,s,j⟩⟩
def aEJ (n:Nat) (p:Nat->Bool) (b:Nat->y4->Prop) (c:Bool) (w':y4):Prop:=
 (c=false/\(∀ a,a<n->p a=false)/\b n w')\/(c=true/\(∃ a,a<n/\p a=true)/\∃ a,b a w')
theorem Cc (w0 w:y4) (b h cap:Nat) (l:List Queue) (d:Nat) (lb:Array y5) (p:Nat->Bool) (a:Nat->y4->Prop) (s:l.length<=17592186044416) (hb:b<w0.heap.size)
  (i:∀ k x,l[k]?=M x->dG w0 b (h+k*3) x)
  (r:∀ (args:Array y5) (w:y4),(i6 d args).run prog w=.ok (.enter d args) w)
  (j:a 0 w) (m:∀ k c,a k c->d7 w0 c)
  (o:∀ (k:Nat) (x:Queue),l[k]?=M x->∀ c e,a k c->aR c e x.Cap->y8 prog d (#[.agg #[b9 x.Q,x.R,e]]++lb) c λf w'=>f=zv (zx (p k))/\a (k+1) w') :
  y8 prog 76 #[O (M ⟨b,h,J⟩) l.length cap,zy (.func d) #[] lb] w λf w'=>∃ c,f=zv (zx c)/\aEJ l.length p a c w':=by
 have C:=I (Ki w0 w b h cap l d lb p a s hb i r j m o);clear i o m j;generalize l.length=n at *;go_enter func76,ntmps76;go_wp2_with fail;refine C.m ?_;rintro f q ⟨v,rfl,t⟩;rcases t with ⟨rfl,c,e⟩|⟨u,c,e⟩
 ·have g:=I (show aEJ n p a false q from .inl ⟨rfl,c,e⟩);clear c e;go_wp2;go_ret;exact⟨_,rfl,g⟩
 have g:=I (show aEJ n p a true q from .inr ⟨rfl,c,e⟩);clear c e;go_wp2;go_ret;exact⟨_,rfl,g⟩
theorem aFU (W:y4) (s:ByteArray) (p:Int) (a:Option Addr) (n cap:Nat) (f:s.size<=9223372036854775807) :
  y8 prog 77 #[.agg #[b9 s,p,O a n cap]] W λc w'=>c=zv (zx (decide (¬ kC s)))/\d7 W w':=by
 have C:=I (λ(W:y4)=>aEE W s f);obtain⟨b,d,e⟩:∃ b,decide (kC s)=b/\decide (¬ kC s)=!b:=⟨_,rfl,by simp⟩;rw[d] at C;rw[e];clear d e;go_enter func77,ntmps77;go_wp2_with fail;refine(C _).m ?_;rintro c h ⟨rfl,g⟩;go_wp2;go_ret;exact⟨rfl,((b8 _).a _).r g⟩
theorem aFR (W:y4) (s:ByteArray) (p:Int) (v:y5) (f:List Run) (b:aR W v f) :
  y8 prog 81 #[.agg #[b9 s,p,v]] W λd w'=>d=zv (zx (decide (¬ eB f)))/\d7 W w':=by
 have C:=I (λ(c:y4) (h:d7 W c)=>Wf c v f (b.m h));obtain⟨a,e,g⟩:∃ a,decide (eB f)=a/\decide (¬ eB f)=!a:=⟨_,rfl,by simp⟩;rw[e] at C;rw[g];obtain⟨j,k,rfl,_⟩:=b.i;clear e g b;generalize f.length=n at *;go_enter func81,ntmps81;go_wp2_with fail;refine(C _ ((b8 _).a _)).m ?_;rintro d l ⟨rfl,i⟩;go_wp2;go_ret;exact⟨rfl,((b8 _).a _).r i⟩
def Ka (p:Int) (k:Nat):Prop:=-1<=p/\p<(k:Int)
instance (p:Int) (k:Nat):Decidable (Ka p k):=inferInstanceAs (Decidable (_/\_))
def oQ (c:Nat) (n:Int) (W:y4):Prop:=W.heap[c]?=M (zt #[n] 3 (0,0))
theorem oQ.e {c:Nat} {n:Int} {w w':y4} (a:oQ c n w) (b:d7 w w'):oQ c n w':=by
 unfold oQ;rw[b.block c (aGq.1 a).1];exact a
theorem oQ.set {c:Nat} {n:Int} {w:y4} (a:oQ c n w) (m:Int):oQ c m (w.setCell ⟨c,0,J⟩ (Y Z m)):=by
 unfold oQ;rw[x6 w c 0 _ _ _ a];rfl
theorem oQ.cell {c:Nat} {n:Int} {w:y4} (a:oQ c n w):w ⟨c,0,J⟩=M (Y Z n):=by rw[y6 _ _ _ _ _ _ a];rfl
theorem oQ.lt {c:Nat} {n:Int} {w:y4} (a:oQ c n w):c<w.heap.size:=(aGq.1 a).1
theorem aFS (w0 W:y4) (s:ByteArray) (p:Int) (a:Option Addr) (n cap:Nat) (c k:Nat) (z:k<=17592186044416) (q:w0<=c) (u:d7 w0 W) (f:oQ c ((k:Int)-1) W) :
  y8 prog 80 #[.agg #[b9 s,p,O a n cap],zz (M ⟨c,0,J⟩)] W λe w'=>e=zv (zx (!decide (Ka p k)))/\d7 w0 w'/\oQ c (k:Int) w'/\(∀ d o,d≠c->W.heap[d]?=M o->w'.heap[d]?=M o):=by
 have w:=f.cell;have y:=x4 W c 0 _ _ f;have x:=f.lt;have g:=I (λ(o:Obj)=>show oQ c (k:Int) ((W.setCell ⟨c,0,J⟩ (Y Z (k:Int))).alloc o) from (f.set _).e ((b8 _).a o));have h:=I (λ(b:Obj)=>show ∀ d o,d≠c->W.heap[d]?=M o->((W.setCell ⟨c,0,J⟩ (Y Z (k:Int))).alloc b).heap[d]?=M o from λd o r t=>by
  have l:(W.setCell ⟨c,0,J⟩ (Y Z (k:Int))).heap[d]?=M o:=by rw[x7 W ⟨c,0,J⟩ d _ r];exact t
  rw[((b8 _).a b).block d (aGq.1 l).1];exact l)
 have i:=I (λ(o:Obj)=>(u.se (o:=0) q (Y Z (k:Int))).a o);clear f;by_cases l:p < -1
 ·have e:=I (deF (p:=Ka p k) (λj=>by have:=j.1;omega));go_enter func80,ntmps80;go_wp2;go_ret;exact⟨(congrArg (λb=>Ending.returned (zx (!b))) e).symm,i _,g _,h _⟩
 by_cases v:(k:Int)<=p
 ·have m:(k:Int)-1+1<=p:=by omega
  have e:=I (deF (p:=Ka p k) (λj=>by have:=j.2;omega));go_enter func80,ntmps80;go_wp2;go_ret;exact⟨(congrArg (λb=>Ending.returned (zx (!b))) e).symm,i _,g _,h _⟩
 have m:¬ (k:Int)-1+1<=p:=by omega
 have e:=I (deT (p:=Ka p k) ⟨by omega,by omega⟩);go_enter func80,ntmps80;go_wp2;go_ret;exact⟨(congrArg (λb=>Ending.returned (zx (!b))) e).symm,i _,g _,h _⟩
open Go.RowKit Go.Maps Go.WideMaps
theorem aFN:Keyed prog 9:=string_keyed underlying9
theorem aFr (w:y4):(zeroValue 3).run prog w=.ok (Y Z 0) w:=by kernel_rfl
def wF (b k:Nat) (c:ByteArray->Nat) (W:y4):Prop:=
 ∃ a:DataW Nat,W.ownsMap prog 9 (plainElem prog 3) b k a/\∀ s:ByteArray,a.atKey (.string s.data.toList) (.lit (.int .i64 0))=.lit (.int .i64 (c s))
def aCE (a:ByteArray->Nat) (s:ByteArray):ByteArray->Nat:=λt=>if t=s then a t+1 else a t
theorem Rr {W w1:y4} {a c:Nat} {o b:Obj} (d:W.heap[a]?=M b) (g:(W.alloc o).grownBy w1 (M c)) (i:a≠c):w1.heap[a]?=M b:=by
 have h:=(aGq.1 d).1;have f:=((b8 W).a o).block a h;rw[g.block a (by have:=((b8 W).a o).size;omega) (λe=>i (b7 e)),f];exact d
theorem aCM {W w1:y4} {a:Nat} {o:Obj} (d:(W.alloc o).grownBy w1 (M a)) (e:a<W.heap.size):w1.heap[W.heap.size]?=M o:=by
 have b:=y7 W o;rw[d.block _ (aGq.1 b).1 (λc=>by have:=b7 c;omega)];exact b
theorem aFT (w0 W:y4) (s:ByteArray) (p:Int) (a:Option Addr) (n cap:Nat) (d b k:Nat) (c:ByteArray->Nat) (hs:s.size<=9223372036854775807) (hk:k<=17592186044416) (V:c s<=k) (L:w0<=b) (U:w0<=d) (N:d≠b) (C:d7 w0 W)
  (j:W.heap[d]?=some (.cells #[.map (some b)] 121 (0,0))) (H:wF b k c W) :
  y8 prog 79 #[.agg #[.string s,.int .i64 p,.slice a n cap],.pointer (some ⟨d,0,none⟩)] W λf w'=>f=.returned (.bool (decide (0<c s)))/\d7 w0 w'/\
   w'.heap[d]?=some (.cells #[.map (some b)] 121 (0,0))/\wF b (k+1) (aCE c s) w'/\(∀ h r,h≠b->W.heap[h]?=some r->w'.heap[h]?=some r):=by
 obtain⟨P,A,x⟩:=H;have R:W ⟨d,0,none⟩=some (.map (some b)):=by rw[y6 _ _ _ _ _ _ j];rfl
 have z:keyOf prog 9 (.string s)=some (.string s.data.toList):=keyOf_string_mk underlying9 (by unfold o0;omega);obtain⟨l,e⟩:=zr z A;clear z A;have X:=(aGq.1 j).1;go_enter func79,ntmps79;have Q:(c s:Int)+1<=17592186044417:=by omega
 have G:=I (show (Lit.int .i64 ((c s:Int)+1)).wf=true from WalkArith.wf_i64 ⟨by omega,by omega⟩);have K:b<W.heap.size:=e.lt;obtain⟨u,E⟩:=zr x j;clear x j;go_wp2_with (first
  | (at_lookup;refine wpList_lookup_own_int _ rfl _ _ 121 rfl 9 3 .i64 aFN underlying121 underlying3 (aFr _) b k _ rfl (e.alloc _) _ _ rfl l ?_;intro m g q;(obtain rfl:m=(c s:Int):=by have:=g.symm.trans (u s);simpa using this);clear g q)
  | (at_mapUpdate;go_loud (refine wpList_mapUpdate_own _ rfl _ _ _ 121 rfl 9 3 aFN underlying121 _ b k _ rfl (e.alloc _) (by unfold o0;omega) _ _ _ rfl rfl l _ [] (plainElem_int underlying3 G) ?_);intro D B i;have w:=I B;have v:=I i;have o:=Rr E i N;have y:=aCM i K;have S:=y6 D d 0 _ _ _ o;have T:=y6 D W 0 _ _ _ y;have F:=I o;clear B i o y)
  | (at_lookup;refine wpList_lookup_own_int _ rfl _ _ 121 rfl 9 3 .i64 aFN underlying121 underlying3 (aFr _) b (k+1) _ rfl w _ _ rfl l ?_;intro m g q;(obtain rfl:m=(c s:Int)+1:=by have:=g.symm.trans (atKey_put_same e.isMap (by simp[WideAt.IsKeyLit]) _ _);simpa using this);clear g q))
 go_ret;refine⟨fT (decide_eq_decide.2 (by omega)),Below.grown (C.a _) v (C.a _).size (λh g=>by cases g;exact L),F,⟨_,w,λt=>?_⟩,λh r g m=>Rr m v g⟩;unfold aCE;by_cases f:t=s
 ·subst f;rw[c7 rfl,atKey_put_same e.isMap (by simp[WideAt.IsKeyLit])];simp
 rw[d8 f,atKey_put_other (λi=>f (by
  have h:t.data.toList=s.data.toList:=by simpa using i
  cases t;cases s;simp at h;simp[h]))]
 exact u t
theorem wG (w0 w:y4) (b f cap g:Nat) (l:List Queue) (d:Nat) (lb:Array y5) (p:Nat->Bool) (a:Nat->y4->Prop) (s:l.length<=17592186044416) (hb:b<w0.heap.size)
  (h:∀ k x,l[k]?=M x->dG w0 b (f+k*3) x)
  (r:∀ (args:Array y5) (w:y4),(i6 d args).run prog w=.ok (.enter d args) w)
  (t:w ⟨g,0,J⟩=M (O (M ⟨b,f,J⟩) l.length cap))
  (i:a 0 w) (j:∀ k c,a k c->d7 w0 c)
  (o:∀ (k:Nat) (x:Queue),l[k]?=M x->∀ c e,a k c->aR c e x.Cap->y8 prog d (#[.agg #[b9 x.Q,x.R,e]]++lb) c λc w'=>c=zv (zx (p k))/\a (k+1) w') :
  y8 prog 75 #[zy (.func d) #[] lb,zz (M ⟨g,0,J⟩)] w λc w'=>∃ e,c=zv (zx e)/\aEJ l.length p a e w':=by
 have C:=I (Cc w0 w b f cap l d lb p a s hb h r i j o);clear h o j i;generalize l.length=n at *;go_enter func75,ntmps75;go_wp2_with fail;refine C.m ?_;rintro c u ⟨e,rfl,m⟩;have q:=I m;clear m;go_wp2;go_ret;exact⟨_,rfl,q⟩
def nm (l:List Queue) (k:Nat):ByteArray:=(l.getD k default).Q
def par (l:List Queue) (k:Nat):Int:=(l.getD k default).R
def cp (l:List Queue) (k:Nat):List Run:=(l.getD k default).Cap
def wO (l:List Queue):Nat->ByteArray->Nat
 | 0,_=>0
 | k+1,s=>aCE (wO l k) (nm l k) s
theorem aBV (l:List Queue) (s:ByteArray):∀ a,wO l a s<=a
 | 0=>aGi _
 | a+1=>by
  have:=aBV l s a;simp only[wO,aCE];split <;> omega
theorem Og (l:List Queue) (s:ByteArray):∀ a,0<wO l a s↔∃ d,d<a/\nm l d=s
 | 0=>by simp[wO]
 | a+1=>by
  have g:=Og l s a;simp only[wO,aCE];constructor
  ·intro c;by_cases b:s=nm l a
   ·exact⟨a,by omega,b.symm⟩
   rw[d8 b] at c;obtain⟨d,f,e⟩:=g.1 c;exact⟨d,by omega,e⟩
  rintro⟨d,f,e⟩;by_cases b:s=nm l a
  ·rw[c7 b];omega
  rw[d8 b];exact g.2 ⟨d,by
   rcases Nat.lt_succ_iff_lt_or_eq.1 f with c|c
   ·exact c
   subst c;exact absurd e.symm b,e⟩
theorem fS {l:List Queue} {k:Nat} {x:Queue} (b:l[k]?=M x):nm l k=x.Q/\par l k=x.R/\cp l k=x.Cap:=by
 have a:l.getD k default=x:=by simp[aGW,b]
 exact⟨by unfold nm;rw[a],by unfold par;rw[a],by unfold cp;rw[a]⟩
def p2 (l:List Queue) (k:Nat):Bool:=decide (¬ kC (nm l k))
def p3 (l:List Queue) (k:Nat):Bool:=decide (0<wO l k (nm l k))
def p4 (l:List Queue) (k:Nat):Bool:=!decide (Ka (par l k) k)
def p5 (l:List Queue) (k:Nat):Bool:=decide (¬ eB (cp l k))
@[irreducible] def aT (l:List Queue):Int:=
 if¬ (1<=l.length/\l.length<=5) then 2
 else if(List.range l.length).any (p2 l) then 4
 else if(List.range l.length).any (p3 l) then 5
 else if(List.range l.length).any (p4 l) then 3
 else if(List.range l.length).any (p5 l) then 1
 else 0
theorem On {n:Nat} {p:Nat->Bool} (b:∃ a,a<n/\p a=true):(List.range n).any p=true:=by
 obtain⟨a,c,d⟩:=b;exact aGV.2 ⟨a,aGN.2 c,d⟩
theorem Eu {n:Nat} {p:Nat->Bool} (b:∀ a,a<n->p a=false):(List.range n).any p=false:=
 aGU.2 (λa c=>by rw[b a (aGN.1 c)];decide)
theorem Dz {n:Nat} {p:Nat->Bool} {d:Nat->y4->Prop} {c:Bool} {w:y4} (e:aEJ n p d c w):c=(List.range n).any p/\∃ a,d a w:=by
 rcases e with ⟨rfl,a,b⟩|⟨rfl,a,b⟩
 ·exact⟨(Eu a).symm,_,b⟩
 exact⟨(On a).symm,b⟩
theorem Zc (w:y4) (a c d e:Obj) :
  (((((w.alloc a).alloc c).alloc d).alloc e).heap[w.heap.size]?=M a)/\(((((w.alloc a).alloc c).alloc d).alloc e).heap[w.heap.size+1]?=M c)/\
  (((((w.alloc a).alloc c).alloc d).alloc e).heap[w.heap.size+1+1]?=M d)/\(((((w.alloc a).alloc c).alloc d).alloc e).heap[w.heap.size+1+1+1]?=M e)/\d7 w ((((w.alloc a).alloc c).alloc d).alloc e):=by
 have n:(w.alloc a).heap.size=w.heap.size+1:=by simp
 have o:((w.alloc a).alloc c).heap.size=w.heap.size+1+1:=by simp
 have p:(((w.alloc a).alloc c).alloc d).heap.size=w.heap.size+1+1+1:=by simp
 have m:=y7 w a;have i:=y7 (w.alloc a) c;have j:=y7 ((w.alloc a).alloc c) d;have k:=y7 (((w.alloc a).alloc c).alloc d) e;rw[n] at i;rw[o] at j;rw[p] at k;have keep:∀ (f:y4) (h b:Obj) (g:Nat),f.heap[g]?=M b->(f.alloc h).heap[g]?=M b:=λf h b g l=>by
  rw[((b8 f).a h).block g (aGq.1 l).1];exact l
 exact⟨keep _ _ _ _ (keep _ _ _ _ (keep _ _ _ _ m)),keep _ _ _ _ (keep _ _ _ _ i),keep _ _ _ _ j,k,((((b8 w).a a).a c).a d).a e⟩
def Seen (w:y4) (l:List Queue) (B a b c:Nat) (d:Obj) (k:Nat) (W:y4):Prop:=
 d7 w W/\W.heap[b]?=M (zt #[.map (M a)] 121 (0,0))/\wF a k (wO l k) W/\W.heap[B]?=M d/\oQ c (-1) W
def aFp (w:y4) (B a:Nat) (b:Obj) (k:Nat) (W:y4):Prop:=d7 w W/\oQ a ((k:Int)-1) W/\W.heap[B]?=M b
theorem Vd {a:Nat} {W:y4} (d:W.heap[a]?=M (.map #[] 0)) (l:List Queue):wF a 0 (wO l 0) W:=by
 obtain⟨f,clock,b,e⟩:=World.ownsMap_made (H:=Nat) W prog 9 (plainElem prog 3);rw[y7] at b;have c:=b7 b;simp only[Obj.map.injEq] at c;obtain⟨rfl,rfl⟩:=c;exact⟨_,⟨#[],0,d,e⟩,λs=>rfl⟩
theorem Lj (w:y4) (b f cap:Nat) (l:List Queue) (h1:l.length<=cap) (hl:l.length<=5) (h0:1<=l.length) (hb:b<w.heap.size) (n:∀ e x,l[e]?=M x->dG w b (f+e*3) x) :
  y8 prog 29 #[O (M ⟨b,f,J⟩) l.length cap] w λj w'=>j=zv (Y Z (aT l))/\d7 w w':=by
 have a3:¬ (l.length:Int)<1:=by omega
 have a4:¬ (5:Int)<(l.length:Int):=by omega
 have a2:=@run_makeMap prog;obtain⟨A,U,V,W,E⟩:=Zc w (zt #[O (M ⟨b,f,J⟩) l.length cap] 27) (.map #[] 0) (zt #[.map (M (w+1))] 121) (zt #[Y Z (-1)] 3);obtain⟨L,S⟩:=zr U E;have T:=y6 _ _ 0 _ _ _ A;have N:=I (λ(a:y4) (m:d7 w a) (d:a ⟨w,0,J⟩=M (O (M ⟨b,f,J⟩) l.length cap))=>
  wG w a b f cap w l 77 #[] (p2 l) (λ_ c=>d7 a c) (by omega) hb n (enters_of func77 (by kernel_rfl) rfl) d (b8 _) (λ_ _ i=>m.r i)
   (λe x h c D k p=>by
    obtain⟨_,G,_⟩:=n e x h;obtain⟨r,u,v⟩:=fS h;obtain⟨s,g,rfl,_⟩:=p.i;exact(aFU c x.Q x.R s _ g G).m λj w' ⟨o,q⟩=>⟨by rw[o];unfold p2;rw[r],k.r q⟩))
 have R:=I (λ(a:y4) (m:d7 w a) (d:a ⟨w,0,J⟩=M (O (M ⟨b,f,J⟩) l.length cap))=>
  wG w a b f cap w l 81 #[] (p5 l) (λ_ c=>d7 a c) (by omega) hb n (enters_of func81 (by kernel_rfl) rfl) d (b8 _) (λ_ _ i=>m.r i)
   (λe x h c D k p=>by
    obtain⟨r,u,v⟩:=fS h;exact(aFR c x.Q x.R D x.Cap p).m λj w' ⟨o,q⟩=>⟨by rw[o];unfold p5;rw[v],k.r q⟩))
 have Q:=I (λ(a:y4) (m:d7 w a) (d:a.heap[w.heap.size]?=M (zt #[O (M ⟨b,f,J⟩) l.length cap] 27 (0,0))) (hn:oQ (w+1+1+1) (-1) a)=>
  wG w a b f cap w l 80 #[zz (M ⟨w+1+1+1,0,J⟩)] (p4 l) (aFp w w (w+1+1+1) (zt #[O (M ⟨b,f,J⟩) l.length cap] 27 (0,0))) (by omega) hb n (enters_of func80 (by kernel_rfl) rfl) (by rw[y6 _ _ _ _ _ _ d];rfl) ⟨m,hn,d⟩ (λ_ _ i=>i.1)
   (λe x h c D k p=>by
    obtain⟨r,u,v⟩:=fS h;obtain⟨s,g,rfl,_⟩:=p.i;exact(aFS w c x.Q x.R s _ g (w+1+1+1) e (by have:=(aGw.1 h).1;omega) (by omega) k.1 k.2.1).m λj w' ⟨o,q,t,y⟩=>
     ⟨by rw[o];unfold p4;rw[u],q,by rw[show (((e+1:Nat):Int)-1)=(e:Int) by omega];exact t,y _ _ (by omega) k.2.2⟩))
 have P:=I (λ(a:y4) (m:d7 ((((w.alloc (zt #[O (M ⟨b,f,J⟩) l.length cap] 27)).alloc (.map #[] 0)).alloc (zt #[.map (M (w+1))] 121)).alloc (zt #[Y Z (-1)] 3)) a) (X:wF (w+1) 0 (wO l 0) a)=>
  have keep:∀ (z:Nat) (F:Obj),_->a.heap[z]?=M F:=λz F (i:((((w.alloc (zt #[O (M ⟨b,f,J⟩) l.length cap] 27)).alloc (.map #[] 0)).alloc (zt #[.map (M (w+1))] 121)).alloc (zt #[Y Z (-1)] 3)).heap[z]?=M F)=>by
   rw[m.block z (aGq.1 i).1];exact i
  wG w a b f cap w l 79 #[zz (M ⟨w+1+1,0,J⟩)] (p3 l) (Seen w l w (w+1) (w+1+1) (w+1+1+1) (zt #[O (M ⟨b,f,J⟩) l.length cap] 27 (0,0))) (by omega) hb n (enters_of func79 (by kernel_rfl) rfl) (by rw[y6 _ _ _ _ _ _ (keep _ _ A)];rfl)
   ⟨E.r m,keep _ _ V,X,keep _ _ A,keep _ _ W⟩ (λ_ _ i=>i.1)
   (λe x h c D k p=>by
    obtain⟨_,G,_⟩:=n e x h;obtain⟨r,u,v⟩:=fS h;obtain⟨s,g,rfl,_⟩:=p.i;obtain⟨B,H,K,t,C⟩:=k;exact(aFT w c x.Q x.R s _ g (w+1+1) (w+1) e (wO l e) G (by have:=(aGw.1 h).1;omega) (aBV _ _ _) (by omega) (by omega) (by omega) B H K).m λj w' ⟨o,q,a1,a0,y⟩=>
     ⟨by rw[o];unfold p3;rw[r],q,a1,by show wF _ _ (aCE (wO l e) (nm l e)) _;rw[r];exact a0,y _ _ (by omega) t,y _ _ (by omega) C⟩))
 clear n A U V W E;have v:aT l=if(List.range l.length).any (p2 l) then 4 else if(List.range l.length).any (p3 l) then 5 else if(List.range l.length).any (p4 l) then 3 else if(List.range l.length).any (p5 l) then 1 else 0:=by
  unfold aT;rw[d8 (by omega)]
 have i:=I v;clear v;go_enter func29,ntmps29;go_wp2_with fail;refine(N _ S T).m ?_;rintro j o ⟨g,rfl,d⟩;obtain⟨c,_,k⟩:=Dz d;clear d N;have u:wF (w+1) 0 (wO l 0) o:=by
  have h:o.heap[w.heap.size+1]?=M (.map #[] 0):=by rw[k.block _ (aGq.1 L).1];exact L
  exact Vd h l
 cases g with
 | true=>
  have h:=I (by rw[i.o,<- c,c7 rfl]:aT l=4);clear c;go_wp2;go_ret;exact⟨aL h.symm,S.r k⟩
 | false=>
  rw[<- c,d8 (by decide)] at i;clear c;have p:=I (P o k u);clear P u;have y:=k.c T;go_wp2_with fail;refine p.m ?_;rintro j D ⟨g,rfl,d⟩;obtain⟨c,G,B,H,K,t,C⟩:=Dz d;have q:=I (Q D B t C);clear d p Q H K C y;have z:=y6 _ _ 0 _ _ _ t;cases g with
  | true=>
   have h:=I (by rw[i.o,<- c,c7 rfl]:aT l=5);clear c;go_wp2;go_ret;exact⟨aL h.symm,B⟩
  | false=>
   rw[<- c,d8 (by decide)] at i;clear c t;go_wp2_with fail;refine q.m ?_;rintro j F ⟨g,rfl,d⟩;obtain⟨c,k4,u1,u2,u3⟩:=Dz d;have s:=y6 _ _ 0 _ _ _ u3;have r:=I (R F u1 s);clear d q R u2 u3 z;cases g with
   | true=>
    have h:=I (by rw[i.o,<- c,c7 rfl]:aT l=3);clear c;go_wp2;go_ret;exact⟨aL h.symm,u1⟩
   | false=>
    rw[<- c,d8 (by decide)] at i;clear c;go_wp2_with fail;refine r.m ?_;rintro j w4 ⟨g,rfl,d⟩;obtain⟨c,k5,u4⟩:=Dz d;clear d r s;cases g with
    | true=>
     have h:=I (by rw[i.o,<- c,c7 rfl]:aT l=1);clear c;go_wp2;go_ret;exact⟨aL h.symm,u1.r u4⟩
    | false=>
     have h:=I (by rw[i.o,<- c,d8 (by decide)]:aT l=0);clear c;go_wp2;go_ret;exact⟨aL h.symm,u1.r u4⟩
theorem mH (w:y4) (v:y5) (l:List Queue) (c:aK w v l) :
  y8 prog 29 #[v] w λa w'=>a=zv (Y Z (aT l))/\d7 w w':=by
 by_cases a:1<=l.length/\l.length<=5
 ·rcases c with ⟨rfl,j,k,rfl,o⟩|⟨b,i,d,rfl,e,h,m,f,g⟩
  ·exact absurd a.1 (by simp)
  exact Lj w b i d l e a.2 a.1 f g
 have f:aT l=2:=by unfold aT;rw[c7 a]
 rw[f];obtain⟨o,d,rfl,_,_,_⟩:=c.i;clear c f;generalize l.length=n at *;have p:=@run_makeMap prog;have g:=I (λ(i j k m:Obj)=>(((((b8 w).a i).a j).a k).a m));by_cases e:(n:Int)<1
 ·clear a;go_enter func29,ntmps29;go_wp2;go_ret;exact⟨rfl,g _ _ _ _⟩
 have h:(5:Int)<(n:Int):=by omega
 clear a;go_enter func29,ntmps29;go_wp2;go_ret;exact⟨rfl,g _ _ _ _⟩
theorem Dh {x y:ByteArray} (a:x=y):(x.toList == y.toList)=true:=by rw[a];simp
theorem xG {x y:ByteArray} (b:¬ x=y):(x.toList == y.toList)=false:=by
 rw[beq_eq_false_iff_ne];intro a;rw[ByteArray.toList_eq,ByteArray.toList_eq] at a;exact b (by cases x;cases y;simp at a;simp[a])
theorem vY {p:Nat->Bool} {k:Nat} (c:∀ a,a<k->p a=false) (d:p k=false):∀ a,a<k+1->p a=false:=λa e=>if b:a=k then b▸d else c a (by omega)
theorem aBJ {l:List Queue} {i k:Nat} (a:i<k) (e:nm l i=nm l k):p3 l k=true:=by
 unfold p3;exact decide_eq_true ((Og l _ k).2 ⟨i,a,e⟩)
theorem aDQ {l:List Queue} {k:Nat} (b:∀ a,a<k->nm l a≠nm l k):p3 l k=false:=by
 unfold p3;exact decide_eq_false (λa=>by obtain⟨e,c,d⟩:=(Og l _ k).1 a;exact b e c d)
theorem Oh (w:y4) (b S cap:Nat) (l:List Queue) (h1:l.length<=cap) (hl:l.length<=5) (W:1<=l.length) (hb:b<w.heap.size) (P:∀ k x,l[k]?=M x->dG w b (S+k*3) x) :
  y8 prog 54 #[O (M ⟨b,S,J⟩) l.length cap] w λq w'=>q=zv (Y Z (aT l))/\d7 w w':=by
 obtain⟨A,U⟩:=zr P (λ(p:y4)=>bI (l.length:Int) 1 5 p (by omega) (by omega));have Q:aT l=if(List.range l.length).any (p2 l) then 4 else if(List.range l.length).any (p3 l) then 5 else if(List.range l.length).any (p4 l) then 3 else if(List.range l.length).any (p5 l) then 1 else 0:=by
  unfold aT;rw[d8 (by omega)]
 have F:=I Q;clear Q P;generalize R:l.length=n at *;have D:=I R;clear R;go_enter func54,ntmps54;go_wp2_with fail;refine(U _).m ?_;rintro q r ⟨rfl,rfl⟩;go_wp2;go_loopw [3] (λg wr=>∃ k:Nat,g=Y Z k/\k<=n/\Hid (∀ c,c<k->p2 l c=false)/\d7 r wr) (λg _=>n-(intOf g).toNat);exact⟨0,rfl,by omega,λc o=>absurd o (aGf _),b8 _⟩;obtain⟨k,rfl,hk,e,f⟩:=hrel;by_cases E:k<n
 ·have H:=z7 k n;obtain⟨x,y⟩:=Pv (l:=l) (k:=k) (by rw[D.o];exact E);obtain⟨V,m,B,G,T,K,v⟩:=dG.m r wr b _ x f (A k x y);obtain⟨j,h,i⟩:=fS y;have C:=I (λ(p:y4)=>aBn p x.Q m);by_cases a:kC x.Q
  ·rw[deT a] at C;have t:=I (vY e (by unfold p2;rw[j];exact decide_eq_false (λu=>u a):p2 l k=false));clear a v j h i y e;go_wp2_with fail;refine(C _).m ?_;rintro q z ⟨rfl,d⟩;go_wp2;go_roundw;exact⟨k+1,by go_num,by omega,t,f.r d⟩;simp[intOf];omega
  rw[deF a] at C;have s:=I (by rw[F.o,c7 (On ⟨k,E,by unfold p2;rw[j];exact decide_eq_true a⟩)]:aT l=4);clear a v j h i y e;go_wp2_with fail;refine(C _).m ?_;rintro q z ⟨rfl,d⟩;go_wp2;go_ret;exact⟨aL s.symm,f.r d⟩
 have H:=z8 k n;obtain rfl:k=n:=by omega
 have G:=I (by rw[F.o,d8 (by rw[Eu e.o];decide)]:aT l=if(List.range k).any (p3 l) then 5 else if(List.range k).any (p4 l) then 3 else if(List.range k).any (p5 l) then 1 else 0);clear F e;have a0:(1:Nat)<=k:=W;go_wp2;go_loopw [4] (λg wr=>∃ d:Nat,g=Y Z d/\d<=k/\Hid (∀ c,c<d->p3 l c=false)/\d7 r wr) (λg _=>k-(intOf g).toNat);exact⟨0,rfl,by omega,λc o=>absurd o (aGf _),f⟩;obtain⟨d,rfl,hm,e,f⟩:=hrel;by_cases E:d<k
 ·have H:=z7 d k;obtain⟨x,y⟩:=Pv (l:=l) (k:=d) (by rw[D.o];exact E);have N:=I y;clear y;go_wp2;go_loopw [5] (λg wr=>∃ a:Nat,g=Y Z a/\a<=d/\Hid (∀ c,c<a->nm l c≠nm l d)/\d7 r wr) (λg _=>d-(intOf g).toNat);exact⟨0,rfl,by omega,λc o=>absurd o (aGf _),f⟩;obtain⟨a,rfl,hi,B,f⟩:=hrel;by_cases K:a<d
  ·have L:=z7 a d;obtain⟨h,m⟩:=Pv (l:=l) (k:=a) (by rw[D.o];omega);obtain⟨V,_⟩:=dG.m r wr b _ x f (A d x N);obtain⟨d1,_⟩:=dG.m r wr b _ h f (A a h m);obtain⟨j,_,_⟩:=fS N;obtain⟨i,_,_⟩:=fS m;by_cases z:h.Q=x.Q
   ·have X:=Dh z;have s:=I (by rw[G.o,c7 (On ⟨d,E,aBJ K (by rw[j,i,z])⟩)]:aT l=5);clear z j i m B e;go_wp2;go_quiet (fail);go_wp2;go_ret;exact⟨aL s.symm,f.dn _⟩
   have X:=xG z;have t:=I (show ∀ c,c<a+1->nm l c≠nm l d from λc o=>if q:c=a then by rw[q,i,j];exact z else B.o c (by omega));clear z j i m B;go_wp2;go_quiet (fail);go_wp2;go_roundw;exact⟨a+1,by go_num,by omega,t,f.dn _⟩;simp[intOf];omega
  have L:=z8 a d;obtain rfl:a=d:=by omega
  have t:=I (vY e (aDQ B));clear B e;go_wp2;go_roundw;exact⟨a+1,by go_num,by omega,t,f⟩;simp[intOf];omega
 have H:=z8 d k;obtain rfl:d=k:=by omega
 have y:=I (by rw[G.o,d8 (by rw[Eu e.o];decide)]:aT l=if(List.range d).any (p4 l) then 3 else if(List.range d).any (p5 l) then 1 else 0);clear G e;go_wp2;go_loopw [6] (λg wr=>∃ a:Nat,g=Y Z a/\a<=d/\Hid (∀ c,c<a->p4 l c=false)/\d7 r wr) (λg _=>d-(intOf g).toNat);exact⟨0,rfl,by omega,λc o=>absurd o (aGf _),f⟩;obtain⟨a,rfl,hi,e,f⟩:=hrel;by_cases K:a<d
 ·have L:=z7 a d;obtain⟨h,m⟩:=Pv (l:=l) (k:=a) (by rw[D.o];omega);obtain⟨_,_,B,N,_⟩:=dG.m r wr b _ h f (A a h m);obtain⟨_,i,_⟩:=fS m;by_cases j:Ka h.R a
  ·obtain⟨C,t⟩:=zr (λ(p:y4)=>bI h.R (-1) ((a:Int)-1) p j.1 (by have:=j.2;omega)) (vY e (by unfold p4;rw[i,deT j];rfl:p4 l a=false));clear j i m e;go_wp2_with fail;refine(C _).m ?_;rintro q z ⟨rfl,rfl⟩;go_wp2;go_roundw;exact⟨a+1,by go_num,by omega,t,f⟩;simp[intOf];omega
  obtain⟨C,s⟩:=zr (λ(p:y4)=>dH h.R (-1) ((a:Int)-1) p (λu=>j ⟨u.1,by have:=u.2;omega⟩)) (by rw[y.o,c7 (On ⟨a,K,by unfold p4;rw[i,deF j];rfl⟩)]:aT l=3);clear j i m e;go_wp2_with fail;refine(C _).m ?_;rintro q z ⟨rfl,rfl⟩;go_wp2;go_ret;exact⟨aL s.symm,f⟩
 have L:=z8 a d;obtain rfl:a=d:=by omega
 have z:=I (by rw[y.o,d8 (by rw[Eu e.o];decide)]:aT l=if(List.range a).any (p5 l) then 1 else 0);clear y e;go_wp2;go_loopw [7] (λg wr=>∃ c:Nat,g=Y Z c/\c<=a/\Hid (∀ B,B<c->p5 l B=false)/\d7 r wr) (λg _=>a-(intOf g).toNat);exact⟨0,rfl,by omega,λc o=>absurd o (aGf _),f⟩;obtain⟨c,rfl,o,e,f⟩:=hrel;by_cases N:c<a
 ·have V:=z7 c a;obtain⟨h,m⟩:=Pv (l:=l) (k:=c) (by rw[D.o];omega);obtain⟨_,_,_,_,T,d5,v⟩:=dG.m r wr b _ h f (A c h m);obtain⟨_,_,i⟩:=fS m;have C:=I (λ(p:y4) (u:d7 wr p)=>yL p T h.Cap (v.m u));obtain⟨va,vc,rfl,_⟩:=v.i;by_cases j:eB h.Cap
  ·rw[deT j] at C;have t:=I (vY e (by unfold p5;rw[i];exact decide_eq_false (λu=>u j):p5 l c=false));clear j i m e v;generalize h.Cap.length=B at *;go_wp2_with fail;refine(C _ (b8 _)).m ?_;rintro q X ⟨rfl,g⟩;go_wp2;go_roundw;exact⟨c+1,by go_num,by omega,t,f.r g⟩;simp[intOf];omega
  rw[deF j] at C;have s:=I (by rw[z.o,c7 (On ⟨c,N,by unfold p5;rw[i];exact decide_eq_true j⟩)]:aT l=1);clear j i m e v;generalize h.Cap.length=B at *;go_wp2_with fail;refine(C _ (b8 _)).m ?_;rintro q X ⟨rfl,g⟩;go_wp2;go_ret;exact⟨aL s.symm,f.r g⟩
 have V:=z8 c a;obtain rfl:c=a:=by omega
 have s:=I (by rw[z.o,d8 (by rw[Eu e.o];decide)]:aT l=0);clear z e;go_wp2;go_ret;exact⟨aL s.symm,f⟩
theorem tN (w:y4) (v:y5) (l:List Queue) (c:aK w v l) :
  y8 prog 54 #[v] w λe w'=>e=zv (Y Z (aT l))/\d7 w w':=by
 by_cases a:1<=l.length/\l.length<=5
 ·rcases c with ⟨rfl,j,k,rfl,p⟩|⟨b,i,d,rfl,f,m,o,g,h⟩
  ·exact absurd a.1 (by simp)
  exact Oh w b i d l f a.2 a.1 g h
 have f:aT l=2:=by unfold aT;rw[c7 a]
 rw[f];have g:=I (dH (l.length:Int) 1 5 w (by omega));obtain⟨h,d,rfl,_,_,_⟩:=c.i;clear c f a;generalize l.length=n at *;go_enter func54,ntmps54;go_wp2_with fail;refine g.m ?_;rintro e i ⟨rfl,rfl⟩;go_wp2;go_ret;exact⟨rfl,b8 _⟩
def pX {e:Type} (q:Nat) (a:e->y4->Prop):Prop:=
 ∀ s b c d,a s b->b.grownBy c d->(∀ b,d=M b->b=q)->a s c
structure bJ (bs:List Nat) (W W':y4):Prop where
 size:W.heap.size<=W'.heap.size
 same:∀ j∈bs,j<W.heap.size->W'.heap[j]?=W.heap[j]?
theorem bJ.rf (bs:List Nat) (W:y4):bJ bs W W:=⟨aGi _,λ_ _ _=>rfl⟩
theorem bJ.r {bs:List Nat} {A B C:y4} (a:bJ bs A B) (k:bJ bs B C):bJ bs A C:=
 ⟨aGR a.size k.size,λd b c=>(k.same d b (aGs c a.size)).trans (a.same d b c)⟩
theorem bJ.e {bs:List Nat} {A B:y4} (a:d7 A B):bJ bs A B:=⟨a.size,λc _ b=>a.block c b⟩
theorem bJ.grown {bs:List Nat} {A B:y4} {row:Option Nat} (a:A.grownBy B row) (e:∀ b,row=M b->b∉bs):bJ bs A B:=
 ⟨a.size,λb d c=>a.block b c (λc=>e b c.symm d)⟩
theorem bJ.se {bs:List Nat} {A:y4} {b:Nat} (v:y5) (hb:b∉bs):bJ bs A (A.setCell ⟨b,0,J⟩ v):=
 bJ.grown (grownBy_setCell' A b v) (λa a=>by cases a;exact hb)
theorem bJ.put {bs:List Nat} {n:Nat} (c:∀ a∈bs,a<n) (W:y4) (l:Nat) (o a:Obj) (e:n<=l) (_:W.heap[l]?=M o) (_:o.isCells=false) (_:o.isWalk=false):bJ bs W (W.putObj l a):=
 bJ.grown (grownBy_putObj' W l a) (λb b d=>by cases b;have:=c _ d;omega)
theorem KeepsFrom.ext {B:Nat} {W W':y4} (a:d7 W W'):o6 B W W':=⟨a.size,λc d _ b _=>by rw[a.block c (aGq.1 b).1];exact b⟩
theorem KeepsFrom.se {B:Nat} (W:y4) (b:Nat) (v:y5):o6 B W (W.setCell ⟨b,0,J⟩ v):=(KeepsOthers.setCell W _ v).from B
def aEz {α:Type} (n:Nat) (P:o9) (g:Nat) (lb:Array y5) (encs:α->Array y5) (i:y4->y4->Prop) (S j:List α->Prop) (N q:Nat) (w:y4):Prop:=
 ∀ (l:Nat) (c e:List α->y4->Prop) (f:y4),Below w w f->pX q c->pX q e->
  (∀ a x h,c a h->a.length<N->YieldAt Fence.wide (n-1) P l (encs x) h λd b=>
   (d=zv (zx true)/\c (a++[x]) b/\i h b)\/(d=zv (zx false)/\e (a++[x]) b))->
  c [] f->
  CallsIn Fence.wide n P g (#[zy (.yield l) #[] #[]]++lb) f λd b=>(∃ h,d=zv h)/\((∃ d,S d/\c d b)\/(∃ a,j a/\e a b))
variable {P:o9}
def Xq (fn:FuncId) (tmps:Array y5) (b:Array Tmp) (assign body:Code) (D:Nat) (c:LoopState) (a:Option Code):Loop:=
 { state:=c,pending:=a,fn:=fn,tmps:=tmps,params:=b,assign:=assign,body:=body,defers:=D }
theorem An {α:Type} {n:Nat} {g:Operand} {X:Array Tmp} {assign body:Code} {Q:Exit->Act->y4->Prop} {a:Act} {w:y4} (h1:1<=n) {gf:Nat} {lb:Array y5} (hg:a.eval g=zy (.func gf) #[] lb)
  (eg:∀ args w,(i6 gf args).run P w=.ok (.enter gf args) w) {encs:α->Array y5} {v:y4->y4->Prop} {S Sp:List α->Prop} {N q:Nat} {w0:y4} (aq:aEz (n-1) P gf lb encs v S Sp N q w0)
  (a6:∀ {A B C:y4},v A B->v B C->v A C) (a5:∀ (W:y4) (l:Nat) (o o':Obj),w<=l->W.heap[l]?=M o->o.isCells=false->o.isWalk=false->v W (W.putObj l o'))
  (a7:Below w0 w0 w) (hq:q<w.heap.size) (ao:∀ x,(encs x).size=X.size)
  (k:List α->y4->Prop) (H:Code->List α->y4->Prop) (R:OwnFrom w k) (a2:∀ c,OwnFrom w (H c)) (ab:pX q k) (ac:∀ c,pX q (H c)) (h0:k [] w) (a₁:α->Act)
  (ad:∀ (l:Nat) (x:α) (W:y4) (K:Act->y4->Prop),K (a₁ x) W->
   assign.wpIn (Fence.wide.inRound l) (n-1-1) P (Exit.then K (λ_ _ _=>False)) { tmps:=(X.zip (encs x)).foldl (λt (b,a8)=>t.setIfInBounds b a8) a.tmps,defers:=[]} W)
  (af:∀ (l:Nat) (d:List α) (x:α) (W:y4),k d W->d.length<N->body.wpIn (Fence.wide.inRound l) (n-1-1) P (ownPostG w v k H (d++[x]) W) (a₁ x) W)
  (ag:∀ (D:Nat) (xs:List α) (W:y4),w<=D->S xs->k xs W->W.heap[D]?=M (.deferred (M []))->Q .normal { a with defers:={ target:=.collected D,args:=#[]}::a.defers } W)
  (ar:∀ (D:Nat) (c:Code) (d:List α) (W:y4),w<=D->Sp d->H c d W->W.heap[D]?=M (.deferred (M []))->c.wpIn Fence.wide n P Q { a with defers:={ target:=.collected D,args:=#[]}::a.defers } W) :
  (Code.rangeFunc g X assign body).wpIn Fence.wide n P Q a w:=by
 refine wpIn_rangeFunc (λf ah=>?_);obtain⟨D,hD⟩:∃ D,w.heap.size=D:=⟨_,rfl⟩
 let e:=Xq f a.tmps X assign body D
 let wd:=w.alloc (.deferred (M []))
 let u:=wd.alloc (.loop (e .ready J))
 have ap:wd.heap.size=D+1:=by simp[wd,hD]
 have hL:u.heap[D+1]?=M (.loop (e .ready J)):=by rw[<- ap];exact aGY wd _
 have a9:u.heap[D]?=M (.deferred (M [])):=(Below.heap_alloc _ _ _ (by omega)).trans (by rw[<- hD];exact aGY w _);have aa:k [] u:=R.alloc _ (R.alloc _ h0);have ae:Below w0 w0 u:=a7.trans ((((Below.refl _ w).alloc (aGi _) _).alloc (by simp) _).m a7.size);have aw:q<D:=by omega
 let a4:List α->y4->Prop:=λd W=>k d W/\W.heap[D+1]?=M (.loop (e .ready J))/\W.heap[D]?=M (.deferred (M []))
 let Jx:List α->y4->Prop:=λd W=>∃ c,H c d W/\W.heap[D+1]?=M (.loop (e .done (M c)))/\W.heap[D]?=M (.deferred (M []))
 have keep:∀ {A B:y4} {G:Option Nat} {a3:Nat} {o:Obj},A.grownBy B G->(∀ b,G=M b->b=q)->D<=a3->A.heap[a3]?=M o->B.heap[a3]?=M o:=λm b h ho=>
  (m.block _ (aGq.1 ho).1 (λa0=>by have:=b _ a0.symm;omega)).trans ho
 have tJ:pX q a4:=λs A B G L m b=>⟨ab s A B G L.1 m b,keep m b (by omega) L.2.1,keep m b (aGi _) L.2.2⟩;have au:pX q Jx:=λs A B G ⟨c,L,h2,h3⟩ m b=>⟨c,ac c s A B G L m b,keep m b (by omega) h2,keep m b (aGi _) h3⟩;refine⟨D+1,[{ target:=.collected D,args:=#[]}],u,{ target:=.fn (.func gf) lb,args:=#[zy (.yield (D+1)) #[] #[]]},u,gf,#[zy (.yield (D+1)) #[] #[]]++lb,u,?_,?_,λ_ _=>trivial,?_,λ_=>h1,?_⟩
 ·have:=run_enterLoop_outer (P:=P) (w:=w) f a.tmps X assign body;rw[hD] at this;exact this
 ·simp only[resolve,hg];simp[go_sem]
 ·simp[invoke,go_sem,eg]
 refine(aq (D+1) a4 Jx u ae tJ au (λd x W hJ hlen=>?_) ⟨aa,hL,a9⟩).mono ?_
 ·obtain⟨U,h,V⟩:=hJ;have am:D+1<W.heap.size:=(aGq.1 h).1;refine⟨f,_,assign,body,run_yield (P:=P) (args:=encs x) h (ao x),roundIn_of_wpIn ah (ad _ x W _ ⟨_,run_beginRound h rfl,?_⟩)⟩;obtain⟨p,T⟩:∃ p,W.putObj (D+1) (.loop { e .ready J with state:=.busy })=p:=⟨_,rfl⟩;have al:p.heap[D+1]?=M (.loop { e .ready J with state:=.busy }):=by rw[<- T];exact aGZ am
  have aj:p.heap[D]?=M (.deferred (M [])):=by rw[<- T];exact(aH0 (by omega)).trans V
  have an:v W p:=by rw[<- T];exact a5 _ _ _ _ (by omega) h rfl rfl
  have ai:k d p:=by rw[<- T];exact R.putObj _ U (by omega) h rfl
  show body.wpIn _ _ _ _ _ (W.putObj (D+1) (.loop { e .ready J with state:=.busy }));rw[T];refine wpIn_mono (af _ d x _ ai hlen) ?_;have a1:∀ (jump:Option Code) (i:y4),o6 w p i->
    ∃ r,(Instr.endRound (D+1) jump).run P i=.ok (zx jump.isNone) r/\r=i.putObj (D+1) (.loop (e (if jump.isNone then .ready else .done) jump))/\
     i.heap[D+1]?=M (.loop { e .ready J with state:=.busy })/\r.heap[D+1]?=M (.loop (e (if jump.isNone then .ready else .done) jump))/\r.heap[D]?=M (.deferred (M [])):=λjump i j=>by
   have f:=j.same _ _ (by omega) al rfl;exact⟨_,run_endRound (P:=P) jump f,rfl,f,aGZ (aGq.1 f).1,(aH0 (by omega)).trans (j.same _ _ (by omega) aj rfl)⟩
  rintro a0 av i F;cases a0 with
  | normal=>
   obtain⟨j,ak,y⟩:=F;obtain⟨r,b,rfl,f,E,z⟩:=a1 J i j;exact⟨_,_,b,.inl ⟨rfl,⟨R.putObj _ y (by omega) f rfl,E,z⟩,a6 (a6 an ak) (a5 _ _ _ _ (by omega) f rfl rfl)⟩⟩
  | ret=>
   obtain⟨j,y⟩:=F;obtain⟨r,b,rfl,f,E,z⟩:=a1 (M .ret) i j;exact⟨_,_,b,.inr ⟨rfl,.ret,(a2 _).putObj _ y (by omega) f rfl,E,z⟩⟩
  | exit id=>
   obtain⟨j,y⟩:=F;obtain⟨r,b,rfl,f,E,z⟩:=a1 (M (.exit id)) i j;exact⟨_,_,b,.inr ⟨rfl,.exit id,(a2 _).putObj _ y (by omega) f rfl,E,z⟩⟩
  | goto t=>
   obtain⟨j,y⟩:=F;obtain⟨r,b,rfl,f,E,z⟩:=a1 (M (.goto t)) i j;exact⟨_,_,b,.inr ⟨rfl,.goto t,(a2 _).putObj _ y (by omega) f rfl,E,z⟩⟩
  | panic f=>exact F.elim
  | outgrown=>exact F.elim
 rintro a0 p ⟨⟨a8,rfl⟩,(⟨xs,f,U,h,V⟩|⟨d,i,c,U,h,V⟩)⟩
 ·exact⟨J,_,run_endLoop (P:=P) h (by simp[e,Xq]),ag _ xs _ (by omega) f (R.putObj _ U (by omega) h rfl) ((aH0 (by omega)).trans V)⟩
 exact⟨M c,_,run_endLoop (P:=P) h (by simp[e,Xq]),ar _ c d _ (by omega) i ((a2 c).putObj _ U (by omega) h rfl) ((aH0 (by omega)).trans V)⟩
attribute [local go_sem] Oper.semAt_some
def kB (l:List Queue):Prop:=∀ a,a<l.length->Ka (par l a) a
def Iz (l:List Queue):Nat->Int->List Nat
 | 0,_=>[]
 | f+1,q=>if 0<=q then q.toNat::Iz l f (par l q.toNat) else[]
def cP (l:List Queue) (q:Int):List Nat:=Iz l (q+1).toNat q
theorem tZ {l:List Queue} {q:Int} (b:q<0):∀ a,Iz l a q=[]
 | 0=>rfl
 | a+1=>by simp only[Iz];rw[d8 (by omega)]
theorem Mx {l:List Queue} (c:kB l):∀ (f g:Nat) (q:Int),q<l.length->q<f->q<g->Iz l f q=Iz l g q
 | 0,g,q,_,d,_=>by rw[tZ (by omega),tZ (by omega)]
 | f+1,0,q,_,_,h2=>by rw[tZ (by omega),tZ (by omega)]
 | f+1,g+1,q,h0,d,h2=>by
  simp only[Iz];by_cases a:0<=q
  ·rw[c7 a,c7 a];have b:=c q.toNat (by omega);rw[Mx c f g (par l q.toNat) (by have:=b.2;omega) (by have:=b.2;omega) (by have:=b.2;omega)]
  rw[d8 a,d8 a]
theorem oX {l:List Queue} {q:Int} (a:q<0):cP l q=[]:=tZ a _
theorem iO {l:List Queue} (b:kB l) {k:Nat} (c:k<l.length):cP l (k:Int)=k::cP l (par l k):=by
 have a:=b k c;unfold cP;rw[show ((k:Int)+1).toNat=k+1 by omega];simp only[Iz];rw[c7 (by omega),aGK];rw[Mx b k ((par l k)+1).toNat (par l k) (by have:=a.2;omega) a.2 (by omega)]
theorem xJ {l:List Queue} (d:kB l):∀ (n:Nat) (q:Int),q<n->q<l.length->∀ k∈cP l q,k<l.length/\(k:Int)<=q
 | n,q,e,g,k,a=>by
  by_cases f:q<0
  ·rw[oX f] at a;cases a
  obtain⟨b,rfl⟩:∃ b:Nat,q=b:=⟨q.toNat,by omega⟩;rw[iO d (by omega)] at a;rcases aH1.1 a with rfl|a
  ·exact⟨by omega,aGh _⟩
  have c:=d b (by omega)
  match n,e with
  | n+1,e=>
   have:=xJ d n (par l b) (by have:=c.2;omega) (by have:=c.2;omega) k a;exact⟨this.1,by have:=c.2;omega⟩
theorem Rz {l:List Queue} (c:kB l):∀ (n:Nat) (q:Int),q<n->q<l.length->(cP l q).length<=(q+1).toNat
 | n,q,d,f=>by
  by_cases e:q<0
  ·rw[oX e];simp
  obtain⟨a,rfl⟩:∃ a:Nat,q=a:=⟨q.toNat,by omega⟩;rw[iO c (by omega)];have b:=c a (by omega)
  match n,d with
  | n+1,d=>
   have:=Rz c n (par l a) (by have:=b.2;omega) (by have:=b.2;omega);have:=b.2;simp only[aGt];omega
def aB5 (B:Nat) (W:y4):Int:=match W ⟨B,0,J⟩ with|some (.int _ x)=>x|_=>0
theorem Te {W:y4} {B:Nat} {t:o8} {k:x8} {x:Int} (a:s9 W B t (.int k x)):aB5 B W=x:=by unfold aB5;rw[a.cell]
theorem aBa (w:y4) (a:Option Addr) (b cap:Nat) (q:Int) :
  y8 prog 150 #[O a b cap,q] w λc w'=>c=zv (zy (.func 205) #[] #[zz (M ⟨w+1,0,J⟩),zz (M ⟨w,0,J⟩)])/\w'=(w.alloc (zt #[O a b cap] 27)).alloc (zt #[q] 3):=by
 go_enter func150,ntmps150;go_wp2;go_ret;exact⟨rfl,rfl⟩
theorem aFE (n:Nat) (hn:1<=n) (y f d b m cap:Nat) (l:List Queue) (q:Int) (a5:f≠d) (a6:b≠d) (z:kB l) (a8:-1<=q) (a9:q<l.length) (af:l.length<=17592186044416)
  (i F:List (Fin l.length)->y4->Prop) (tJ:pX d i)
  (hY:∀ c x W,i c W->c.length<(cP l q).length->YieldAt Fence.wide (n-1) prog y #[Y Z (x.1:Int)] W λe g=>
   (e=zv (zx true)/\i (c++[x]) g/\bJ [f,d,b] W g)\/(e=zv (zx false)/\F (c++[x]) g))
  (W:y4) (p:s9 W f 27 (O (M ⟨b,m,J⟩) l.length cap)) (a0:s9 W d 3 (Y Z q)) (hb:b<W.heap.size) (G:∀ k x,l[k]?=M x->W ⟨b,m+k*3+1,J⟩=M (Y Z x.R)) (U:i [] W) :
  CallsIn Fence.wide n prog 205 #[zy (.yield y) #[] #[],zz (M ⟨d,0,J⟩),zz (M ⟨f,0,J⟩)] W λe g=>(∃ h,e=zv h)/\
   ((∃ h,h.map (·.1)=cP l q/\i h g)\/(∃ c,c.map (·.1) <+: cP l q/\F c g)):=by
 refine callsIn_of_wp func205 rfl trivial ?_ rfl;simp only[ntmps205,aH2,aGt,aGu,aH3,aH4,aH5,aH6,aH7,aH8,aH9,aGd];have Q:=I G;clear G;gi_wp2;gi_loopw [] (λwr=>∃ (c:List (Fin l.length)) (g:Int),s9 wr d 3 (Y Z g)/\-1<=g/\g<l.length/\Hid (c.map (·.1)++cP l g=cP l q)/\i c wr/\bJ [f,b] W wr)
  (λwr=>(aB5 d wr+1).toNat)
 case atStart=>exact⟨[],q,a0,a8,a9,I rfl,U,bJ.rf _ _⟩
 case round=>
  obtain⟨c,g,r,ah,ai,o,K,L⟩:=hrel;have a4:=r.cell;have V:s9 wr f 27 (O (M ⟨b,m,J⟩) l.length cap):=(L.same f (by simp) p.lt).trans p;have a3:=V.cell;by_cases u:0<=g
  ·obtain⟨k,rfl⟩:∃ k:Nat,g=k:=⟨g.toNat,by omega⟩;have h:k<l.length:=by omega
   have hlen:c.length<(cP l q).length:=by
    rw[<- o.o,iO z h];simp
   obtain⟨x,B⟩:=Pv (l:=l) (k:=k) h;obtain⟨_,t,_⟩:=fS B;have H:=Q k x B;have P:=z k h;rw[t] at P;obtain⟨a7,ag⟩:=P;have E:=I (show (c++[(⟨k,h⟩:Fin l.length)]).map (·.1)++cP l x.R=cP l q from by
    rw[<- o.o,iO z h,t];simp)
   obtain⟨fn,ak,assign,body,C,hR⟩:=hY c ⟨k,h⟩ wr K hlen;dsimp only at C;clear B t o;gi_wp2;refine hR.mono ?_;rintro e j (⟨rfl,a1,w⟩|⟨rfl,a2⟩)
   ·have v:bJ [f,b] W j:=L.r ⟨w.size,λaa N hl=>w.same aa (by simp only[aH1,aHa,or_false] at N ⊢;rcases N with rfl|rfl <;> simp) hl⟩;have X:s9 j f 27 (O (M ⟨b,m,J⟩) l.length cap):=(v.same f (by simp) p.lt).trans p;have s:s9 j d 3 (Y Z (k:Int)):=(w.same d (by simp) r.lt).trans r;have ab:j ⟨b,m+k*3+1,J⟩=M (Y Z x.R):=by
     rw[<- H];exact World.cell?_of_block (a:=⟨b,m+k*3+1,J⟩) (v.same b (by simp) hb)
    have ac:=X.cell;have ad:=s.cell;have ae:=s.frozen;obtain⟨D,R,S,T⟩:=zp (s.set (Y Z x.R)) (tJ _ _ _ _ a1 (grownBy_setCell' j d (Y Z x.R)) (λaj e=>(b7 e).symm)) (v.r (bJ.se (A:=j) (b:=d) (Y Z x.R) (by simp;exact⟨λe=>a5 e.symm,λe=>a6 e.symm⟩))) (Te r);clear H a3 a4 C;gi_wp2;go_roundw;exact⟨c++[⟨k,h⟩],x.R,D.o,a7,by omega,E,R.o,S.o⟩;rw[Te D.o,T.o];omega
   have s:=I (show (c++[(⟨k,h⟩:Fin l.length)]).map (·.1) <+: cP l q from ⟨_,E⟩);clear C;gi_wp2;go_end0;exact⟨⟨_,rfl⟩,.inr ⟨_,s,a2⟩⟩
  have s:=I (by rw[<- o.o,oX (by omega)];simp:c.map (·.1)=cP l q);have e:g<0:=by omega
  clear u;gi_wp2;refine⟨λ_ u=>(by cases u),?_⟩;gi_wp2;go_end0;exact⟨⟨_,rfl⟩,.inl ⟨_,s,K⟩⟩
theorem aFD (n:Nat) (t:1<=n) (c a b f cap:Nat) (l:List Queue) (q:Int) (u:c≠a) (v:b≠a) (y:kB l) (z:-1<=q) (A:q<l.length) (s:l.length<=17592186044416)
  (w:y4) (g:s9 w c 27 (O (M ⟨b,f,J⟩) l.length cap)) (h:s9 w a 3 (Y Z q)) (hb:b<w.heap.size) (o:∀ d x,l[d]?=M x->w ⟨b,f+d*3+1,J⟩=M (Y Z x.R)) :
  aEz n prog 205 #[zz (M ⟨a,0,J⟩),zz (M ⟨c,0,J⟩)] (λx:Fin l.length=>#[Y .i64 (x.1:Int)]) (bJ [c,a,b]) (λe=>e.map (·.1)=cP l q) (λe=>e.map (·.1) <+: cP l q) (cP l q).length a w:=
 λC i j k e B _ r m=>aFE n t C c a b f cap l q u v y z A s i j B r k ((e.block c g.lt).trans g) ((e.block a h.lt).trans h) (aGs hb e.size)
  (λd x i=>(e.cell (p:=⟨b,f+d*3+1,J⟩) hb).trans (o d x i)) m
attribute [local go_sem] Oper.semAt_some
def Xz (l:List Nat):List y5:=l.map λa:Nat=>Y Z (a:Int)
theorem Rt (l:List Nat) (k:Nat):Xz (l++[k])=Xz l++[Y Z (k:Int)]:=by simp[Xz]
theorem Dv {w:y4} {base e:Nat} {v:y5} {xs:List Nat} (j:w.ownsRow base e 1 v xs.length (Xz xs)) (l:∀ x∈xs,x<=17592186044416) (m:xs.length<=17592186044416):fY w v (xs.map λk:Nat=>(k:Int)):=by
 obtain⟨r,f⟩:=j;rcases f with ⟨rfl,f⟩|⟨b,i,q,rfl,s,h,o,n,u,p⟩
 ·obtain rfl:=aGv f;exact .inl ⟨rfl,J,0,rfl,by omega⟩
 refine .inr ⟨b,0,i,by simp,by simpa using o,n,by simpa using m,(aGq.1 h).1,λk x a=>?_⟩;rw[List.getElem?_map] at a;cases c:xs[k]? with
 | none=>rw[c] at a;cases a
 | some g=>
  rw[c] at a;obtain rfl:(g:Int)=x:=by simpa using a
  have t:k<xs.length:=(aGw.1 c).1;have d:(Xz xs)[k]?=M (Y Z (g:Int)):=by simp[Xz,c]
  rw[<- p,aGA] at d;refine⟨?_,I64.of (by omega) (by have:=l g (aGC c);omega)⟩;simp only[aGy,h,aGz,Bool.false_eq_true,if_false];split at d
  ·simpa using d
  cases d
structure Zu (w:y4) (Bl Bq b off cap:Nat) (l:List Queue) (q:Int):Prop where
 ne1:Bl≠Bq
 ne2:b≠Bq
 pars:kB l
 q1:-1<=q
 q2:q<l.length
 l5:l.length<=5
 boxL:s9 w Bl 27 (O (M ⟨b,off,J⟩) l.length cap)
 boxQ:s9 w Bq 3 (Y Z q)
 hb:b<w.heap.size
 cells:∀ k x,l[k]?=M x->w ⟨b,off+k*3+1,J⟩=M (Y Z x.R)
theorem Zu.e {w w':y4} {d e b f cap:Nat} {l:List Queue} {q:Int} (a:Zu w d e b f cap l q) (c:d7 w w'):Zu w' d e b f cap l q:=
 { a with boxL:=(c.block d a.boxL.lt).trans a.boxL,boxQ:=(c.block e a.boxQ.lt).trans a.boxQ,hb:=aGs a.hb c.size,cells:=λh x g=>c.c (a.cells h x g)}
theorem Zu.seq {w:y4} {d c b e cap:Nat} {l:List Queue} {q:Int} (a:Zu w d c b e cap l q) (n:Nat) (f:1<=n) :
  aEz n prog 205 #[zz (M ⟨c,0,J⟩),zz (M ⟨d,0,J⟩)] (λx:Fin l.length=>#[Y .i64 (x.1:Int)]) (bJ [d,c,b]) (λg=>g.map (·.1)=cP l q) (λg=>g.map (·.1) <+: cP l q) (cP l q).length c w:=
 aFD n f d c b e cap l q a.ne1 a.ne2 a.pars a.q1 a.q2 (by have:=a.l5;omega) w a.boxL a.boxQ a.hb a.cells
theorem Zu.lt {w:y4} {c d b g cap:Nat} {l:List Queue} {q:Int} (a:Zu w c d b g cap l q):∀ f∈[c,d,b],f<w.heap.size:=by
 intro f e;simp only[aH1,aHa,or_false] at e;rcases e with rfl|rfl|rfl
 ·exact a.boxL.lt
 ·exact a.boxQ.lt
 exact a.hb
theorem rK {l:List Queue} {q:Int} (b:kB l) (a:q<l.length) (c:l.length<=5):(cP l q).length<=5:=by
 have:=Rz b l.length q (by omega) a;omega
theorem info3:(prog.info? 3).map (λa=>(a.zero,a.size,a.bytes))=M (M (Y Z 0),1,8):=by kernel_rfl
theorem zW {n:Nat} {p:Nat->Bool} (b:(List.range n).any p=false):∀ a,a<n->p a=false:=λa c=>by
 have:=aGU.1 b a (aGN.2 c);simpa using this
structure cQ (l:List Queue):Prop where
 n1:1<=l.length
 n5:l.length<=5
 names:∀ k,k<l.length->kC (nm l k)
 diff:∀ i k,i<k->k<l.length->nm l i≠nm l k
 pars:kB l
 caps:∀ k,k<l.length->eB (cp l k)
theorem gG {l:List Queue} (a:aT l=0):cQ l:=by
 unfold aT at a;by_cases g:¬ (1<=l.length/\l.length<=5)
 ·rw[c7 g] at a;omega
 rw[d8 g] at a;by_cases d:(List.range l.length).any (p2 l)=true
 ·rw[c7 d] at a;omega
 rw[d8 d] at a;by_cases e:(List.range l.length).any (p3 l)=true
 ·rw[c7 e] at a;omega
 rw[d8 e] at a;by_cases f:(List.range l.length).any (p4 l)=true
 ·rw[c7 f] at a;omega
 rw[d8 f] at a;by_cases h:(List.range l.length).any (p5 l)=true
 ·rw[c7 h] at a;omega
 have j:=zW (Bool.eq_false_iff.2 d);have k:=zW (Bool.eq_false_iff.2 e);have m:=zW (Bool.eq_false_iff.2 f);have n:=zW (Bool.eq_false_iff.2 h);exact{
  n1:=by omega
  n5:=by omega
  names:=λc b=>Classical.byContradiction λa=>by have:=j c b;unfold p2 at this;exact of_decide_eq_false this a
  diff:=λi c o b i=>by have:=k c b;rw[aBJ o i] at this;cases this
  pars:=λc b=>Classical.byContradiction λa=>by have:=m c b;unfold p4 at this;rw[deF a] at this;cases this
  caps:=λc b=>Classical.byContradiction λa=>by have:=n c b;unfold p5 at this;exact of_decide_eq_false this a }
theorem Zo (l:List Queue):0<=aT l/\aT l<=5:=by
 unfold aT;repeat' split
 all_goals omega
theorem jB {w:y4} {v:y5} {l:List Queue} (i:aK w v l) (e:1<=l.length):∃ b c a,v=O (M ⟨b,c,J⟩) l.length a/\l.length<=a/\a<=9223372036854775807/\b<w.heap.size/\∀ d x,l[d]?=M x->dG w b (c+d*3) x:=by
 rcases i with ⟨rfl,_⟩|⟨b,c,a,rfl,d,f,j,g,h⟩
 ·simp at e
 exact⟨b,c,a,rfl,d,f,g,h⟩
theorem Lf (w:y4) (b a cap:Nat) (l:List Queue) (q:Int) (h:kB l) (i:-1<=q) (j:q<l.length) (e:l.length<=5) (hb:b<w.heap.size) (f:∀ c x,l[c]?=M x->dG w b (a+c*3) x) :
  Zu ((w.alloc (zt #[O (M ⟨b,a,J⟩) l.length cap] 27)).alloc (zt #[q] 3)) w (w+1) b a cap l q:=by
 have d:=((b8 w).a (zt #[O (M ⟨b,a,J⟩) l.length cap] 27)).a (zt #[q] 3);refine{ ne1:=by omega,ne2:=by omega,pars:=h,q1:=i,q2:=j,l5:=e,boxL:=(Boxed.new w _ _).alloc _,boxQ:=?_,hb:=aGs hb d.size,cells:=λc x g=>?_ }
 ·have:=Boxed.new (w.alloc (zt #[O (M ⟨b,a,J⟩) l.length cap] 27)) 3 (Y Z q);rwa [aHb] at this
 exact d.c (f c x g).2.2.1
theorem Ry {l:List Queue} {q:Int} (b:kB l) (a:q<l.length) (c:l.length<=5):(∀ x∈cP l q,x<=17592186044416)/\(cP l q).length<=17592186044416:=
 ⟨λx d=>by have:=xJ b l.length q (by omega) a x d;omega,by have:=rK b a c;omega⟩
theorem aAw (k:x8) (a:Int):∀ b∈[Y k a],b.oneCell'=true:=by simp[aGr]
theorem wN (W:y4) {B:Nat} (c:B=W.heap.size) (a:y5) (t:o8):∀ (j:Nat) b,[a][j]?=M b->(W.alloc (zt #[a] t)) ((⟨B,0,J⟩:Addr).add j)=M b:=by
 subst c;exact cell_one_new W a t
theorem aBk (w:y4) (v:y5) (l:List Queue) (q:Int) (A:aK w v l) (f:kB l) (r:l.length<=5) (a6:0<=q) (z:q<l.length) :
  y8 prog 168 #[v,q] w λa w'=>∃ v,a=zv v/\fY w' v ((cP l q).map λk:Nat=>(k:Int))/\d7 w w':=by
 obtain⟨N,P,Q,R,S⟩:=s8 info3;obtain⟨b,aa,T,rfl,a0,X,V,s⟩:=jB A (by omega);have o:=I (Ry f z r);have a2:=rK f z r;obtain⟨i,m⟩:=zr f s;clear A f s;generalize t:l.length=n at *;have E:=I t;clear t;go_enter func168,ntmps168;go_wp2;go_loopw [1,5] (λc v wr=>∃ (a:List Nat) (x:Int),c=Y Z x/\-1<=x/\x<n/\Hid (a++cP l x=cP l q)/\Hid (wr.ownsRow w 3 1 v a.length (Xz a))/\d7 w wr) (λc _ _=>(intOf c+1).toNat);exact⟨[],q,rfl,by omega,by omega,I rfl,aGQ _ _ _ _,b8 _⟩;obtain⟨a,x,rfl,a8,a9,d,p,g⟩:=hrel;have hlen:a.length+(cP l x).length=(cP l q).length:=by rw[<- d.o,aGb]
 have a7:=g.size;by_cases U:0<=x
 ·obtain⟨k,rfl⟩:∃ k:Nat,x=k:=⟨x.toNat,by omega⟩;have e:k<l.length:=by rw[E.o];omega
  obtain⟨c,h⟩:=Pv (l:=l) (k:=k) e;obtain⟨_,j,_⟩:=fS h;have y:=i k e;rw[j] at y;obtain⟨L,a4⟩:=y;have C:=I (by rw[<- d.o,iO i.o e,j];simp:(a++[k])++cP l c.R=cP l q);have a1:=(dG.m w wr b _ c g (m k c h)).2.2.1;have a5:a.length+1<=5:=by
   have:1<=(cP l (k:Int)).length:=by rw[iO i.o e];simp
   omega
  have u:=p.o;have W:b<wr.heap.size:=by omega
  have D:=I h;clear j h d hlen;go_wp2_with (at_builtin;refine r6 _ rfl _ _ 74 rfl w 3 N _ 1 8 underlying74 P Q R S rfl (by decide) _ _ _ rfl (u.alloc _) ⟨wr,0,J⟩ 1 1 [Y Z (k:Int)] rfl rfl (wN _ rfl _ _) (aAw _ _) (by unfold o0;omega) (by omega) (by simp;omega) ?_);intro v2 F K G a3;have B:=(g.a (zt #[Y Z (k:Int)] 3)).gr G (λk H=>bN u k H);have H:=(dG.m w F b _ c B (m k c D)).2.2.1;go_wp2;go_roundw;exact⟨a++[k],c.R,rfl,L,by omega,C,I (by rw[Rt,aGb];exact K),B⟩;simp[intOf];omega
 have c:=I (by rw[<- d.o,oX (by omega),aG9]:a=cP l q);clear d;go_wp2;go_ret;refine⟨_,rfl,Dv (by rw[<- c.o];exact p) o.1 o.2,g⟩
attribute [local go_sem] Oper.semAt_some
def under (l:List Queue) (k q:Int):Bool:=((cP l k).map λa:Nat=>(a:Int)).contains q
theorem Fm {l:List Queue} {k q:Int}:under l k q=true↔∃ j∈cP l k,(j:Int)=q:=by
 unfold under;rw[aHc,aHd]
theorem aDE {l:List Queue} {k q:Int} (a:∀ j∈cP l k,(j:Int)≠q):under l k q=false:=by
 rw[Bool.eq_false_iff];intro b;obtain⟨j,c,d⟩:=Fm.1 b;exact a j c d
theorem aAb (w:y4) (v:y5) (l:List Queue) (k q:Int) (T:aK w v l) (hp:kB l) (h5:l.length<=5) (ad:0<=k) (a7:k<l.length) :
  y8 prog 241 #[v,k,q] w λa w'=>a=zv (zx (under l k q))/\d7 w w':=by
 obtain⟨b,u,m,rfl,ac,ab,Q,P⟩:=jB T (by omega);refine(callsIn_wide (n:=3)).1 ?_;refine callsIn_of_wp_marks func241 rfl trivial ?_ rfl;simp only[ntmps241,aH2,aGt,aGu,aH3,aH4,aH5,aH6,aH7,aH8,aH9,aGd];obtain⟨e,t⟩:∃ e,(w.alloc (zt #[q] 3)).alloc (zt #[zx false] 4)=e:=⟨_,rfl⟩;have C:d7 w e:=by rw[<- t];exact((b8 w).a _).a _
 have a8:e.heap.size=w.heap.size+1+1:=by rw[<- t];simp
 have H:s9 e w 3 (Y Z q):=by rw[<- t];exact(Boxed.new w _ _).alloc _
 have L:s9 e (w+1) 4 (zx false):=by
  rw[<- t];have:=Boxed.new (w.alloc (zt #[q] 3)) 4 (zx false);rwa [aHb] at this
 have D:=Lf e b u m l k hp (by omega) a7 h5 (aGs Q C.size) (λk x hk=>dG.m w e b _ x C (P k x hk));have S:=D.lt;have aa:b<w.heap.size:=Q;have U:=(C.a (zt #[O (M ⟨b,u,J⟩) l.length m] 27)).a (zt #[k] 3);have K:=(H.alloc (zt #[O (M ⟨b,u,J⟩) l.length m] 27)).alloc (zt #[k] 3);have N:=(L.alloc (zt #[O (M ⟨b,u,J⟩) l.length m] 27)).alloc (zt #[k] 3);have ae:w.heap.size+1<e.heap.size:=by omega
 obtain⟨HU,a1,a4,W,X,a3,a0⟩:=zj D S U K N t (λ(d:y4)=>aBa d (M ⟨b,u,J⟩) l.length m k);clear T P D S U K N H L t a8 C;gi_wp2;refine⟨trivial,(callsIn_wide.2 (a0 _)).mono ?_⟩;rintro a w' ⟨rfl,rfl⟩;rw[a3.o];gi_wp2;refine An (by omega) (gf:=205) (lb:=#[zz (M ⟨e+1,0,J⟩),zz (M ⟨e,0,J⟩)]) rfl (enters_of func205 (by kernel_rfl) rfl)
  (HU.seq _ (by omega)) (λz k=>z.r k) (bJ.put a1) (Below.refl _ _) (by simp) (λ_=>rfl)
  (λy d=>(∀ c∈y,(c.1:Int)≠q)/\(s9 d w 3 (Y Z q)/\s9 d (w+1) 4 (zx false))/\Below w w d)
  (λA y d=>(A=.ret/\∃ c∈y,(c.1:Int)=q)/\s9 d (w+1) 4 (zx true)/\Below w w d)
  (OwnFrom.and (ownFrom_pure _ _) (OwnFrom.and (OwnFrom.and (Own.from (boxed_own _ _ _) _) (Own.from (boxed_own _ _ _) _)) (ownFrom_below (aGi _) (by simp;omega))))
  (λA=>OwnFrom.and (ownFrom_pure _ _) (OwnFrom.and (Own.from (boxed_own _ _ _) _) (ownFrom_below (aGi _) (by simp;omega))))
  (λs j B o f g h=>⟨f.1,⟨f.2.1.1.kept g (λa=>by have:=h _ a.symm;omega),f.2.1.2.kept g (λa=>by have:=h _ a.symm;omega)⟩,f.2.2.grown g f.2.2.size (λk a=>by rw[h k a];omega)⟩)
  (λA s j B o f g h=>⟨f.1,f.2.1.kept g (λa=>by have:=h _ a.symm;omega),f.2.2.grown g f.2.2.size (λk a=>by rw[h k a];omega)⟩)
  ⟨(λc i=>by cases i),⟨W.o,X⟩,a4⟩
  ?a1 ?assign ?body ?done ?stop
 case assign=>
  intro c x d f h;gi_wp2;exact h
 case body=>
  rintro c y x d ⟨r,⟨F,f⟩,o⟩ hlen;have R:=F.cell;have a5:=f.cell;have a6:=f.frozen;by_cases j:(x.1:Int)=q
  ·have E:=I j;have G:=eqT j;have g:=I (And.intro (KeepsFrom.se (B:=((e.alloc (zt #[O (M ⟨b,u,J⟩) l.length m] 27)).alloc (zt #[k] 3)).heap.size) d (w+1) (zx true)) (And.intro (f.set (zx true)) (o.setCell (p:=⟨w+1,0,J⟩) (aHe _) (zx true))));clear j r;gi_wp2;exact⟨g.1,⟨rfl,x,aGe.2 (.inr (by simp)),E⟩,g.2.1,g.2.2⟩
  have G:=eqF j;have E:=I (show ∀ c∈y++[x],(c.1:Int)≠q from λc i=>by
   rcases aGe.1 i with z|z
   ·exact r c z
   rw[aHf.1 z];exact j)
  clear j r;gi_wp2;exact⟨KeepsFrom.refl _ _,bJ.rf _ _,E,⟨F,f⟩,o⟩
 case done=>
  rintro j ys d z V ⟨r,⟨F,f⟩,o⟩ h;have a5:=f.cell;have a6:=f.frozen;have a2:=I (show under l k q=false from aDE (λE R=>by
   rw[<- V] at R;obtain⟨c,i,rfl⟩:=aHd.1 R;exact r c i))
  have E:=(KeepsOthers.setCell d ⟨w+1,0,J⟩ (zx false)).same j _ h rfl;have G:=cell_kept ((f.set (zx false)).cell) (grownBy_putObj' _ j (.deferred J)) (λa9 a=>by cases a;exact⟨_,E,rfl⟩);have g:=I ((o.setCell (p:=⟨w+1,0,J⟩) (aHe _) (zx false)).trans (belowK_b (w:=w) (aGi _) _ j _ (.deferred J) (by simp at z;omega) E rfl rfl));clear r V;gi_wp2;refine⟨by simp,.inl ⟨_,_,rfl,m7 E,?_⟩⟩;refine⟨zx false,?_,by rw[a2.o],g⟩;simp[results,Tryz.f241,go_sem,G]
 case stop=>
  rintro j A y d z hpre ⟨⟨rfl,c,i,r⟩,f,o⟩ h;have E:=I (show under l k q=true from Fm.2 ⟨c.1,hpre.subset (aHd.2 ⟨c,i,rfl⟩),r⟩);have G:=cell_kept f.cell (grownBy_putObj' _ j (.deferred J)) (λa9 a=>by cases a;exact⟨_,h,rfl⟩);have g:=I (o.trans (belowK_b (w:=w) (aGi _) _ j _ (.deferred J) (by simp at z;omega) h rfl rfl));clear hpre r;gi_wp2;refine⟨by simp,.inl ⟨_,_,rfl,m7 h,?_⟩⟩;refine⟨zx true,?_,by rw[E.o],g⟩;simp[results,Tryz.f241,go_sem,G]
theorem Ju (w:y4) (v:y5) (l:List Queue) (k q:Int) (j:aK w v l) (U:kB l) (P:l.length<=5) (Q:0<=k) (R:k<l.length) :
  y8 prog 166 #[v,k,q] w λp w'=>p=zv (zx (under l k q))/\d7 w w':=by
 have C:=I (aBk w v l k j U P Q R);obtain⟨W,K,rfl,_,_,hl⟩:=j.i;clear j;generalize l.length=n at *;go_enter func166,ntmps166;go_wp2_with fail;refine C.m ?_;rintro p E ⟨v,rfl,j,u⟩;rcases j with ⟨B,X,c0,rfl,a0⟩|⟨b,a1,K,rfl,L,h2,N,h4,s⟩
 ·have h:=I (by unfold under;rw[B];rfl:under l k q=false);clear B;go_wp2;go_loopw [8] (λe wr=>e=Y Z 0/\wr=E) (λ_ _=>0);exact⟨rfl,rfl⟩;obtain⟨rfl,rfl⟩:=hrel;go_wp2;go_ret;exact⟨fT h.symm,u⟩
 obtain⟨d,t⟩:∃ d,((cP l k).map λc:Nat=>(c:Int))=d:=⟨_,rfl⟩;rw[t] at L N s ⊢;obtain⟨A,F⟩:=zr (by unfold under;rw[t]:under l k q=d.contains q) s;clear s t;generalize D:d.length=g at *;have z:=I D;clear D;go_wp2;go_loopw [8] (λe wr=>∃ a:Nat,e=Y Z a/\a<=g/\Hid (∀ c x,c<a->d[c]?=M x->x≠q)/\wr=E) (λe _=>g-(intOf e).toNat);exact⟨0,rfl,by omega,λc x i=>absurd i (aGf _),rfl⟩;obtain⟨a,rfl,hi,o,rfl⟩:=hrel;by_cases S:a<g
 ·have T:=z7 a g;obtain⟨x,m⟩:=aV (f:=d) (k:=a) (by rw[z.o];exact S);have H:=(F a x m).1;rw[aGP] at H;by_cases e:x=q
  ·have V:=eqT e;have h:=I (by rw[A.o,aHc,<- e];exact aGC m:under l k q=true);clear e m;go_wp2;go_ret;exact⟨fT h.symm,u⟩
  have V:=eqF e;have G:=I (show ∀ c r,c<a+1->d[c]?=M r->r≠q from λc r i y=>by
   by_cases p:c=a
   ·subst p;rw[m] at y;rw[<- b7 y];exact e
   exact o c r (by omega) y)
  clear e m o;go_wp2;go_roundw;exact⟨a+1,by go_num,by omega,G,trivial⟩;simp[intOf];omega
 have T:=z8 a g;obtain rfl:a=g:=by omega
 have h:=I (show under l k q=false from by
  rw[A.o,Bool.eq_false_iff];intro e;obtain⟨c,i,m⟩:=aGX (aHc.1 e);exact o c q (by rw[<- z.o];exact i) (by rw[aGm i,m]) rfl)
 clear o;go_wp2;go_ret;exact⟨fT h.symm,u⟩
section
variable {P:o9} {ops:Array n7} {Q:Exit->Act->y4->Prop} {md:Region.Mode}
def tW (ops:Array n7):Bool:=ops.all λa=>match a.op with|.defer _=>false|_=>true
theorem Uq (c:tW ops=true) {i:Nat} {o:n7} (b:ops[i]?=M o):∀ a,o.op≠.defer a:=by
 intro a d;have:=Array.all_eq_true.1 c i (aGq.1 b).1;rw[(aGq.1 b).2,d] at this;cases this
theorem Lc {n l i:Nat} (m:tW ops=true) (hQ:¬ LetsOut Q) {K:Act->y4->Prop} {a:Act} {w:y4} (b:wpOp P ops Q i K a w):wpOpIn (Fence.wide.inRound l) n P ops Q i K a w:=by
 unfold wpOp at b;unfold Go.wpOpIn;cases d:ops[i]? with
 | none=>simpa only[d] using b
 | some o=>
  simp only[d] at b ⊢;split
  ·rename_i e
   rw[c7 e] at b;rcases b with b|⟨_,b⟩
   ·unfold Oper.wp at b;unfold Oper.wpIn;refine⟨λg _=>trivial,?_⟩;rw[Oper.semAt_eq _ _ _ (Uq m d)];generalize (execOp a.eval o).run P w=f at *;cases f with
    | ok x w'=>
     cases x <;> simp only[Oper.upon] at b <;> simp only[Oper.uponIn]
     case value h=>exact b
     case skip=>exact b
     case defer p=>exact b
     case enter g args=>exact⟨λc=>(by cases c),CallsIn.inRound l (callsIn_wide.2 b)⟩
     case row row args=>
      refine⟨λc=>(by cases c),λj k _=>?_⟩;obtain⟨h,w',f,s⟩:=b j k;exact⟨h,w',f,stepsIn_wide.2 s⟩
    | halt x w'=>cases x <;> simp only[Oper.upon] at b <;> simp only[Oper.uponIn] <;> exact b
   exact absurd b hQ
  rename_i e
  rw[d8 e] at b;exact⟨λg _=>trivial,b⟩
theorem lY {n l:Nat} (c:tW ops=true) (hQ:¬ LetsOut Q):∀ (fuel:Nat) (listed:Array Bool) (a:Act) (w:y4),wpAny P md ops Q fuel listed a w->wpAnyIn (Fence.wide.inRound l) n P md ops Q fuel listed a w
 | 0,_,_,_,b=>b
 | fuel+1,_,_,_,b=>⟨b.1,λg f=>wpOpIn_mono (λd w' e=>lY c hQ fuel _ d w' e) (Lc c hQ (b.2 g f))⟩
theorem Kd {S:y4->Prop} {n l id:Nat} {a:Act} {w:y4} (d:y4->Prop) (i:P.follows .mixedOrders=true) (g:tW ops=true) (f:∀ e w',d w'->Q .normal e w')
  (b:wpAnyH P .any ops (λc _ w'=>c=.normal/\d w') S ops.size (Array.replicate ops.size false) a w.drew):(Code.region id ops true).wpIn (Fence.wide.inRound l) n P Q a w:=by
 refine wpIn_mono (Q:=λc _ w'=>c=.normal/\d w') (wpIn_region_any i (lY g (λb=>by obtain⟨_,_,b,_⟩:=b;cases b) _ _ _ _ (wpAny_of_held _ _ _ _ b))) ?_;rintro c e w' ⟨rfl,h⟩;exact f e w' h
theorem tO {S:y4->Prop} {n l id:Nat} {a:Act} {w:y4} (e:Act->y4->Prop) (i:P.follows .mixedOrders=true) (g:tW ops=true) (f:∀ b w',e b w'->Q .normal b w')
  (c:wpAnyH P .any ops (λd b w'=>d=.normal/\e b w') S ops.size (Array.replicate ops.size false) a w.drew):(Code.region id ops true).wpIn (Fence.wide.inRound l) n P Q a w:=by
 refine wpIn_mono (Q:=λd b w'=>d=.normal/\e b w') (wpIn_region_any i (lY g (λc=>by obtain⟨_,_,c,_⟩:=c;cases c) _ _ _ _ (wpAny_of_held _ _ _ _ c))) ?_;rintro d b w' ⟨rfl,h⟩;exact f b w' h
end
section
variable {P:o9} {ops:Array n7} {Q:Exit->Act->y4->Prop} {md:Region.Mode} {S:y4->Prop} {t:Nat}
inductive Leads (md:Region.Mode) (ops:Array n7) (listed:Array Bool) (i:Nat):Nat->Prop
 | one {k:Nat} {o:n7} (ho:ops[k]?=M o) (h:∃ e∈o.after,Region.binds md e=true/\e.on=i):Leads md ops listed i k
 | more {k j:Nat} {o:n7} (ho:ops[k]?=M o) (h:∃ e∈o.after,Region.binds md e=true/\e.on=j) (hu:listed.getD j true=false) (hl:Leads md ops listed i j):Leads md ops listed i k
def Mz (md:Region.Mode) (ops:Array n7) (listed:Array Bool) (i:Nat):Nat->Nat->Bool
 | 0,_=>false
 | fuel+1,k=>match ops[k]? with
  | none=>false
  | some b=>b.after.toList.any λa=>Region.binds md a && (a.on == i || (!(listed.getD a.on true) && Mz md ops listed i fuel a.on))
theorem Yr {listed:Array Bool} {i:Nat}:∀ (fuel k:Nat),Mz md ops listed i fuel k=true->Leads md ops listed i k
 | 0,_,a=>by cases a
 | fuel+1,k,a=>by
  unfold Mz at a;cases d:ops[k]? with
  | none=>rw[d] at a;cases a
  | some l=>
   rw[d] at a;obtain⟨c,j,e⟩:=aGV.1 a;simp only[Bool.and_eq_true,Bool.or_eq_true,beq_iff_eq,Bool.not_eq_true'] at e;obtain⟨f,b⟩:=e;have g:c∈l.after:=by simpa using j
   rcases b with b|⟨b,h⟩
   ·exact .one d ⟨c,g,f,b⟩
   exact .more d ⟨c,g,f,rfl⟩ b (Yr fuel c.on h)
theorem uX {listed:Array Bool} {i:Nat} (c:listed.getD i true=false) (a:listed.getD i false=true):False:=by
 rcases aGD i listed.size with b|b
 ·simp[b] at c a;rw[c] at a;cases a
 simp[aGH b] at a
theorem Leads.not_ready {listed:Array Bool} {i k:Nat} (a:Leads md ops listed i k) (h:listed.getD i true=false):k∉Region.ready md ops listed:=by
 intro j;obtain⟨_,n,g,f⟩:=mem_ready.1 j;cases a with
 | one b a=>
  rw[g] at b;cases b;obtain⟨c,e,d,rfl⟩:=a;exact uX h (f c e d)
 | more b a l m=>
  rw[g] at b;cases b;obtain⟨c,e,d,rfl⟩:=a;exact uX l (f c e d)
theorem Leads.set {listed:Array Bool} {i k j:Nat} (a:Leads md ops listed i k) (d:listed.getD i true=false) (e:j∈Region.ready md ops listed):Leads md ops (listed.setIfInBounds j true) i k:=by
 induction a with
 | one b a=>exact .one b a
 | @more k l m b a g f h=>
  refine .more b a ?_ h;rw[getD_set_ne true (λc=>f.not_ready d (by rw[<- c];exact e))];exact g
def lE (P:o9) (md:Region.Mode) (ops:Array n7) (Q:Exit->Act->y4->Prop) (S:y4->Prop) (t:Nat):Nat->Array Bool->Act->y4->Prop
 | 0,listed,a,w=>Region.ready md ops listed=[]/\Q .normal a w
 | fuel+1,listed,a,w=>
  (Region.ready md ops listed=[]->Q .normal a w)/\
  ∀ b∈Region.ready md ops listed,wpOp P ops Q b (λc w'=>(b≠t->S w')/\lE P md ops Q S t fuel (listed.setIfInBounds b true) c w') a w
theorem sX:∀ (fuel:Nat) (listed:Array Bool) (a:Act) (w:y4),lE P md ops Q S t fuel listed a w->wpAny P md ops Q fuel listed a w
 | 0,_,_,_,b=>b
 | fuel+1,_,_,_,b=>⟨b.1,λf e=>wpOp_mono (λc w' d=>sX fuel _ c w' d.2) (b.2 f e)⟩
theorem Tp {i:Nat} {oi:n7} {v:y5} (q:ops[i]?=M oi) (A:∀ (j:Nat) (o:n7) h b,ops[j]?=M o->o.op≠.select h b)
  (hQ:∀ c a w,Q (.panic c) (a.put oi.dst v) w->Q (.panic c) a w) :
  ∀ (fuel:Nat) (listed:Array Bool) (a:Act) (w:y4),
   (∀ j f,ops[j]?=M f->j≠i->listed.getD j true=false->(∀ c∈f.after,Region.binds md c=true->c.on≠i)->oi.apart ops f=true)->
   i∈Region.ready md ops listed->Leads md ops listed i t->YieldsIf P ops S oi v a->S w->
   lE P md ops Q S t fuel (listed.setIfInBounds i true) (a.put oi.dst v) w->lE P md ops Q S t (fuel+1) listed a w:=by
 intro fuel
 induction fuel with
 | zero=>
  intro listed a w _ e r n l k;refine⟨λp=>(by rw[p] at e;cases e),λj g=>?_⟩;by_cases d:j=i
  ·subst d;exact n.wpOp q l ⟨λ_=>l,k⟩
  have:=ready_mono g d;rw[k.1] at this;cases this
 | succ fuel N=>
  intro listed a w x e r n l k;refine⟨λp=>(by rw[p] at e;cases e),λj g=>?_⟩;by_cases d:j=i
  ·subst d;exact n.wpOp q l ⟨λ_=>l,k⟩
  have B:=k.2 j (ready_mono g d);have u:=(mem_ready.1 e).1;obtain⟨y,f,s,D⟩:=mem_ready.1 g;have F:j≠t:=λc=>r.not_ready u (c▸g);have L:∀ c∈f.after,Region.binds md c=true->c.on≠i:=λc z m C=>uX u (C▸D c z m);have C:=wpOp_putIf s (x j f s d y L) (λh b=>A i oi h b q) (λh b=>A j f h b s) hQ n B;have E:∀ h m,ops[h]?=M m->h≠i->(listed.setIfInBounds j true).getD h true=false->
    (∀ c∈m.after,Region.binds md c=true->c.on≠i)->oi.apart ops m=true:=λh m G H z K=>by
   refine x h m G H ?_ K;by_cases c:j=h
   ·subst c;exact y
   rw[getD_set_ne true c] at z;exact z
  refine wpOp_mono (λh w' c=>⟨c.2.1,N (listed.setIfInBounds j true) h w' E (ready_mono e (Ne.symm d)) (r.set u g) c.1 (c.2.1 F) ?_⟩) C;rw[aGE _ _ d];exact c.2.2
theorem Wm {i:Nat} {oi:n7} {v:y5} {fuel:Nat} {listed:Array Bool} {a:Act} {w:y4} (c:ops[i]?=M oi)
  (d:(Region.noSelect ops && Region.free md ops listed i && (Region.ready md ops listed).contains i && Mz md ops listed i ops.size t)=true)
  (hQ:∀ b a w,Q (.panic b) (a.put oi.dst v) w->Q (.panic b) a w) (k:YieldsIf P ops S oi v a) (j:S w)
  (b:lE P md ops Q S t fuel (listed.setIfInBounds i true) (a.put oi.dst v) w):lE P md ops Q S t (fuel+1) listed a w:=by
 simp only[Bool.and_eq_true] at d;obtain⟨⟨⟨e,f⟩,g⟩,h⟩:=d;exact Tp c (Region.noSelect_spec e) hQ fuel listed a w (Region.free_spec c f) (by simpa using g) (Yr _ _ h) k j b
theorem tkT {P:o9} {md:Region.Mode} {ops:Array n7} {Q:Exit->Act->y4->Prop} {S:y4->Prop} {t:Nat} (i:Nat) {oi:n7} {v:y5} {fuel:Nat} {listed:Array Bool} {a d:Act} {w:y4} (c:lE P md ops Q S t fuel (listed.setIfInBounds i true) d w) (h:ops[i]?=some oi:=by rfl)
 (j:(Region.noSelect ops && Region.free md ops listed i && (Region.ready md ops listed).contains i && Mz md ops listed i ops.size t)=true:=by kernel_rfl)
 (k:Region.wanted oi (yielded ops a.tmps)=true:=by rfl)
 (l:∀ b,S b->(execOp a.eval oi).run P b=.ok (.value v) b:=by intro b f;simp only[List.getElem_toArray,List.getElem_cons_zero,List.getElem_cons_succ];(try dsimp only at f);go_simp;(try with_reducible rfl))
 (hQ:∀ e a w,Q (.panic e) (a.put oi.dst v) w->Q (.panic e) a w:=by exact λ_ _ _ c=>c) (e:S w:=by assumption)
 (g:a.put oi.dst v=d:=by simp only[List.getElem_toArray,List.getElem_cons_zero,List.getElem_cons_succ,Act.put,List.setIfInBounds_toArray,List.set_cons_zero,List.set_cons_succ];rfl):lE P md ops Q S t (fuel+1) listed a w:=by
 subst g;exact Wm h j hQ (Or.inl ⟨k,l⟩) e c
theorem Wp {listed:Array Bool} {a:Act} {w:y4} (c:Region.ready md ops listed=[]) (b:Q .normal a w) :
  ∀ fuel,lE P md ops Q S t fuel listed a w
 | 0=>⟨c,b⟩
 | _+1=>⟨λ_=>b,by rw[c];simp⟩
theorem aCa {i:Nat} {o:n7} {fuel:Nat} {listed:Array Bool} {a:Act} {w:y4} (e:Region.ready md ops listed=[i]) (j:ops[i]?=M o)
  (f:∀ b:Act->y4->Prop,Shut (∀ a w,S w->(S w->lE P md ops Q S t fuel (listed.setIfInBounds i true) a w)->b a w)->if Region.wanted o (yielded ops a.tmps)=true then Oper.wp P o a w b Q else b (a.put o.dst u5) w) :
  lE P md ops Q S t (fuel+1) listed a w:=
 ⟨λc=>(by rw[e] at c;cases c),λd d=>by
  rw[e] at d;obtain rfl:=aHf.1 d;exact wpOp_step j (λb g=>f b (λa w b h=>g a w ⟨λ_=>b,h b⟩))⟩
theorem Wo {o:n7} {fuel:Nat} {listed:Array Bool} {a:Act} {w:y4} (f:Region.ready md ops listed=[t]) (i:ops[t]?=M o) (h:Region.ready md ops (listed.setIfInBounds t true)=[])
  (c:∀ b:Act->y4->Prop,Shut (∀ a w,Q .normal a w->b a w)->if Region.wanted o (yielded ops a.tmps)=true then Oper.wp P o a w b Q else b (a.put o.dst u5) w) :
  lE P md ops Q S t (fuel+1) listed a w:=
 ⟨λd=>(by rw[f] at d;cases d),λe e=>by
  rw[f] at e;obtain rfl:=aHf.1 e;exact wpOp_step i (λb g=>c b (λa w b=>g a w ⟨λc=>absurd rfl c,Wp h b _⟩))⟩
theorem goT {P:o9} {md:Region.Mode} {ops:Array n7} {Q:Exit->Act->y4->Prop} {S:y4->Prop} {t:Nat} (i:Nat) {o:n7} {fuel:Nat} {listed:Array Bool} {a:Act} {w:y4}
 (c:∀ b:Act->y4->Prop,Shut (∀ a w,S w->(S w->lE P md ops Q S t fuel (listed.setIfInBounds i true) a w)->b a w)->if Region.wanted o (yielded ops a.tmps)=true then Oper.wp P o a w b Q else b (a.put o.dst u5) w)
 (b:ops[i]?=M o:=by rfl) (d:Region.ready md ops listed=[i]:=by kernel_rfl):lE P md ops Q S t (fuel+1) listed a w:=aCa d b c
theorem laT {P:o9} {md:Region.Mode} {ops:Array n7} {Q:Exit->Act->y4->Prop} {S:y4->Prop} {t:Nat} {o:n7} {fuel:Nat} {listed:Array Bool} {a:Act} {w:y4}
 (c:∀ b:Act->y4->Prop,Shut (∀ a w,Q .normal a w->b a w)->if Region.wanted o (yielded ops a.tmps)=true then Oper.wp P o a w b Q else b (a.put o.dst u5) w)
 (d:ops[t]?=M o:=by rfl) (e:Region.ready md ops listed=[t]:=by kernel_rfl) (b:Region.ready md ops (listed.setIfInBounds t true)=[]:=by kernel_rfl):lE P md ops Q S t (fuel+1) listed a w:=Wo e d b c
theorem cN {id:Nat} {a:Act} {w:y4} (t:Nat) (S:y4->Prop) (d:P.follows .mixedOrders=true) (c:S w.drew)
  (b:S w.drew->lE P .any ops Q S t ops.size (Array.replicate ops.size false) a w.drew):(Code.region id ops true).wp P Q a w:=
 wp_region_any d (sX _ _ _ _ (b c))
end
end Go.Proofs.YtaekdjbnldlklaaGreatDoor
