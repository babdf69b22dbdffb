import Derived.WalkKit
import Derived.Deep.Draws
import Derived.WalkSmall
import Derived.Deep.Quiet
import Derived.StillTail
import Derived.Tactics
import Derived.Test.YtdcndkojmflhnaaGreatProg
import Derived.Deep.QuietTactic
import Derived.BigQuiet
import Derived.WalkLawsBesides
import Derived.WalkSpells
import Derived.Laws.Rows
import Derived.Laws.MakeOwn
import Derived.Deep.DeepCutAuto
import Derived.Deep.DeepMust
import Derived.Shelf.Abstract
import Derived.Laws.PanicsMore
set_option linter.unusedVariables false
set_option maxRecDepth 100000
set_option maxHeartbeats 8000000
set_option linter.unusedSimpArgs false
namespace Go.Proofs.YtdcndkojmflhnaaGreat
open Tryz
open Go.RowKit
open List renaming setIfInBounds_toArray->zD,set_cons_zero->zE,set_cons_succ->zF
open _root_.List renaming append_nil->aBi,length_append->aBk,mem_cons_of_mem->aBl,mem_append->aBm,getD_cons_zero->aBr,getD_cons_succ->aBs,getD->aBt,getElem?_eq_getElem->aBu,getElem_mem->aBv,mem_iff_getElem->aBw,length_cons->aBB,eq_nil_of_length_eq_zero->aBC,getElem?_eq_some_iff->aBD,getElem?_take->aBH,mem_of_getElem?->aBJ,getElem?_drop->aBN,ext_getElem?->aBU,findIdx?_eq_some_iff_getElem->aBW,findIdx?_eq_none_iff->aBX,any_eq_false->aBY,getElem?_eq_none->aBZ,getD_eq_getElem?_getD->aC0
open _root_.Nat renaming lt_irrefl->aBj,not_lt_zero->aBn,add_sub_cancel->aBo,le_refl->aBq,lt_of_lt_of_le->aBA,zero_add->aBE,add_assoc->aBI,lt_or_ge->aBK,add_comm->aBM,zero_le->aBO,zero_mul->aBR,add_zero->aBS
open _root_.Option renaming some->aC,none->aD,isSome_none->aBG
open _root_.Int renaming le_refl->aBp,eq_ofNat_of_zero_le->aBP,toNat_natCast->aBQ
open Go.World renaming block_lt_of_cell?->aBx,cell?->aBF,ownsRow_nil->aBV
open _root_.Array renaming getElem?_eq_some_iff->aBy,setIfInBounds_comm->aBL,getElem?_eq_getElem->aBT
open Go.Value renaming int->aA,oneCell'->aBz,slice->aE
open Go.IntKind renaming i64->aB
structure Run where
 At:Int
 N:Int
deriving DecidableEq
instance:Inhabited Run:=⟨⟨0,0⟩⟩
def cW (x:Nat->Int):Nat->List Run
 | 0=>[]
 | t+1=>cW x t++(if t=0\/x (t - 1)≠x t then[⟨(t:Int),x t⟩] else[])
@[irreducible] def bN (x:Nat->Int):List Run:=cW x 48
def sp:List Run->Nat->Int
 | [],_=>0
 | [x],_=>x.N
 | x::y::l,t=>if y.At<=(t:Int) then sp (y::l) t else x.N
def iP:Run->List Run->Prop
 | _,[]=>True
 | x,y::l=>x.At < y.At/\y.At < 48/\x.N≠y.N/\iP y l
def dI:List Run->Prop
 | []=>False
 | x::l=>x.At=0/\iP x l
def kO (n:Int):Prop:=-1048576<=n/\n<=1048576
instance (n:Int):Decidable (kO n):=inferInstanceAs (Decidable (_/\_))
def gM (f:List Run):Prop:=dI f/\∀ x∈f,kO x.N
theorem xZ {x y:Nat->Int}:∀ n,(∀ t,t < n->x t=y t)->cW x n=cW y n
 | 0,_=>rfl
 | n+1,h=>by
  simp only[cW];rw[xZ n (fun t ht=>h t (by omega)),h n (by omega)];by_cases h0:n=0
  ·subst h0;simp
  ·rw[h (n - 1) (by omega)]
theorem wM {x y:Nat->Int} (h:∀ t,t < 48->x t=y t):bN x=bN y:=by unfold bN;exact xZ 48 h
theorem nI {x:Nat->Int} (n:Nat) (hn:0 < n):∀ m,(∀ t,n<=t->t < n+m->x t=x (n - 1))->cW x (n+m)=cW x n
 | 0,_=>rfl
 | m+1,h=>by
  have e:n+(m+1)=(n+m)+1:=by omega
  rw[e];simp only[cW];rw[nI n hn m (fun t h1 h2=>h t h1 (by omega))];have h1:=h (n+m) (by omega) (by omega);have h2:x (n+m - 1)=x (n - 1):=by
   by_cases hm:m=0
   ·subst hm;rfl
   ·exact h (n+m - 1) (by omega) (by omega)
  have hz:¬ (n+m=0):=by omega
  rw[if_neg (by rw[h1,h2];simp;omega),aBi]
theorem mV {x:Nat->Int}:∀ n,0 < n->cW x n≠[]
 | 0,h=>absurd h (aBj _)
 | 1,_=>by simp[cW]
 | n+2,_=>by
  have:=mV (x:=x) (n+1) (by omega);rw[cW];simp[this]
theorem oF {x:Nat->Int}:∀ n,(cW x n).length<=n
 | 0=>by simp[cW]
 | n+1=>by
  have:=oF (x:=x) n;simp only[cW,aBk];split <;> simp <;> omega
theorem pJ {x:Nat->Int}:∀ n,0 < n->∃ r,(cW x n).getLast?=aC r/\r.N=x (n - 1)/\0<=r.At/\r.At<=(n:Int) - 1
 | 0,h=>absurd h (aBj _)
 | 1,_=>⟨⟨0,x 0⟩,by simp[cW],rfl,by simp,by simp⟩
 | n+2,_=>by
  obtain⟨r,h1,h2,h3,h4⟩:=pJ (x:=x) (n+1) (by omega);rw[cW];by_cases h:n+1=0\/x (n+1 - 1)≠x (n+1)
  ·rw[if_pos h];exact⟨⟨((n+1:Nat):Int),x (n+1)⟩,by simp,rfl,by simp only[];omega,by simp only[];omega⟩
  ·rw[if_neg h,aBi];refine⟨r,h1,?_,h3,by omega⟩;rw[h2];have:¬ (x (n+1 - 1)≠x (n+1)):=fun h'=>h (.inr h');exact Classical.not_not.1 this
theorem Tt:∀ (l:List Run) (r:Run) (t:Nat),l≠[]->(∀ x∈l,x.At<=r.At)->sp (l++[r]) t=if r.At<=(t:Int) then r.N else sp l t
 | [],_,_,h,_=>absurd rfl h
 | [x],r,t,_,_=>by simp[sp]
 | x::y::l,r,t,_,ha=>by
  have ih:=Tt (y::l) r t (by simp) (fun z hz=>ha z (aBl _ hz));simp only[List.cons_append] at ih ⊢;rw[sp,ih];have hy:=ha y (by simp);by_cases h1:y.At<=(t:Int)
  ·simp only[if_pos h1,sp]
  ·simp only[if_neg h1];rw[if_neg (by omega)];simp[sp,h1]
theorem qR {x:Nat->Int}:∀ n r,r∈cW x n->0<=r.At/\r.At < (n:Int)
 | 0,_,h=>by simp[cW] at h
 | n+1,r,h=>by
  simp only[cW,aBm] at h;rcases h with h | h
  ·have:=qR n r h;omega
  ·split at h
   ·simp at h;subst h;simp only[];omega
   ·simp at h
theorem Iy {x:Nat->Int}:∀ n t,t < n->sp (cW x n) t=x t
 | 0,_,h=>absurd h (aBn _)
 | 1,t,h=>by
  have:t=0:=by omega
  subst this;simp[cW,sp]
 | n+2,t,h=>by
  have ih:=Iy (x:=x) (n+1);rw[cW];by_cases hc:n+1=0\/x (n+1 - 1)≠x (n+1)
  ·rw[if_pos hc,Tt _ _ _ (mV _ (by omega)) (fun r hr=>by have:=qR _ _ hr;simp only[];omega)];simp only[];by_cases ht:t=n+1
   ·subst ht;rw[if_pos (by omega)]
   ·rw[if_neg (by omega),ih t (by omega)]
  ·rw[if_neg hc,aBi];by_cases ht:t=n+1
   ·subst ht;have hx:x n=x (n+1):=by
     have h2:¬ (x (n+1 - 1)≠x (n+1)):=fun h'=>hc (.inr h');exact Classical.not_not.1 h2
    rw[<- hx,<- ih n (by omega)];obtain⟨r,h1,h2,h3,h4⟩:=pJ (x:=x) (n+1) (by omega);have key:∀ (l:List Run),(∀ z∈l,z.At<=(n:Int))->sp l (n+1)=sp l n:=by
     intro l
     induction l with
     | nil=>intro _;rfl
     | cons a l ihl=>
      intro hz;cases l with
      | nil=>rfl
      | cons b l=>
       have hb:=hz b (by simp);rw[sp,sp,if_pos (by omega),if_pos hb,ihl (fun z hz'=>hz z (aBl _ hz'))]
    exact key _ (fun z hz=>by have:=qR _ _ hz;omega)
   ·exact ih t (by omega)
theorem fL {x:Nat->Int} {t:Nat} (h:t < 48):sp (bN x) t=x t:=by unfold bN;exact Iy 48 t h
theorem sL:∀ (l:List Run) (x r:Run),iP x l->(∀ z,(x::l).getLast?=aC z->z.At < r.At/\z.N≠r.N)->r.At < 48->iP x (l++[r])
 | [],x,r,_,h,hr=>by
  have:=h x (by simp);exact⟨this.1,hr,this.2,trivial⟩
 | y::l,x,r,hs,h,hr=>by
  obtain⟨h1,h2,h3,h4⟩:=hs;refine⟨h1,h2,h3,sL l y r h4 (fun z hz=>h z (by simpa[List.getLast?_cons_cons] using hz)) hr⟩
theorem xB {x:Nat->Int}:∀ n,0 < n->n<=48->dI (cW x n)
 | 0,h,_=>absurd h (aBj _)
 | 1,_,_=>by simp[cW,dI,iP]
 | n+2,_,h=>by
  have ih:=xB (x:=x) (n+1) (by omega) (by omega);rw[cW];by_cases hc:n+1=0\/x (n+1 - 1)≠x (n+1)
  ·rw[if_pos hc];obtain⟨r,h1,h2,h3,h4⟩:=pJ (x:=x) (n+1) (by omega);cases hf:cW x (n+1) with
   | nil=>exact absurd hf (mV _ (by omega))
   | cons a l=>
    rw[hf] at ih h1;refine⟨ih.1,sL l a _ ih.2 (fun z hz=>?_) (by simp only[];omega)⟩;rw[h1] at hz;obtain rfl:=Option.some.inj hz;refine⟨by simp only[];omega,?_⟩;rw[h2];rcases hc with hc | hc
    ·omega
    ·exact hc
  ·rw[if_neg hc,aBi];exact ih
theorem lQ (x:Nat->Int):bN x=cW x 48:=by unfold bN;rfl
theorem Nk {l:List Run} {x:Nat->Int} {n:Nat} (h:l=cW x n) (h1:0 < n) (h2:n<=48):dI l:=by subst h;exact xB n h1 h2
theorem eE (x:Nat->Int):dI (bN x):=Nk (lQ x) (by omega) (by omega)
theorem qD:∀ (l m:List Run) (x y:Run),iP x l->iP y m->x.At=y.At->0<=x.At->x.At < 48->
  (∀ t:Nat,x.At<=(t:Int)->t < 48->sp (x::l) t=sp (y::m) t)->x::l=y::m
 | [],[],x,y,_,_,ha,h0,h48,h=>by
  have:=h x.At.toNat (by omega) (by omega);simp only[sp] at this;cases x;cases y;simp_all
 | [],b::m,x,y,_,hm,ha,h0,h48,h=>by
  obtain⟨h1,h2,h3,h4⟩:=hm;have e1:=h x.At.toNat (by omega) (by omega);have e2:=h b.At.toNat (by omega) (by omega);simp only[sp] at e1 e2;rw[if_neg (by omega)] at e1;rw[if_pos (by omega)] at e2;exfalso;have:sp (b::m) b.At.toNat=b.N:=by
   cases m with
   | nil=>rfl
   | cons c m=>rw[sp,if_neg (by have:=h4.1;omega)]
  rw[this] at e2;exact h3 (by rw[<- e1,e2])
 | a::l,[],x,y,hl,_,ha,h0,h48,h=>by
  obtain⟨h1,h2,h3,h4⟩:=hl;have e1:=h x.At.toNat (by omega) (by omega);have e2:=h a.At.toNat (by omega) (by omega);simp only[sp] at e1 e2;rw[if_neg (by omega)] at e1;rw[if_pos (by omega)] at e2;exfalso;have:sp (a::l) a.At.toNat=a.N:=by
   cases l with
   | nil=>rfl
   | cons c m=>rw[sp,if_neg (by have:=h4.1;omega)]
  rw[this] at e2;exact h3 (by rw[e1,e2])
 | a::l,b::m,x,y,hl,hm,ha,h0,h48,h=>by
  obtain⟨h1,h2,h3,h4⟩:=hl;obtain⟨k1,k2,k3,k4⟩:=hm;have hd:∀ (r:Run) (q:List Run),iP r q->sp (r::q) r.At.toNat=r.N\/r.At < 0:=by
   intro r q hq;cases q with
   | nil=>exact .inl rfl
   | cons c q=>
    by_cases hr:r.At < 0
    ·exact .inr hr
    ·left;rw[sp,if_neg (by have:=hq.1;omega)]
  have e1:=h x.At.toNat (by omega) (by omega);simp only[sp] at e1;rw[if_neg (by omega),if_neg (by omega)] at e1;have hab:a.At=b.At:=by
   rcases Int.lt_trichotomy a.At b.At with hlt | heq | hgt
   ·exfalso;have e2:=h a.At.toNat (by omega) (by omega);rw[sp,sp,if_pos (by omega),if_neg (by omega)] at e2;rcases hd a l h4 with hh | hh
    ·rw[hh] at e2;exact h3 (by rw[e1,<- e2])
    ·omega
   ·exact heq
   ·exfalso;have e2:=h b.At.toNat (by omega) (by omega);rw[sp,sp,if_neg (by omega),if_pos (by omega)] at e2;rcases hd b m k4 with hh | hh
    ·rw[hh] at e2;exact k3 (by rw[<- e1,e2])
    ·omega
  have ih:=qD l m a b h4 k4 hab (by omega) h2 (fun t ht1 ht2=>by
   have:=h t (by omega) ht2;rw[sp,sp,if_pos ht1,if_pos (by omega)] at this;exact this)
  rw[ih];cases x;cases y;simp_all
theorem Kz {f g:List Run} (hf:dI f) (hg:dI g) (h:∀ t,t < 48->sp f t=sp g t):f=g:=by
 cases f with
 | nil=>exact hf.elim
 | cons x l=>
  cases g with
  | nil=>exact hg.elim
  | cons y m=>
   exact qD l m x y hf.2 hg.2 (by rw[hf.1,hg.1]) (by rw[hf.1];omega) (by rw[hf.1];omega) (fun t _ ht=>h t ht)
theorem Ud {f:List Run} (hf:dI f):bN (sp f)=f:=Kz (eE _) hf (fun t ht=>fL ht)
def bW (f:List Run) (i:Nat):Int:=(f.getD i default).At
def iN (f:List Run) (i:Nat):Int:=(f.getD i default).N
def cH (f:List Run) (i:Nat):Int:=if i+1 < f.length then bW f (i+1) else 48
theorem vD:∀ (l:List Run) (x:Run),iP x l->0<=x.At->x.At < 48->∀ i,i < (x::l).length->
  x.At<=bW (x::l) i/\bW (x::l) i < cH (x::l) i/\cH (x::l) i<=48/\(∀ t:Nat,bW (x::l) i<=(t:Int)->(t:Int) < cH (x::l) i->sp (x::l) t=iN (x::l) i)
 | [],x,_,h0,h48,i,hi=>by
  have:i=0:=by simp at hi;omega
  subst this;simp[bW,cH,iN,sp];omega
 | y::l,x,h,h0,h48,i,hi=>by
  obtain⟨h1,h2,h3,h4⟩:=h;have ih:=vD l y h4 (by omega) h2;cases i with
  | zero=>
   have hn:cH (x::y::l) 0=y.At:=by simp[cH,bW]
   have hc:bW (x::y::l) 0=x.At:=by simp[bW]
   refine⟨by omega,by omega,by omega,fun t ht1 ht2=>?_⟩;rw[hn] at ht2;rw[sp,if_neg (by omega)];simp[iN]
  | succ i=>
   obtain⟨k1,k2,k3,k4⟩:=ih i (by simpa using hi);have hn:cH (x::y::l) (i+1)=cH (y::l) i:=by simp[cH,bW]
   have hc:bW (x::y::l) (i+1)=bW (y::l) i:=by simp[bW]
   have hN:iN (x::y::l) (i+1)=iN (y::l) i:=by simp[iN]
   rw[hn,hc,hN];refine⟨by omega,k2,k3,fun t ht1 ht2=>?_⟩;rw[sp,if_pos (by omega)];exact k4 t ht1 ht2
theorem cM {f:List Run} (h:dI f) {i:Nat} (hi:i < f.length) :
  0<=bW f i/\bW f i < cH f i/\cH f i<=48/\(∀ t:Nat,bW f i<=(t:Int)->(t:Int) < cH f i->sp f t=iN f i):=by
 cases f with
 | nil=>exact h.elim
 | cons x l=>
  have:=vD l x h.2 (by rw[h.1];omega) (by rw[h.1];omega) i hi;rw[h.1] at this;exact this
theorem kS {f:List Run} (h:dI f):0 < f.length/\bW f 0=0:=by
 cases f with
 | nil=>exact h.elim
 | cons x l=>exact⟨by simp,by simpa[bW] using h.1⟩
theorem jF {f:List Run} (h:dI f):f.length<=48:=by
 rw[<- Ud h,lQ];exact oF 48
theorem gS {f:List Run} {i:Nat} (h:i+1 < f.length):cH f i=bW f (i+1):=by simp[cH,h]
theorem gZ {f:List Run} {i:Nat} (h:¬ i+1 < f.length):cH f i=48:=by simp[cH,h]
def Kj (f g:List Run) (z:Nat->Int) (i k:Nat) (out:List Run):Prop:=
 (i < f.length/\k < g.length/\∃ T:Nat,(T:Int)=max (bW f i) (bW g k)/\(T:Int) < cH f i/\(T:Int) < cH g k/\out=cW z T)\/
 ((f.length<=i\/g.length<=k)/\out=bN z)
theorem My {f g:List Run} (hf:dI f) (hg:dI g) (z:Nat->Int):Kj f g z 0 0 []:=by
 have h1:=kS hf;have h2:=kS hg;have h3:=cM hf h1.1;have h4:=cM hg h2.1;exact .inl ⟨h1.1,h2.1,0,by omega,by omega,by omega,rfl⟩
def iX (out:List Run) (x:Run):List Run:=
 match out.getLast? with
 | some r=>if r.N=x.N then out else out++[x]
 | none=>out++[x]
theorem Vk (out:List Run) (x:Run):iX out x≠[]:=by
 unfold iX;split
 ·rename_i r h
  split
  ·intro e;rw[e] at h;simp at h
  ·simp
 ·simp
theorem sQ {out:List Run} {x r:Run} (h:out.getLast?=aC r) (he:r.N=x.N):iX out x=out:=by
 unfold iX;rw[h];simp only[he,if_true]
theorem vY {out:List Run} {x r:Run} (h:out.getLast?=aC r) (he:r.N≠x.N):iX out x=out++[x]:=by
 unfold iX;rw[h];simp only[if_neg he]
theorem Dy (x:Run):iX [] x=[x]:=rfl
theorem pV {z:Nat->Int} {T:Nat}:iX (cW z T) ⟨(T:Int),z T⟩=cW z (T+1):=by
 unfold iX;by_cases h0:T=0
 ·subst h0;simp[cW]
 ·obtain⟨r,h1,h2,_,_⟩:=pJ (x:=z) T (by omega);rw[h1];simp only[cW];by_cases h:z (T - 1)=z T
  ·rw[if_pos (by rw[h2,h]),if_neg (by simp[h0,h]),aBi]
  ·rw[if_neg (by rw[h2];exact h),if_pos (.inr h)]
theorem Qf {f g:List Run} (hf:dI f) (hg:dI g) {of:Int->Int->Int} {i k:Nat} {out:List Run} (hi:i < f.length) (hk:k < g.length)
  (h:Kj f g (fun t=>of (sp f t) (sp g t)) i k out) :
  Kj f g (fun t=>of (sp f t) (sp g t)) (if cH f i<=cH g k then i+1 else i) (if cH g k<=cH f i then k+1 else k)
   (iX out ⟨max (bW f i) (bW g k),of (iN f i) (iN g k)⟩):=by
 rcases h with ⟨_,_,T,hT,hTf,hTg,rfl⟩ | ⟨h,_⟩
 case inr=>omega
 obtain⟨f1,f2,f3,f4⟩:=cM hf hi;obtain⟨g1,g2,g3,g4⟩:=cM hg hk;have eT:(⟨max (bW f i) (bW g k),of (iN f i) (iN g k)⟩:Run)=⟨(T:Int),of (sp f T) (sp g T)⟩:=by
  rw[<- hT,f4 T (by omega) hTf,g4 T (by omega) hTg]
 rw[eT,pV (z:=fun t=>of (sp f t) (sp g t))];have flat:∀ M:Nat,(M:Int)<=cH f i->(M:Int)<=cH g k->T < M->cW (fun t=>of (sp f t) (sp g t)) (T+1)=cW (fun t=>of (sp f t) (sp g t)) M:=by
  intro M h1 h2 h3;have e:M=(T+1)+(M - (T+1)):=by omega
  rw[e,nI (T+1) (by omega) (M - (T+1)) (fun t ht1 ht2=>?_)];simp only[aBo];rw[f4 t (by omega) (by omega),g4 t (by omega) (by omega),f4 T (by omega) hTf,g4 T (by omega) hTg]
 by_cases hab:cH f i<=cH g k
 ·rw[if_pos hab];have hM:=flat (cH f i).toNat (by omega) (by omega) (by omega);rw[hM];by_cases hfe:i+1 < f.length
  ·obtain⟨p1,p2,p3,p4⟩:=cM hf hfe;have hn:=gS hfe;by_cases hba:cH g k<=cH f i
   ·rw[if_pos hba];by_cases hge:k+1 < g.length
    ·obtain⟨q1,q2,q3,q4⟩:=cM hg hge;have hm:=gS hge;exact .inl ⟨hfe,hge,(cH f i).toNat,by omega,by omega,by omega,rfl⟩
    ·exfalso;have:=gZ hge;omega
   ·rw[if_neg hba];exact .inl ⟨hfe,hk,(cH f i).toNat,by omega,by omega,by omega,rfl⟩
  ·have hn:=gZ hfe;exact .inr ⟨.inl (by omega),by rw[hn,lQ];rfl⟩
 ·rw[if_neg hab,if_pos (by omega)];have hM:=flat (cH g k).toNat (by omega) (by omega) (by omega);rw[hM];by_cases hge:k+1 < g.length
  ·obtain⟨q1,q2,q3,q4⟩:=cM hg hge;have hm:=gS hge;exact .inl ⟨hi,hge,(cH g k).toNat,by omega,by omega,by omega,rfl⟩
  ·exfalso;have:=gZ hge;omega
theorem Us {f g:List Run} (hf:dI f) {z:Nat->Int} {i k:Nat} {out:List Run} (h:Kj f g z i k out):out.length<=48:=by
 rcases h with ⟨h1,_,T,_,h3,_,rfl⟩ | ⟨_,rfl⟩
 ·have:=oF (x:=z) T;have:=cM hf h1;omega
 ·rw[lQ];exact oF 48
theorem Cy {f g:List Run} {z:Nat->Int} {i k:Nat} {out:List Run} (h:Kj f g z i k out) (hd:f.length<=i\/g.length<=k):out=bN z:=by
 rcases h with ⟨_,_,_⟩ | ⟨_,h⟩
 ·omega
 ·exact h
def cO (a b:Nat) (n:Int) (t:Nat):Int:=if a<=t/\t < b then n else 0
def qP (a b:Int) (n:Int):List Run:=
 let o1:=if 0 < a then iX [] ⟨0,0⟩ else[]
 let o2:=iX o1 ⟨a,n⟩
 if b < 48 then iX o2 ⟨b,0⟩ else o2
theorem tL {a b:Nat} {n:Int} (hab:a < b) (hb:b<=48):qP a b n=bN (cO a b n):=by
 have h1:(if(0:Int) < (a:Int) then iX [] ⟨0,0⟩ else[])=cW (cO a b n) a:=by
  by_cases h0:a=0
  ·subst h0;simp[cW]
  ·rw[if_pos (by omega)];have e:a=1+(a - 1):=by omega
   have hf:=nI (x:=cO a b n) 1 (by omega) (a - 1) (fun t ht1 ht2=>by
    unfold cO;rw[if_neg (by omega),if_neg (by omega)])
   rw[<- e] at hf;rw[hf];have:cO a b n 0=0:=by unfold cO;rw[if_neg (by omega)]
   simp[cW,iX,this]
 have h2:iX (cW (cO a b n) a) ⟨(a:Int),n⟩=cW (cO a b n) b:=by
  have hz:cO a b n a=n:=by unfold cO;rw[if_pos (by omega)]
  have:=pV (z:=cO a b n) (T:=a);rw[hz] at this;rw[this];have e:b=(a+1)+(b - (a+1)):=by omega
  have hf:=nI (x:=cO a b n) (a+1) (by omega) (b - (a+1)) (fun t ht1 ht2=>by
   unfold cO;rw[if_pos (by omega),if_pos (by omega)])
  rw[<- e] at hf;exact hf.symm
 unfold qP;simp only[h1,h2];by_cases h48:b=48
 ·subst h48;rw[if_neg (by omega),lQ]
 ·rw[if_pos (by omega)];have hz:cO a b n b=0:=by unfold cO;rw[if_neg (by omega)]
  have:=pV (z:=cO a b n) (T:=b);rw[hz] at this;rw[this,lQ];have e:48=(b+1)+(48 - (b+1)):=by omega
  have hf:=nI (x:=cO a b n) (b+1) (by omega) (48 - (b+1)) (fun t ht1 ht2=>by
   unfold cO;rw[if_neg (by omega),if_neg (by omega)])
  rw[<- e] at hf;exact hf.symm
def lo (x:Nat->Int) (a:Nat):Nat->Int
 | 0=>x a
 | m+1=>min (lo x a m) (x (a+m+1))
def xS (x:Nat->Int) (a b:Nat):Int:=lo x a (b - a - 1)
theorem Lw {x:Nat->Int} {a:Nat} (m:Nat):∀ d,(∀ t,a+m < t->t<=a+m+d->x t=x (a+m))->lo x a (m+d)=lo x a m
 | 0,_=>rfl
 | d+1,h=>by
  have ih:=Lw m d (fun t h1 h2=>h t h1 (by omega));show min (lo x a (m+d)) (x (a+(m+d)+1))=_;have e:=h (a+(m+d)+1) (by omega) (by omega);rw[ih,e];cases m with
  | zero=>simp[lo]
  | succ m=>
        simp only[lo];have:a+(m+1)=a+m+1:=by omega
        rw[this];omega
def sD (f:List Run) (x:Nat->Int) (a b:Nat) (k:Nat):Int:=lo x a (max (a+1) (min b (if k < f.length then(bW f k).toNat else 48)) - a - 1)
theorem Oj {f:List Run} (hf:dI f) (x:Nat->Int) (a b:Nat):sD f x a b 0=x a:=by
 have h:=kS hf;unfold sD;rw[if_pos h.1,h.2];have:max (a+1) (min b (Int.toNat 0)) - a - 1=0:=by simp
 rw[this];rfl
theorem Vx {f:List Run} (x:Nat->Int) {a b:Nat} (hab:a < b) (hb:b<=48):sD f x a b f.length=xS x a b:=by
 unfold sD xS;rw[if_neg (by omega)]
 congr 1;omega
theorem Rl {f:List Run} (hf:dI f) {a b k:Nat} (hab:a < b) (hb:b<=48) (hk:k < f.length) :
  sD f (sp f) a b (k+1)=if(a:Int) < bW f k/\bW f k < (b:Int) then min (sD f (sp f) a b k) (iN f k) else sD f (sp f) a b k:=by
 obtain⟨h1,h2,h3,h4⟩:=cM hf hk;have hn:(if k+1 < f.length then(bW f (k+1)).toNat else 48)=(cH f k).toNat:=by
  by_cases hk1:k+1 < f.length
  ·rw[if_pos hk1,gS hk1]
  ·rw[if_neg hk1,gZ hk1];rfl
 unfold sD;rw[hn,if_pos hk];generalize he:bW f k=e at *;generalize he':cH f k=e' at *;by_cases hc:(a:Int) < e/\e < (b:Int)
 ·rw[if_pos hc];have hm:max (a+1) (min b e.toNat) - a - 1=e.toNat - a - 1:=by omega
  rw[hm];have hN:sp f e.toNat=iN f k:=h4 e.toNat (by omega) (by omega);have step:lo (sp f) a (e.toNat - a - 1+1)=min (lo (sp f) a (e.toNat - a - 1)) (iN f k):=by
   show min _ (sp f (a+(e.toNat - a - 1)+1))=_;rw[show a+(e.toNat - a - 1)+1=e.toNat by omega,hN]
  rw[<- step];have hd:max (a+1) (min b e'.toNat) - a - 1=(e.toNat - a - 1+1)+(min b e'.toNat - 1 - e.toNat):=by omega
  rw[hd];exact Lw _ _ (fun t ht1 ht2=>by
   rw[h4 t (by omega) (by omega),show a+(e.toNat - a - 1+1)=e.toNat by omega,hN])
 ·rw[if_neg hc];by_cases hge:(b:Int)<=e
  ·congr 1;omega
  ·have hle:e<=(a:Int):=by omega
   have hm:max (a+1) (min b e.toNat) - a - 1=0:=by omega
   rw[hm];by_cases hle':e'<=(a:Int)
   ·have:max (a+1) (min b e'.toNat) - a - 1=0:=by omega
    rw[this]
   ·have hd:max (a+1) (min b e'.toNat) - a - 1=0+(min b e'.toNat - a - 1):=by omega
    rw[hd];exact Lw 0 _ (fun t ht1 ht2=>by
     rw[h4 t (by omega) (by omega),h4 (a+0) (by omega) (by omega)])
theorem aAI {x:Nat->Int} {a:Nat}:∀ m i,i<=m->lo x a m<=x (a+i)
 | 0,i,h=>by
         have:i=0:=by omega
         subst this;exact aBp _
 | m+1,i,h=>by
  simp only[lo];by_cases hi:i=m+1
  ·subst hi;rw[show a+(m+1)=a+m+1 by omega];omega
  ·have:=aAI (x:=x) (a:=a) m i (by omega);omega
theorem Yu {x:Nat->Int} {a:Nat}:∀ m,∃ i,i<=m/\lo x a m=x (a+i)
 | 0=>⟨0,aBq _,rfl⟩
 | m+1=>by
  obtain⟨i,h1,h2⟩:=Yu (x:=x) (a:=a) m;simp only[lo];by_cases h:lo x a m<=x (a+m+1)
  ·exact⟨i,by omega,by rw[<- h2];omega⟩
  ·exact⟨m+1,aBq _,by rw[show a+(m+1)=a+m+1 by omega];omega⟩
theorem aAo {x:Nat->Int} {a b t:Nat} (h1:a<=t) (h2:t < b):xS x a b<=x t:=by
 have:=aAI (x:=x) (a:=a) (b - a - 1) (t - a) (by omega)
 rwa [show a+(t - a)=t by omega] at this
theorem Ys {x:Nat->Int} {a b:Nat} (h:a < b):∃ t,a<=t/\t < b/\xS x a b=x t:=by
 obtain⟨i,h1,h2⟩:=Yu (x:=x) (a:=a) (b - a - 1);exact⟨a+i,by omega,by omega,h2⟩
theorem Ct {x:Nat->Int} {a b:Nat} {n:Int} (h:a < b):n<=xS x a b↔∀ t,a<=t->t < b->n<=x t:=by
 constructor
 ·intro hn t h1 h2;have:=aAo (x:=x) h1 h2;omega
 ·intro hn;obtain⟨t,h1,h2,h3⟩:=Ys (x:=x) h;rw[h3];exact hn t h1 h2
def kX (x:Nat->Int) (t until_ size:Nat) (n:Int):Prop:=t+size<=until_/\∀ i,t<=i->i < t+size->n<=x i
instance (x:Nat->Int) (t until_ size:Nat) (n:Int):Decidable (kX x t until_ size n):=
 decidable_of_iff (t+size<=until_/\∀ j,j < size->n<=x (t+j))
  ⟨fun⟨h1,h2⟩=>⟨h1,fun i hi1 hi2=>by have:=h2 (i - t) (by omega);rwa [show t+(i - t)=i by omega] at this⟩,fun⟨h1,h2⟩=>⟨h1,fun j hj=>h2 _ (by omega) (by omega)⟩⟩
def yA (x:Nat->Int) (until_ size:Nat) (n:Int):Nat->Nat->Option Nat
 | 0,_=>aD
 | m+1,t=>if kX x t until_ size n then aC t else yA x until_ size n m (t+1)
def jP (x:Nat->Int) (from_ until_ size:Nat) (n:Int):Option Nat:=yA x until_ size n (until_ - from_) from_
def uY (x:Nat->Int) (from_ until_ size:Nat) (n:Int):Option Nat->Prop
 | some t=>from_<=t/\t < until_/\kX x t until_ size n/\∀ s,from_<=s->s < t->¬ kX x s until_ size n
 | none=>∀ s,from_<=s->s < until_->¬ kX x s until_ size n
theorem Fe {x:Nat->Int} {until_ size:Nat} {n:Int}:∀ m t,t+m=until_\/(m=0/\until_<=t)->uY x t until_ size n (yA x until_ size n m t)
 | 0,t,h=>fun s h1 h2=>by omega
 | m+1,t,h=>by
  unfold yA;by_cases hh:kX x t until_ size n
  ·rw[if_pos hh];exact⟨aBq _,by omega,hh,fun s h1 h2=>by omega⟩
  ·rw[if_neg hh];have ih:=Fe (x:=x) (until_:=until_) (size:=size) (n:=n) m (t+1) (by omega);cases hr:yA x until_ size n m (t+1) with
   | none=>
    rw[hr] at ih;intro s h1 h2;by_cases hs:s=t
    ·subst hs;exact hh
    ·exact ih s (by omega) h2
   | some q=>
    rw[hr] at ih;obtain⟨k1,k2,k3,k4⟩:=ih;refine⟨by omega,k2,k3,fun s h1 h2=>?_⟩;by_cases hs:s=t
    ·subst hs;exact hh
    ·exact k4 s (by omega) h2
theorem oG (x:Nat->Int) (from_ until_ size:Nat) (n:Int):uY x from_ until_ size n (jP x from_ until_ size n):=by
 unfold jP;exact Fe _ _ (by omega)
theorem Eo {x:Nat->Int} {from_ until_ size:Nat} {n:Int} {a b:Option Nat} (ha:uY x from_ until_ size n a) (hb:uY x from_ until_ size n b):a=b:=by
 cases a with
 | none=>
  cases b with
  | none=>rfl
  | some q=>exact absurd hb.2.2.1 (ha q hb.1 hb.2.1)
 | some p=>
  cases b with
  | none=>exact absurd ha.2.2.1 (hb p ha.1 ha.2.1)
  | some q=>
   rcases Nat.lt_trichotomy p q with h | h | h
   ·exact absurd ha.2.2.1 (hb.2.2.2 p ha.1 h)
   ·rw[h]
   ·exact absurd hb.2.2.1 (ha.2.2.2 q hb.1 h)
theorem oQ {x:Nat->Int} {from_ until_ size:Nat} {n:Int} {r:Option Nat} (h:uY x from_ until_ size n r):r=jP x from_ until_ size n:=Eo h (oG ..)
theorem wH {x y:Nat->Int} {t until_ size:Nat} {n:Int} (h:∀ i,i < until_->x i=y i):kX x t until_ size n↔kX y t until_ size n:=by
 constructor
 ·rintro⟨h1,h2⟩;refine⟨h1,fun i k1 k2=>?_⟩;rw[<- h i (by omega)];exact h2 i k1 k2
 ·rintro⟨h1,h2⟩;refine⟨h1,fun i k1 k2=>?_⟩;rw[h i (by omega)];exact h2 i k1 k2
theorem Mb {x y:Nat->Int} {from_ until_ size:Nat} {n:Int} (h:∀ i,i < until_->x i=y i):jP x from_ until_ size n=jP y from_ until_ size n:=by
 refine oQ ?_;have:=oG x from_ until_ size n;cases hr:jP x from_ until_ size n with
 | none=>rw[hr] at this;exact fun s h1 h2 hh=>this s h1 h2 ((wH h).2 hh)
 | some t=>
  rw[hr] at this;obtain⟨h1,h2,h3,h4⟩:=this;exact⟨h1,h2,(wH h).1 h3,fun s k1 k2 hh=>h4 s k1 k2 ((wH h).2 hh)⟩
def jR (f:List Run) (from_ until_ size:Nat) (n:Int) (k:Nat) (at_:Nat):Prop:=
 ∃ E:Nat,E=min until_ (if k < f.length then(bW f k).toNat else 48)/\from_<=at_/\at_<=max from_ E/\(∀ i,at_<=i->i < E->n<=sp f i)/\(∀ t,from_<=t->t < at_->¬ kX (sp f) t until_ size n)/\E < at_+size
theorem Lb {f:List Run} (hf:dI f) {from_ until_ size:Nat} {n:Int} (hs:0 < size):jR f from_ until_ size n 0 from_:=by
 have h:=kS hf;refine⟨0,?_,aBq _,by omega,fun i _ h=>by omega,fun t _ _=>by omega,by omega⟩;rw[if_pos h.1,h.2];simp
def iW (f:List Run) (until_:Nat) (k:Nat):Int:=min (until_:Int) (cH f k)
theorem zL {f:List Run} (k:Nat):(if k+1 < f.length then(bW f (k+1)).toNat else 48)=(cH f k).toNat:=by
 by_cases hk1:k+1 < f.length
 ·rw[if_pos hk1,gS hk1]
 ·rw[if_neg hk1,gZ hk1];rfl
theorem Nl {f:List Run} (hf:dI f) {from_ until_ size:Nat} {n:Int} {k at_:Nat} (hs:0 < size) (hk:k < f.length) (h:jR f from_ until_ size n k at_) (he:iW f until_ k<=(at_:Int)) :
  jR f from_ until_ size n (k+1) at_:=by
 obtain⟨h1,h2,h3,h4⟩:=cM hf hk;obtain⟨E,hE,a1,a2,a3,a4,a5⟩:=h;rw[if_pos hk] at hE;unfold iW at he;exact⟨min until_ (cH f k).toNat,by rw[zL],a1,by omega,fun i k1 k2=>by omega,a4,by omega⟩
theorem Qm {f:List Run} (hf:dI f) {from_ until_ size:Nat} {n:Int} {k at_:Nat} (hs:0 < size) (hk:k < f.length) (h:jR f from_ until_ size n k at_) (he:(at_:Int) < iW f until_ k)
  (hn:iN f k < n):jR f from_ until_ size n (k+1) (iW f until_ k).toNat:=by
 obtain⟨h1,h2,h3,h4⟩:=cM hf hk;obtain⟨E,hE,a1,a2,a3,a4,a5⟩:=h;rw[if_pos hk] at hE;unfold iW at *;refine⟨min until_ (cH f k).toNat,by rw[zL],by omega,by omega,fun i k1 k2=>by omega,fun t k1 k2=>?_,by omega⟩;by_cases ht:t < at_
 ·exact a4 t k1 ht
 ·rintro⟨b1,b2⟩;by_cases hx:t < (bW f k).toNat
  ·have:=b2 (bW f k).toNat (by omega) (by omega);rw[h4 _ (by omega) (by omega)] at this;omega
  ·have:=b2 t (by omega) (by omega);rw[h4 _ (by omega) (by omega)] at this;omega
theorem Nn {f:List Run} (hf:dI f) {from_ until_ size:Nat} {n:Int} {k at_:Nat} (hk:k < f.length) (h:jR f from_ until_ size n k at_) (he:(at_:Int) < iW f until_ k)
  (hn:n<=iN f k) (hsz:iW f until_ k - (at_:Int) < (size:Int)):jR f from_ until_ size n (k+1) at_:=by
 obtain⟨h1,h2,h3,h4⟩:=cM hf hk;obtain⟨E,hE,a1,a2,a3,a4,a5⟩:=h;rw[if_pos hk] at hE;unfold iW at *;refine⟨min until_ (cH f k).toNat,by rw[zL],a1,by omega,fun i k1 k2=>?_,a4,by omega⟩;by_cases hi:i < E
 ·exact a3 i k1 hi
 ·rw[h4 i (by omega) (by omega)];exact hn
theorem Lc {f:List Run} (hf:dI f) {from_ until_ size:Nat} {n:Int} {k at_:Nat} (hs:0 < size) (hk:k < f.length) (h:jR f from_ until_ size n k at_) (he:(at_:Int) < iW f until_ k)
  (hn:n<=iN f k) (hsz:(size:Int)<=iW f until_ k - (at_:Int)):jP (sp f) from_ until_ size n=aC at_:=by
 obtain⟨h1,h2,h3,h4⟩:=cM hf hk;obtain⟨E,hE,a1,a2,a3,a4,a5⟩:=h;rw[if_pos hk] at hE;unfold iW at *;have key:∀ i,at_<=i->i < at_+size->n<=sp f i:=fun i k1 k2=>by
  by_cases hi:i < E
  ·exact a3 i k1 hi
  ·rw[h4 i (by omega) (by omega)];exact hn
 have hI:uY (sp f) from_ until_ size n (aC at_):=⟨a1,by omega,⟨by omega,key⟩,a4⟩;exact(oQ hI).symm
theorem Nm {f:List Run} {from_ until_ size:Nat} {n:Int} {at_:Nat} (hu:until_<=48) (h:jR f from_ until_ size n f.length at_):jP (sp f) from_ until_ size n=none:=by
 obtain⟨E,hE,a1,a2,a3,a4,a5⟩:=h;rw[if_neg (by omega)] at hE;refine(oQ (r:=aD) fun s k1 k2 hh=>?_).symm;by_cases hs:s < at_
 ·exact a4 s k1 hs hh
 ·have:=hh.1;omega
def Cg (f:List Run) (j:Nat):Prop:=bW f j < 48/\kO (iN f j)/\(0 < j->bW f (j - 1) < bW f j/\iN f j≠iN f (j - 1))
instance (f:List Run) (j:Nat):Decidable (Cg f j):=inferInstanceAs (Decidable (_/\_/\(_->_)))
theorem xC:∀ (l:List Run) (x:Run),(∀ j,j < l.length->bW (x::l) (j+1) < 48/\bW (x::l) j < bW (x::l) (j+1)/\iN (x::l) (j+1)≠iN (x::l) j)->iP x l
 | [],_,_=>trivial
 | y::l,x,h=>by
  have h0:=h 0 (by simp);simp only[bW,iN,aBr,aBs] at h0;refine⟨h0.2.1,h0.1,fun e=>h0.2.2 e.symm,xC l y (fun j hj=>?_)⟩;have:=h (j+1) (by simp;omega);simpa only[bW,iN,aBs] using this
theorem rG:∀ (l:List Run) (x:Run),iP x l->∀ j,j < l.length->bW (x::l) (j+1) < 48/\bW (x::l) j < bW (x::l) (j+1)/\iN (x::l) (j+1)≠iN (x::l) j
 | [],_,_,j,hj=>absurd hj (aBn _)
 | y::l,x,⟨h1,h2,h3,h4⟩,j,hj=>by
  cases j with
  | zero=>simp only[bW,iN,aBr,aBs];exact⟨h2,h1,fun e=>h3 e.symm⟩
  | succ j=>
   have:=rG l y h4 j (by simpa using hj);simpa only[bW,iN,aBs] using this
theorem nJ {f:List Run}:gM f↔0 < f.length/\bW f 0=0/\∀ j,j < f.length->Cg f j:=by
 cases f with
 | nil=>simp[gM,dI]
 | cons x l=>
  have mem:(∀ y∈x::l,kO y.N)↔∀ j,j < (x::l).length->kO (iN (x::l) j):=by
   constructor
   ·intro h j hj;have:iN (x::l) j=((x::l)[j]'hj).N:=by simp only[iN,aBt];rw[aBu hj];rfl
    rw[this];exact h _ (aBv _)
   ·intro h y hy;obtain⟨j,hj,rfl⟩:=aBw.1 hy;have:=h j hj;have e:iN (x::l) j=((x::l)[j]'hj).N:=by simp only[iN,aBt];rw[aBu hj];rfl
    rwa [e] at this
  constructor
  ·rintro⟨⟨h0,hs⟩,hn⟩;have h0':bW (x::l) 0=0:=by simpa[bW] using h0
   refine⟨by simp,h0',fun j hj=>⟨?_,mem.1 hn j hj,fun hj0=>?_⟩⟩
   ·cases j with
    | zero=>omega
    | succ j=>exact(rG l x hs j (by simpa using hj)).1
   ·have:=rG l x hs (j - 1) (by simp at hj;omega);rw[show j - 1+1=j by omega] at this;exact this.2
  ·rintro⟨_,h0,h⟩;refine⟨⟨by simpa[bW] using h0,xC l x (fun j hj=>?_)⟩,mem.2 fun j hj=>(h j hj).2.1⟩;have:=h (j+1) (by simp;omega);have h3:=this.2.2 (by omega);rw[aBo] at h3;exact⟨this.1,h3.1,h3.2⟩
instance (f:List Run):Decidable (gM f):=decidable_of_iff _ nJ.symm
theorem uS {x:Nat->Int} (h:∀ t,t < 48->kO (x t)):gM (bN x):=by
 refine⟨eE x,fun r hr=>?_⟩;obtain⟨j,hj,rfl⟩:=aBw.1 hr;obtain⟨h1,h2,h3,h4⟩:=cM (eE x) hj;have:=h4 (bW (bN x) j).toNat (by omega) (by omega);rw[fL (by omega)] at this;have e:iN (bN x) j=((bN x)[j]'hj).N:=by simp only[iN,aBt];rw[aBu hj];rfl
 rw[<- e,<- this];exact h _ (by omega)
theorem Wp {x:Nat->Int} (h:∀ r∈bN x,kO r.N):∀ t,t < 48->kO (x t):=by
 intro t ht;have key:∀ (l:List Run),l≠[]->∃ r∈l,sp l t=r.N:=by
  intro l
  induction l with
  | nil=>intro h;exact absurd rfl h
  | cons a l ih=>
   intro _;cases l with
   | nil=>exact⟨a,by simp,rfl⟩
   | cons b l=>
    rw[sp];split
    ·obtain⟨r,h1,h2⟩:=ih (by simp);exact⟨r,aBl _ h1,h2⟩
    ·exact⟨a,by simp,rfl⟩
 obtain⟨r,h1,h2⟩:=key (bN x) (by rw[lQ];exact mV 48 (by omega));rw[fL ht] at h2;rw[h2];exact h r h1
theorem Ue {f:List Run} (h:gM f) {t:Nat} (ht:t < 48):kO (sp f t):=by
 have:=Wp (x:=sp f) (by rw[Ud h.1];exact h.2) t ht;exact this
abbrev Ext (w w':World):Prop:=Below w.heap.size w w'
theorem Ext.rf (w:World):Ext w w:=Below.refl _ _
theorem Ext.tr {a b c:World} (h:Ext a b) (k:Ext b c):Ext a c:=h.trans (k.mono h.size)
theorem Ext.ce {w w':World} (h:Ext w w') {b o:Nat} (hb:b < w.heap.size):w'.cell? ⟨b,o,aD⟩=w.cell? ⟨b,o,aD⟩:=h.cell (p:=⟨b,o,aD⟩) hb
theorem Ext.ce' {w w':World} (h:Ext w w') {b o:Nat} {v:Value} (hc:w.cell? ⟨b,o,aD⟩=aC v):w'.cell? ⟨b,o,aD⟩=aC v:=by
 rw[h.ce (aBx w ⟨b,o,aD⟩ hc)];exact hc
theorem hid {p:Prop} (h:p):Hid p:=h
theorem Ext.al {a w:World} (h:Ext a w) (o:Obj):Ext a (w.alloc o):=Below.alloc h h.size o
theorem Ext.dr {a w:World} (h:Ext a w):Ext a w.drew:=Below.drew h
theorem Ext.dn {a w:World} (h:Ext a w) (n:Nat):Ext a (w.drewN n):=h.trans ⟨rfl,rfl,rfl,aBq _,fun _ _=>rfl⟩
theorem Ext.se {a w:World} (h:Ext a w) {b o:Nat} (hb:a.heap.size<=b) (v:Value):Ext a (w.setCell ⟨b,o,aD⟩ v):=Below.setCell (p:=⟨b,o,aD⟩) h hb v
theorem bE {w w':World} {base e sz n:Nat} {v:Value} {xs:List Value} (h:w.ownsRow base e sz v n xs) (hx:Ext w w'):w'.ownsRow base e sz v n xs:=by
 obtain⟨h1,h2⟩:=h;refine⟨h1,?_⟩;rcases h2 with h2 | ⟨g,cap,cur,hv,hb,hg,r⟩
 ·exact .inl h2
 ·exact .inr ⟨g,cap,cur,hv,hb,by rw[hx.block g (aBy.1 hg).1];exact hg,r⟩
theorem Ext.gr {a w w':World} (h:Ext a w) {v:Value} (hg:w.grownBy w' v.ownBlock) (hv:∀ k,v.ownBlock=aC k->a.heap.size<=k):Ext a w':=Below.grown h hg h.size hv
theorem eU {w:World} {base e sz n:Nat} {v:Value} {xs:List Value} (h:w.ownsRow base e sz v n xs):∀ k,v.ownBlock=aC k->base<=k:=fun k hk=>(h.lt k hk).1
theorem Ch (W:World) {B:Nat} (hB:B=W.heap.size) (a b:Value) (t:TypeId):∀ (j:Nat) u,[a,b][j]?=aC u->(W.alloc (.cells #[a,b] t)).cell? ((⟨B,0,aD⟩:Addr).add j)=aC u:=by
 subst hB;exact cell_two_new W a b t
theorem Cf (k l:IntKind) (a b:Int):∀ u∈[aA k a,aA l b],u.oneCell'=true:=by simp[aBz]
theorem minw (a b:Int):(if b < a then b else a)=min a b:=by
 by_cases h:b < a
 ·rw[if_pos h];omega
 ·rw[if_neg h];omega
theorem maxw (a b:Int):(if a < b then b else a)=max a b:=by
 by_cases h:a < b
 ·rw[if_pos h];omega
 ·rw[if_neg h];omega
theorem eqF {a b:Int} (h:a≠b):(a == b)=false:=beq_eq_false_iff_ne.2 h
theorem eqT {a b:Int} (h:a=b):(a == b)=true:=beq_iff_eq.2 h
theorem neF {a b:Int} (h:a=b):(a != b)=false:=by rw[bne_eq_false_iff_eq];exact h
theorem neT {a b:Int} (h:a≠b):(a != b)=true:=bne_iff_ne.2 h
theorem deF {p:Prop} [Decidable p] (h:¬ p):decide p=false:=decide_eq_false h
theorem deT {p:Prop} [Decidable p] (h:p):decide p=true:=decide_eq_true h
theorem bB {a b:Int} (h:a=b):Ending.returned (aA aB a)=.returned (aA aB b):=by rw[h]
theorem fD {a b:Bool} (h:a=b):Ending.returned (.bool a)=.returned (.bool b):=by rw[h]
def I64 (n:Int):Prop:=-9223372036854775808<=n/\n<=9223372036854775807
theorem I64.wf {n:Int} (h:I64 n):(Lit.int .i64 n).wf=true:=WalkArith.wf_i64 h
theorem I64.of_wf {n:Int} (h:(Lit.int .i64 n).wf=true):I64 n:=by
 simpa[I64,Lit.wf,IntKind.min,IntKind.max,IntKind.signed,IntKind.bits] using h
theorem I64.of {n:Int} (h1:-9223372036854775808<=n) (h2:n<=9223372036854775807):I64 n:=⟨h1,h2⟩
structure Queue where
 aQ:ByteArray
 aR:Int
 Cap:List Run
structure Piece where
 Len:Int
 N:Int
deriving DecidableEq
structure bO where
 Piece:Int
 At:Int
deriving DecidableEq
structure aS where
 aG:Int
 aI:Int
 aH:Int
 aJ:Int
 aF:List Piece
structure aT where
 Id:Int
 aP:aS
 aO:List bO
structure aV where
 aL:Int
 aM:Int
 aN:List Queue
 aK:List aT
instance:Inhabited Queue:=⟨⟨ByteArray.empty,0,[]⟩⟩
instance:Inhabited Piece:=⟨⟨0,0⟩⟩
instance:Inhabited bO:=⟨⟨0,0⟩⟩
instance:Inhabited aS:=⟨⟨0,0,0,0,[]⟩⟩
instance:Inhabited aT:=⟨⟨0,default,[]⟩⟩
instance:Inhabited aV:=⟨⟨0,0,[],[]⟩⟩
def mS (w:World) (b o n:Nat):Prop:=b < w.heap.size/\Hid (∀ k,o<=k->k < o+n->w.frozen? ⟨b,k,aD⟩=false)
theorem mS.same {w w':World} {b o n:Nat} (h:mS w b o n) (hs:w.heap.size<=w'.heap.size) (he:w'.heap[b]?=w.heap[b]?):mS w' b o n:=
 ⟨aBA h.1 hs,hid fun k h1 h2=>(World.frozen?_of_block (a:=⟨b,k,aD⟩) he).trans (h.2.out k h1 h2)⟩
theorem mS.ext {w w':World} {b o n:Nat} (h:mS w b o n) (hx:Ext w w'):mS w' b o n:=h.same hx.size (hx.block b h.1)
theorem mS.row {w:World} {b o n:Nat} {cs:Array Value} {t:TypeId} (h:w.heap[b]?=aC (.cells cs t (0,0))):mS w b o n:=
 ⟨(aBy.1 h).1,hid fun k _ _=>by simp[World.frozen?,h]⟩
theorem mS.set {w:World} {b o n:Nat} (h:mS w b o n) (a:Addr) (v:Value):mS (w.setCell a v) b o n:=
 ⟨by simpa[World.setCell] using h.1,hid fun k h1 h2=>by rw[World.frozen?_setCell];exact h.2.out k h1 h2⟩
def SV {α:Type} (sz:Nat) (E:World->Nat->Nat->α->Prop) (w:World) (v:Value) (xs:List α):Prop:=
 (xs=[]/\∃ a cap,v=aE a 0 cap/\cap<=9223372036854775807)\/
 ∃ b off cap,v=aE (aC ⟨b,off,aD⟩) xs.length cap/\xs.length<=cap/\cap<=9223372036854775807/\xs.length<=17592186044416/\mS w b off (xs.length*sz)/\∀ k x,xs[k]?=aC x->E w b (off+k*sz) x
theorem SV.nil {α:Type} {sz:Nat} {E:World->Nat->Nat->α->Prop} {w:World}:SV sz E w (aE aD 0 0) []:=.inl ⟨rfl,aD,0,rfl,by omega⟩
theorem SV.mono {α:Type} {sz:Nat} {E:World->Nat->Nat->α->Prop} (hE:∀ (w w':World) b o x,Ext w w'->E w b o x->E w' b o x) {w w':World} {v:Value} {xs:List α} (h:SV sz E w v xs) (hx:Ext w w'):SV sz E w' v xs:=by
 rcases h with h | ⟨b,off,cap,rfl,h1,h2,hl,h3,h4⟩
 ·exact .inl h
 ·exact .inr ⟨b,off,cap,rfl,h1,h2,hl,h3.ext hx,fun k x hk=>hE w w' _ _ _ hx (h4 k x hk)⟩
theorem SV.form {α:Type} {sz:Nat} {E:World->Nat->Nat->α->Prop} {w:World} {v:Value} {xs:List α} (h:SV sz E w v xs) :
  ∃ a cap,v=aE a xs.length cap/\xs.length<=cap/\cap<=9223372036854775807/\xs.length<=17592186044416:=by
 rcases h with ⟨rfl,a,cap,rfl,h1⟩ | ⟨b,off,cap,rfl,h1,h2,h3,_⟩
 ·exact⟨a,cap,rfl,by simp,h1,by simp⟩
 ·exact⟨_,cap,rfl,h1,h2,h3⟩
def E2 {α:Type} (f g:α->Int) (w:World) (b o:Nat) (x:α):Prop:=
 w.cell? ⟨b,o,aD⟩=aC (aA aB (f x))/\w.cell? ⟨b,o+1,aD⟩=aC (aA aB (g x))/\I64 (f x)/\I64 (g x)
theorem E2.mono {α:Type} {f g:α->Int} (w w':World) (b o:Nat) (x:α) (hx:Ext w w') (h:E2 f g w b o x):E2 f g w' b o x:=
 ⟨hx.ce' h.1,hx.ce' h.2.1,h.2.2⟩
def vA:=E2 Run.At Run.N
def Mq:=E2 Piece.Len Piece.N
def Bz:=E2 bO.Piece bO.At
abbrev bC:=SV 2 vA
abbrev aU:=SV 2 Mq
abbrev bJ:=SV 2 Bz
theorem bC.mono {w w':World} {v:Value} {xs:List Run} (h:bC w v xs) (hx:Ext w w'):bC w' v xs:=SV.mono E2.mono h hx
theorem aU.mono {w w':World} {v:Value} {xs:List Piece} (h:aU w v xs) (hx:Ext w w'):aU w' v xs:=SV.mono E2.mono h hx
theorem bJ.mono {w w':World} {v:Value} {xs:List bO} (h:bJ w v xs) (hx:Ext w w'):bJ w' v xs:=SV.mono E2.mono h hx
def dS (w:World) (b o:Nat) (x:Queue):Prop:=
 w.cell? ⟨b,o,aD⟩=aC (.string x.aQ)/\x.aQ.size<=9223372036854775807/\w.cell? ⟨b,o+1,aD⟩=aC (aA aB x.aR)/\I64 x.aR/\
 ∃ v,w.cell? ⟨b,o+2,aD⟩=aC v/\bC w v x.Cap
theorem dS.mono (w w':World) (b o:Nat) (x:Queue) (hx:Ext w w') (h:dS w b o x):dS w' b o x:=by
 obtain⟨h1,h2,h3,h4,v,h5,h6⟩:=h;exact⟨hx.ce' h1,h2,hx.ce' h3,h4,v,hx.ce' h5,h6.mono hx⟩
abbrev aX:=SV 3 dS
theorem aX.mono {w w':World} {v:Value} {xs:List Queue} (h:aX w v xs) (hx:Ext w w'):aX w' v xs:=SV.mono dS.mono h hx
def Xi (w:World) (cs:List Value) (r:aS):Prop:=
 ∃ pv,cs=[aA aB r.aG,aA aB r.aI,aA aB r.aH,aA aB r.aJ,pv]/\aU w pv r.aF/\I64 r.aG/\I64 r.aI/\I64 r.aH/\I64 r.aJ
theorem Xi.mono {w w':World} {cs:List Value} {r:aS} (h:Xi w cs r) (hx:Ext w w'):Xi w' cs r:=by
 obtain⟨pv,h1,h2,h3⟩:=h;exact⟨pv,h1,h2.mono hx,h3⟩
def aB8 (w:World) (v:Value) (r:aS):Prop:=∃ cs,v=.agg cs.toArray/\Xi w cs r
theorem aB8.mono {w w':World} {v:Value} {r:aS} (h:aB8 w v r) (hx:Ext w w'):aB8 w' v r:=by
 obtain⟨cs,h1,h2⟩:=h;exact⟨cs,h1,h2.mono hx⟩
def fE (w:World) (cs:List Value) (x:aT):Prop:=
 ∃ qs bv,cs=aA aB x.Id::(qs++[bv])/\Xi w qs x.aP/\bJ w bv x.aO/\I64 x.Id
theorem fE.mono {w w':World} {cs:List Value} {x:aT} (h:fE w cs x) (hx:Ext w w'):fE w' cs x:=by
 obtain⟨qs,bv,h1,h2,h3,h4⟩:=h;exact⟨qs,bv,h1,h2.mono hx,h3.mono hx,h4⟩
def iR (w:World) (b o:Nat) (x:aT):Prop:=∃ cs,fE w cs x/\∀ (j:Nat) u,cs[j]?=aC u->w.cell? ⟨b,o+j,aD⟩=aC u
theorem iR.mono (w w':World) (b o:Nat) (x:aT) (hx:Ext w w') (h:iR w b o x):iR w' b o x:=by
 obtain⟨cs,h1,h2⟩:=h;exact⟨cs,h1.mono hx,fun j u hu=>hx.ce' (h2 j u hu)⟩
abbrev bD:=SV 7 iR
theorem bD.mono {w w':World} {v:Value} {xs:List aT} (h:bD w v xs) (hx:Ext w w'):bD w' v xs:=SV.mono iR.mono h hx
def aAa (w:World) (v:Value) (x:aT):Prop:=∃ cs,v=.agg cs.toArray/\fE w cs x
theorem aAa.mono {w w':World} {v:Value} {x:aT} (h:aAa w v x) (hx:Ext w w'):aAa w' v x:=by
 obtain⟨cs,h1,h2⟩:=h;exact⟨cs,h1,h2.mono hx⟩
def Ge (w:World) (cs:List Value) (s:aV):Prop:=
 ∃ tv bv,cs=[aA aB s.aL,aA aB s.aM,tv,bv]/\aX w tv s.aN/\bD w bv s.aK/\I64 s.aL/\I64 s.aM
theorem Ge.mono {w w':World} {cs:List Value} {s:aV} (h:Ge w cs s) (hx:Ext w w'):Ge w' cs s:=by
 obtain⟨tv,bv,h1,h2,h3,h4⟩:=h;exact⟨tv,bv,h1,h2.mono hx,h3.mono hx,h4⟩
def Ag (w:World) (v:Value) (s:aV):Prop:=∃ cs,v=.agg cs.toArray/\Ge w cs s
theorem Ag.mono {w w':World} {v:Value} {s:aV} (h:Ag w v s) (hx:Ext w w'):Ag w' v s:=by
 obtain⟨cs,h1,h2⟩:=h;exact⟨cs,h1,h2.mono hx⟩
def aA6 (w:World) (b o:Nat) (x:Int):Prop:=w.cell? ⟨b,o,aD⟩=aC (aA aB x)/\I64 x
theorem aA6.mono (w w':World) (b o:Nat) (x:Int) (hx:Ext w w') (h:aA6 w b o x):aA6 w' b o x:=⟨hx.ce' h.1,h.2⟩
abbrev pP:=SV 1 aA6
theorem pP.mono {w w':World} {v:Value} {xs:List Int} (h:pP w v xs) (hx:Ext w w'):pP w' v xs:=SV.mono aA6.mono h hx
def Px (w:World) (b o:Nat) (x:Bool):Prop:=w.cell? ⟨b,o,aD⟩=aC (.bool x)
theorem Px.mono (w w':World) (b o:Nat) (x:Bool) (hx:Ext w w') (h:Px w b o x):Px w' b o x:=hx.ce' h
abbrev To:=SV 1 Px
theorem To.mono {w w':World} {v:Value} {xs:List Bool} (h:To w v xs) (hx:Ext w w'):To w' v xs:=SV.mono Px.mono h hx
def Gq (w:World) (b o:Nat) (x:List Run):Prop:=∃ v,w.cell? ⟨b,o,aD⟩=aC v/\bC w v x
theorem Gq.mono (w w':World) (b o:Nat) (x:List Run) (hx:Ext w w') (h:Gq w b o x):Gq w' b o x:=by
 obtain⟨v,h1,h2⟩:=h;exact⟨v,hx.ce' h1,h2.mono hx⟩
abbrev uB:=SV 1 Gq
theorem uB.mono {w w':World} {v:Value} {xs:List (List Run)} (h:uB w v xs) (hx:Ext w w'):uB w' v xs:=SV.mono Gq.mono h hx
def cF {α:Type} (f g:α->Int) (xs:List α):List Value:=xs.flatMap fun x=>[aA aB (f x),aA aB (g x)]
theorem gC {α:Type} (f g:α->Int) (xs:List α):(cF f g xs).length=xs.length*2:=by
 unfold cF
 induction xs with
 | nil=>rfl
 | cons x xs ih=>simp only[List.flatMap_cons,aBk,aBB,List.length_nil,ih];omega
theorem mR {α:Type} (f g:α->Int):∀ (xs:List α) (k:Nat) (x:α),xs[k]?=aC x->(cF f g xs)[k*2]?=aC (aA aB (f x))/\(cF f g xs)[k*2+1]?=aC (aA aB (g x))
 | [],k,x,h=>by simp at h
 | y::xs,0,x,h=>by simp at h;subst h;simp[cF]
 | y::xs,k+1,x,h=>by
  have ih:=mR f g xs k x (by simpa using h);have e:cF f g (y::xs)=aA aB (f y)::aA aB (g y)::cF f g xs:=by simp[cF]
  rw[e,show (k+1)*2=k*2+1+1 by omega];simpa using ih
theorem nL {α:Type} (f g:α->Int) (xs:List α) (x:α):cF f g (xs++[x])=cF f g xs++[aA aB (f x),aA aB (g x)]:=by simp[cF]
theorem cG {α:Type} {f g:α->Int} {w:World} {base e:Nat} {v:Value} {xs:List α} (h:w.ownsRow base e 2 v xs.length (cF f g xs)) (hi:∀ x∈xs,I64 (f x)/\I64 (g x)) (hl:xs.length<=17592186044416):SV 2 (E2 f g) w v xs:=by
 obtain⟨h1,h2⟩:=h;rcases h2 with ⟨rfl,h2⟩ | ⟨b,cap,cur,rfl,hb,hg,hn,hm,hs,ht⟩
 ·exact .inl ⟨aBC h2,aD,0,rfl,by omega⟩
 ·refine .inr ⟨b,0,cap,rfl,hn,hm,hl,mS.row hg,fun k x hk=>?_⟩;have hkl:k < xs.length:=(aBD.1 hk).1;obtain⟨k1,k2⟩:=mR f g xs k x hk;have cell:∀ j u,(cF f g xs)[j]?=aC u->w.cell? ⟨b,0+j,aD⟩=aC u:=by
   intro j u hu;rw[aBE];simp only[aBF,hg,aBG,Bool.false_eq_true,if_false];rw[<- ht,aBH] at hu;split at hu
   ·simpa using hu
   ·cases hu
  exact⟨cell _ _ k1,by simpa[aBI] using cell _ _ k2,hi x (aBJ hk)⟩
section
variable {P:Program} {ops:Array Oper} {md:Region.Mode} {C:World->Prop}
def xW (P:Program) (md:Region.Mode) (ops:Array Oper) (C:World->Prop) (n:Nat) (L:Array Bool->Act->Prop):Nat->Array Bool->Act->Prop
 | 0,listed,a=>L listed a
 | f+1,listed,a=>
  Region.ready md ops listed≠[]/\∀ i∈Region.ready md ops listed,i < n/\qOp P ops C i (xW P md ops C n L f (listed.setIfInBounds i true)) a
theorem tX {n g:Nat} {L:Array Bool->Act->Prop} {Q':Exit->Act->World->Prop} (hL:∀ listed a w,C w->L listed a->wpAny P md ops Q' g listed a w) :
  ∀ (f:Nat) (listed:Array Bool) (a:Act) (w:World),C w->xW P md ops C n L f listed a->wpAny P md ops Q' (f+g) listed a w
 | 0,listed,a,w,hw,h=>by rw[aBE];exact hL _ _ _ hw h
 | f+1,listed,a,w,hw,h=>by
  rw[show f+1+g=(f+g)+1 by omega];exact⟨fun h0=>absurd h0 h.1,fun i hi=>wpOp_of_qOp hw (fun a' w' hw' h'=>tX hL f _ a' w' hw' h') (h.2 i hi).2⟩
theorem Ic {n i:Nat} {oi:Oper} {v:Value} {L:Array Bool->Act->Prop} (hi:ops[i]?=aC oi) (hsel:∀ (j:Nat) (o:Oper) cs b,ops[j]?=aC o->o.op≠.select cs b)
  (hs:Region.sinkB md ops n=true) (hc:Region.chainB md ops n=true) (hn:n < ops.size) (hin:i < n)
  (hdone:∀ listed a,L listed a->∀ j∈Region.ready md ops listed,n<=j) :
  ∀ (f:Nat) (listed:Array Bool) (a:Act),HeadInv md ops n listed->
   (∀ j oj,ops[j]?=aC oj->j≠i->listed.getD j true=false->(∀ e∈oj.after,Region.binds md e=true->e.on≠i)->oi.apart ops oj=true)->
   i∈Region.ready md ops listed->YieldsIn P ops C oi v a->
   xW P md ops C n L f (listed.setIfInBounds i true) (a.put oi.dst v)->xW P md ops C n L (f+1) listed a:=by
 intro f
 induction f with
 | zero=>
  intro listed a inv _ hr hy H;have hun:=(mem_ready.1 hr).1;refine⟨fun h=>(by rw[h] at hr;cases hr),fun j hj=>?_⟩;have hjn:j < n:=(aBK j n).elim id (fun h=>absurd hj (tail_waits hs hc hn inv _ i rfl hin hun j h));refine⟨hjn,?_⟩;by_cases hji:j=i
  ·subst hji;exact hy.qOp hi H
  ·have:=hdone _ _ H j (ready_mono hj hji);omega
 | succ f ih=>
  intro listed a inv hfree hr hy H;have hun:=(mem_ready.1 hr).1;refine⟨fun h=>(by rw[h] at hr;cases hr),fun j hj=>?_⟩;have hjn:j < n:=(aBK j n).elim id (fun h=>absurd hj (tail_waits hs hc hn inv _ i rfl hin hun j h));refine⟨hjn,?_⟩;by_cases hji:j=i
  ·subst hji;exact hy.qOp hi H
  ·obtain⟨hjun,oj,hoj,hall⟩:=mem_ready.1 hj;have hnot:∀ e∈oj.after,Region.binds md e=true->e.on≠i:=fun e he hb heq=>by
    have h1:=hall e he hb;rw[heq,getD_both hun] at h1;cases h1
   have h2:=qOp_put hoj (hfree j oj hoj hji hjun hnot) (fun cs b=>hsel i oi cs b hi) (fun cs b=>hsel j oj cs b hoj) hy (H.2 j (ready_mono hj hji)).2;have hfree':∀ k ok,ops[k]?=aC ok->k≠i->(listed.setIfInBounds j true).getD k true=false->
     (∀ e∈ok.after,Region.binds md e=true->e.on≠i)->oi.apart ops ok=true:=fun k ok hk hki hk2 hno=>by
    refine hfree k ok hk hki ?_ hno;by_cases hjk:j=k
    ·subst hjk;exact hjun
    ·rwa [getD_set_ne true hjk] at hk2
   refine qOp_mono (fun a' h3=>ih (listed.setIfInBounds j true) a' (inv.set hj hjn) hfree' (ready_mono hr (Ne.symm hji)) h3.1 ?_) h2;rw[aBL _ _ hji];exact h3.2
theorem Ba {n g:Nat} {Lq:Act->Prop} (hsel:Region.noSelect ops=true) (hs:Region.sinkB md ops n=true) (hc:Region.chainB md ops n=true) (hn:n < ops.size) :
  ∀ (l:List Oper) (k:Nat) (listed:Array Bool) (a:Act),(∀ j,j < l.length->l[j]?=ops[k+j]?)->k+l.length=n->HeadInv md ops n listed->
  Region.lexHead md ops g l.length k listed=true->wpQuiet P ops C Lq l a->
  xW P md ops C n (fun listed' a'=>Region.seqB md ops g n listed'=true/\Lq a') l.length listed a
 | [],k,listed,a,_,hk,_,hB,h=>by
  have:k=n:=by simpa using hk
  subst this;exact⟨by simpa[Region.lexHead] using hB,h⟩
 | o::l,k,listed,a,hl,hk,inv,hB,h=>by
  have h0:ops[k]?=aC o:=by simpa using(hl 0 (by simp)).symm
  simp only[aBB,Region.lexHead,Bool.and_eq_true] at hB;obtain⟨⟨hr,hf⟩,hB'⟩:=hB;have hkn:k < n:=by simp only[aBB] at hk;omega
  have hr':k∈Region.ready md ops listed:=by simpa using hr
  have hst:qOp P ops C k (wpQuiet P ops C Lq l) a:=by unfold qOp;simp only[h0];exact h
  obtain⟨v,hy,hK⟩:=yieldsIn_of_qOp h0 hst;exact Ic h0 (Region.noSelect_spec hsel) hs hc hn hkn (fun listed' a' hL=>seqB_ready hL.1) l.length listed a inv (Region.free_spec h0 hf) hr' hy
   (Ba hsel hs hc hn l (k+1) _ _ (fun j hj=>by have:=hl (j+1) (by simp;omega);simpa[aBI,aBM 1 j] using this) (by simp only[aBB] at hk;omega) (inv.set hr' hkn) hB' hK)
theorem pG {id:Nat} {Q:Exit->Act->World->Prop} {a:Act} {w:World} {l:List Oper} (n:Nat) (hm:P.follows .mixedOrders=true) (hB:Region.lexTailB .any l.toArray n=true) (hC:C { w with drawn:=w.drawn+1 })
  (h:wpQuiet P l.toArray C (fun a'=>∀ w',C w'->wpList P l.toArray Q (l.drop n) a' w') (l.take n) a):(Code.region id l.toArray true).wp P Q a w:=by
 simp only[Region.lexTailB,Bool.and_eq_true,decide_eq_true_eq] at hB;obtain⟨⟨⟨⟨hsel,hn⟩,hs⟩,hc⟩,hlex⟩:=hB;have hn':n < l.length:=by simpa using hn
 have htl:(l.take n).length=n:=by simp;omega
 have hdl:(l.drop n).length=l.toArray.size - n:=by simp
 have inv0:HeadInv .any l.toArray n (Array.replicate l.toArray.size false):=
  ⟨by simp,fun j oj _ hl=>(by rw[getD_replicate_false] at hl;cases hl),fun t _ ht=>getD_in (by simpa using ht) (getD_replicate_false _ _)⟩
 have H:=Ba (md:=.any) (C:=C) (g:=l.toArray.size - n) hsel hs hc hn (l.take n) 0 _ a (fun j hj=>by
  have hj':j < n:=by rw[htl] at hj;exact hj
  simp[hj']) (by simpa using htl) inv0 (by rw[htl];exact hlex) h
 refine wp_region_any hm ?_;have:=tX (Q':=Q) (g:=l.toArray.size - n) (fun listed a' w' hw' hL=>by
  have:=wpAny_of_seq (md:=.any) (Q':=Q) (l.drop n) n listed a' w' (fun j=>by simp[aBN]) (by rw[hdl];exact hL.1) (hL.2 w' hw')
  rwa [hdl] at this) _ _ _ _ hC H
 rw[htl,show n+(l.toArray.size - n)=l.toArray.size by omega] at this;exact this
end
structure bF (w:World) where
 v:World
 h:Ext w v
instance (w:World):Nonempty (bF w):=⟨⟨w,Ext.rf w⟩⟩
theorem bF.cell {w:World} (p:bF w) {a:Addr} {u:Value} (h:w.cell? a=aC u):p.v.cell? a=aC u:=by
 rw[p.h.cell (aBx w a h)];exact h
theorem cJ {P:Program} {id:Nat} {Q:Exit->Act->World->Prop} {a:Act} {w:World} {l:List Oper} (hm:P.follows .mixedOrders=true) (hB:Region.lexB .any l.toArray=true)
  (h:wpQuiet P l.toArray (fun w'=>∃ p:bF w,w'=p.v) (fun a'=>∀ w',(∃ p:bF w,w'=p.v)->Q .normal a' w') l a):(Code.region id l.toArray true).wp P Q a w:=
 wp_region_quiet (C:=fun w'=>∃ p:bF w,w'=p.v) hm hB ⟨⟨w.drew,Ext.dr (Ext.rf w)⟩,rfl⟩ (by simpa using h)
theorem pH {P:Program} {id:Nat} {Q:Exit->Act->World->Prop} {a:Act} {w:World} {l:List Oper} (n:Nat) (hm:P.follows .mixedOrders=true) (hB:Region.lexTailB .any l.toArray n=true)
  (h:wpQuiet P l.toArray (fun w'=>∃ p:bF w,w'=p.v) (fun a'=>∀ w',(∃ p:bF w,w'=p.v)->wpList P l.toArray Q (l.drop n) a' w') (l.take n) a):(Code.region id l.toArray true).wp P Q a w:=
 pG (C:=fun w'=>∃ p:bF w,w'=p.v) n hm hB ⟨⟨w.drew,Ext.dr (Ext.rf w)⟩,rfl⟩ h
theorem fH {P:Program} {f:FuncId} {args:Array Value} {w:World} (p:bF w) {v:Value} (h:Calls P f args p.v fun e w'=>e=.returned v/\Ext p.v w') :
  Calls P f args p.v fun e w'=>e=.returned v/\∃ q:bF w,w'=q.v:=
 h.mono fun _ w' ⟨he,hx⟩=>⟨he,⟨w',p.h.tr hx⟩,rfl⟩
section
variable {P:Program} {ops:Array Oper} {md:Region.Mode} {D0 D1:World->Prop} {ia:Nat} {oa:Oper} {va:Value}
def Ll (P:Program) (D0 D1:World->Prop) (o:Oper) (a:Act) (next:Act->Prop):Prop:=
 ∃ v,((∀ w,D0 w->o.quietAt P a D0 w v)/\(∀ w,D1 w->o.quietAt P a D1 w v))/\next (a.put o.dst v)
def op2 (P:Program) (ops:Array Oper) (D0 D1:World->Prop) (ia:Nat) (va:Value) (i:Nat) (K:Act->Prop) (a:Act):Prop:=
 match ops[i]? with
 | none=>K a
 | some o=>if i=ia then K (a.put o.dst va) else if Region.wanted o (yielded ops a.tmps) then Ll P D0 D1 o a K else K (a.put o.dst undef)
theorem Yl {i:Nat} {K K':Act->Prop} {a:Act} (h:∀ a,K a->K' a) (hh:op2 P ops D0 D1 ia va i K a):op2 P ops D0 D1 ia va i K' a:=by
 unfold op2 at *;cases ho:ops[i]? with
 | none=>simp only[ho] at hh ⊢;exact h _ hh
 | some o=>
  simp only[ho] at hh ⊢;by_cases hi:i=ia
  ·rw[if_pos hi] at hh ⊢;exact h _ hh
  ·rw[if_neg hi] at hh ⊢;by_cases hw:Region.wanted o (yielded ops a.tmps)=true
   ·rw[if_pos hw] at hh ⊢;obtain⟨v,h1,h2⟩:=hh;exact⟨v,h1,h _ h2⟩
   ·rw[if_neg hw] at hh ⊢;exact h _ hh
def kQ (P:Program) (ops:Array Oper) (D0 D1:World->Prop) (ia:Nat) (va:Value) (i:Nat) (o:Oper) (v:Value) (a:Act):Prop:=
 if i=ia then v=va else YieldsIn P ops D0 o v a/\YieldsIn P ops D1 o v a
theorem Qg {i:Nat} {o:Oper} {a:Act} {K:Act->Prop} (hi:ops[i]?=aC o) (h:op2 P ops D0 D1 ia va i K a):∃ v,kQ P ops D0 D1 ia va i o v a/\K (a.put o.dst v):=by
 unfold op2 at h;simp only[hi] at h;unfold kQ;by_cases he:i=ia
 ·rw[if_pos he] at h;exact⟨va,by rw[if_pos he],h⟩
 ·rw[if_neg he] at h;by_cases hw:Region.wanted o (yielded ops a.tmps)=true
  ·rw[if_pos hw] at h;obtain⟨v,⟨h1,h2⟩,h3⟩:=h;exact⟨v,by rw[if_neg he];exact⟨.inl ⟨hw,h1⟩,.inl ⟨hw,h2⟩⟩,h3⟩
  ·rw[if_neg hw] at h;exact⟨undef,by rw[if_neg he];exact⟨.inr ⟨by simpa using hw,rfl⟩,.inr ⟨by simpa using hw,rfl⟩⟩,h⟩
theorem kQ.op {i:Nat} {o:Oper} {v:Value} {a:Act} (hi:ops[i]?=aC o) (hy:kQ P ops D0 D1 ia va i o v a) {K:Act->Prop} (h:K (a.put o.dst v)):op2 P ops D0 D1 ia va i K a:=by
 unfold op2;simp only[hi];unfold kQ at hy;by_cases he:i=ia
 ·rw[if_pos he] at hy ⊢;subst hy;exact h
 ·rw[if_neg he] at hy ⊢;rcases hy.1 with ⟨hw,h1⟩ | ⟨hw,rfl⟩
  ·rw[if_pos hw];rcases hy.2 with ⟨_,h2⟩ | ⟨hw',_⟩
   ·exact⟨v,⟨h1,h2⟩,h⟩
   ·rw[hw] at hw';cases hw'
  ·rw[if_neg (by rw[hw];exact Bool.false_ne_true)];exact h
theorem kQ.put {i:Nat} {oi:Oper} {v:Value} {a:Act} {oj:Oper} (hap:oi.apart ops oj=true) (hsi:∀ cs b,oi.op≠.select cs b) (hy:kQ P ops D0 D1 ia va i oi v a) (u:Value) :
  kQ P ops D0 D1 ia va i oi v (a.put oj.dst u):=by
 obtain⟨h1,h2,h3⟩:=Oper.apart_spec hap;unfold kQ at *;by_cases he:i=ia
 ·rw[if_pos he] at hy ⊢;exact hy
 ·rw[if_neg he] at hy ⊢;exact⟨hy.1.of_same (execOp_put oi hsi a oj.dst u h3) (wanted_put oi a oj.dst u h3),hy.2.of_same (execOp_put oi hsi a oj.dst u h3) (wanted_put oi a oj.dst u h3)⟩
theorem aAn {i j:Nat} {oi oj:Oper} {v:Value} (hj:ops[j]?=aC oj) (hap:oi.apart ops oj=true)
  (hsi:∀ cs b,oi.op≠.select cs b) (hsj:∀ cs b,oj.op≠.select cs b) {K:Act->Prop} {a:Act}
  (hy:kQ P ops D0 D1 ia va i oi v a) (h:op2 P ops D0 D1 ia va j K (a.put oi.dst v)) :
  op2 P ops D0 D1 ia va j (fun a'=>kQ P ops D0 D1 ia va i oi v a'/\K (a'.put oi.dst v)) a:=by
 obtain⟨h1,h2,h3⟩:=Oper.apart_spec hap;unfold op2 at *;simp only[hj] at *;by_cases he:j=ia
 ·rw[if_pos he] at h ⊢;exact⟨hy.put hap hsi _,by rw[<- Act.put_comm a v va h2];exact h⟩
 ·rw[if_neg he] at h ⊢;rw[wanted_put oj a oi.dst v h1] at h;by_cases hw:Region.wanted oj (yielded ops a.tmps)=true
  ·rw[if_pos hw] at h ⊢;obtain⟨u,⟨hu0,hu1⟩,hn⟩:=h;refine⟨u,⟨fun w hw'=>?_,fun w hw'=>?_⟩,hy.put hap hsi _,by rw[<- Act.put_comm a v u h2];exact hn⟩
   ·have:=hu0 w hw';unfold Oper.quietAt at *
    rwa [execOp_put oj hsj a oi.dst v h1] at this
   ·have:=hu1 w hw';unfold Oper.quietAt at *
    rwa [execOp_put oj hsj a oi.dst v h1] at this
  ·rw[if_neg hw] at h ⊢;exact⟨hy.put hap hsi _,by rw[<- Act.put_comm a v undef h2];exact h⟩
def Ow (P:Program) (md:Region.Mode) (ops:Array Oper) (D0 D1:World->Prop) (ia:Nat) (va:Value) (n:Nat) (L:Array Bool->Act->Prop):Nat->Array Bool->Act->Prop
 | 0,listed,a=>L listed a
 | f+1,listed,a=>
  Region.ready md ops listed≠[]/\∀ i∈Region.ready md ops listed,i < n/\op2 P ops D0 D1 ia va i (Ow P md ops D0 D1 ia va n L f (listed.setIfInBounds i true)) a
def D2 (D0 D1:World->Prop) (ia:Nat) (listed:Array Bool) (w:World):Prop:=if listed.getD ia false=true then D1 w else D0 w
theorem Ut {i:Nat} {a:Act} {K:Act->Prop} {K':Act->World->Prop} {Q':Exit->Act->World->Prop} {w:World} {listed:Array Bool} (hia:ops[ia]?=aC oa) (hga:oa.guard=aD)
  (hrun:∀ (a:Act) (w:World),D0 w->∃ w',(execOp a.eval oa).run P w=.ok (.value va) w'/\D1 w') (hi:i∈Region.ready md ops listed) (hil:i < listed.size) (hw:D2 D0 D1 ia listed w)
  (h:∀ a w',D2 D0 D1 ia (listed.setIfInBounds i true) w'->K a->K' a w') (hh:op2 P ops D0 D1 ia va i K a):wpOp P ops Q' i K' a w:=by
 have hun:=(mem_ready.1 hi).1;unfold op2 at hh;unfold wpOp;by_cases he:i=ia
 ·subst he;simp only[hia,if_true] at hh ⊢;have hwd:Region.wanted oa (yielded ops a.tmps)=true:=by simp[Region.wanted,hga]
  rw[if_pos hwd];have h0:D0 w:=by
   unfold D2 at hw;rw[if_neg] at hw
   ·exact hw
   ·rw[getD_both hun];exact Bool.false_ne_true
  obtain⟨w',hr,h1⟩:=hrun a w h0
  left;unfold Oper.wp;rw[hr];show K' (a.put oa.dst va) w';refine h _ _ ?_ hh;unfold D2;rw[if_pos]
  ·exact h1
  ·simp[hil]
 ·have hset:∀ w,D2 D0 D1 ia listed w->D2 D0 D1 ia (listed.setIfInBounds i true) w:=fun w hw=>by
   unfold D2 at *;rw[getD_set_ne false he];exact hw
  cases ho:ops[i]? with
  | none=>simp only[ho] at hh ⊢;exact h _ _ (hset _ hw) hh
  | some o=>
   simp only[ho] at hh ⊢;rw[if_neg he] at hh;by_cases hwd:Region.wanted o (yielded ops a.tmps)=true
   ·rw[if_pos hwd] at hh ⊢;obtain⟨v,⟨h0,h1⟩,h2⟩:=hh
    left;by_cases hb:listed.getD ia false=true
    ·have hw1:D1 w:=by unfold D2 at hw;rwa [if_pos hb] at hw
     refine Oper.wp_of_quiet (C:=D1) hw1 (K:=fun a'=>a'=a.put o.dst v) (fun a' w' hw' e=>?_) ⟨v,h1,rfl⟩;subst e;refine h _ _ (hset _ ?_) h2;unfold D2;rw[if_pos hb];exact hw'
    ·have hw0:D0 w:=by unfold D2 at hw;rwa [if_neg hb] at hw
     refine Oper.wp_of_quiet (C:=D0) hw0 (K:=fun a'=>a'=a.put o.dst v) (fun a' w' hw' e=>?_) ⟨v,h0,rfl⟩;subst e;refine h _ _ (hset _ ?_) h2;unfold D2;rw[if_neg hb];exact hw'
   ·rw[if_neg hwd] at hh ⊢;exact h _ _ (hset _ hw) hh
theorem yJ {n g:Nat} {L:Array Bool->Act->Prop} {Q':Exit->Act->World->Prop} (hia:ops[ia]?=aC oa) (hga:oa.guard=aD)
  (hrun:∀ (a:Act) (w:World),D0 w->∃ w',(execOp a.eval oa).run P w=.ok (.value va) w'/\D1 w') (hL:∀ listed a w,D2 D0 D1 ia listed w->L listed a->wpAny P md ops Q' g listed a w) :
  ∀ (f:Nat) (listed:Array Bool) (a:Act) (w:World),listed.size=ops.size->D2 D0 D1 ia listed w->Ow P md ops D0 D1 ia va n L f listed a->wpAny P md ops Q' (f+g) listed a w
 | 0,listed,a,w,_,hw,h=>by rw[aBE];exact hL _ _ _ hw h
 | f+1,listed,a,w,hs,hw,h=>by
  rw[show f+1+g=(f+g)+1 by omega];refine⟨fun h0=>absurd h0 h.1,fun i hi=>?_⟩;have hil:i < listed.size:=by
   rcases aBK i listed.size with hh | hh
   ·exact hh
   ·have:=(mem_ready.1 hi).1;simp[Array.getElem?_eq_none hh] at this
  exact Ut hia hga hrun hi hil hw (fun a' w' hw' h'=>yJ hia hga hrun hL f _ a' w' (by simp[hs]) hw' h') (h.2 i hi).2
theorem Ov {n i:Nat} {oi:Oper} {v:Value} {L:Array Bool->Act->Prop} (hi:ops[i]?=aC oi) (hsel:∀ (j:Nat) (o:Oper) cs b,ops[j]?=aC o->o.op≠.select cs b)
  (hs:Region.sinkB md ops n=true) (hc:Region.chainB md ops n=true) (hn:n < ops.size) (hin:i < n)
  (hdone:∀ listed a,L listed a->∀ j∈Region.ready md ops listed,n<=j) :
  ∀ (f:Nat) (listed:Array Bool) (a:Act),HeadInv md ops n listed->
   (∀ j oj,ops[j]?=aC oj->j≠i->listed.getD j true=false->(∀ e∈oj.after,Region.binds md e=true->e.on≠i)->oi.apart ops oj=true)->
   i∈Region.ready md ops listed->kQ P ops D0 D1 ia va i oi v a->
   Ow P md ops D0 D1 ia va n L f (listed.setIfInBounds i true) (a.put oi.dst v)->Ow P md ops D0 D1 ia va n L (f+1) listed a:=by
 intro f
 induction f with
 | zero=>
  intro listed a inv _ hr hy H;have hun:=(mem_ready.1 hr).1;refine⟨fun h=>(by rw[h] at hr;cases hr),fun j hj=>?_⟩;have hjn:j < n:=(aBK j n).elim id (fun h=>absurd hj (tail_waits hs hc hn inv _ i rfl hin hun j h));refine⟨hjn,?_⟩;by_cases hji:j=i
  ·subst hji;exact hy.op hi H
  ·have:=hdone _ _ H j (ready_mono hj hji);omega
 | succ f ih=>
  intro listed a inv hfree hr hy H;have hun:=(mem_ready.1 hr).1;refine⟨fun h=>(by rw[h] at hr;cases hr),fun j hj=>?_⟩;have hjn:j < n:=(aBK j n).elim id (fun h=>absurd hj (tail_waits hs hc hn inv _ i rfl hin hun j h));refine⟨hjn,?_⟩;by_cases hji:j=i
  ·subst hji;exact hy.op hi H
  ·obtain⟨hjun,oj,hoj,hall⟩:=mem_ready.1 hj;have hnot:∀ e∈oj.after,Region.binds md e=true->e.on≠i:=fun e he hb heq=>by
    have h1:=hall e he hb;rw[heq,getD_both hun] at h1;cases h1
   have h2:=aAn hoj (hfree j oj hoj hji hjun hnot) (fun cs b=>hsel i oi cs b hi) (fun cs b=>hsel j oj cs b hoj) hy (H.2 j (ready_mono hj hji)).2;have hfree':∀ k ok,ops[k]?=aC ok->k≠i->(listed.setIfInBounds j true).getD k true=false->
     (∀ e∈ok.after,Region.binds md e=true->e.on≠i)->oi.apart ops ok=true:=fun k ok hk hki hk2 hno=>by
    refine hfree k ok hk hki ?_ hno;by_cases hjk:j=k
    ·subst hjk;exact hjun
    ·rwa [getD_set_ne true hjk] at hk2
   refine Yl (fun a' h3=>ih (listed.setIfInBounds j true) a' (inv.set hj hjn) hfree' (ready_mono hr (Ne.symm hji)) h3.1 ?_) h2;rw[aBL _ _ hji];exact h3.2
def gW (P:Program) (ops:Array Oper) (D0 D1:World->Prop) (ia:Nat) (va:Value) (Q:Act->Prop):Nat->List Oper->Act->Prop
 | _,[],a=>Q a
 | k,o::rest,a=>if k=ia then gW P ops D0 D1 ia va Q (k+1) rest (a.put o.dst va) else if Region.wanted o (yielded ops a.tmps) then Ll P D0 D1 o a (gW P ops D0 D1 ia va Q (k+1) rest) else gW P ops D0 D1 ia va Q (k+1) rest (a.put o.dst undef)
theorem Jw {n g:Nat} {Lq:Act->Prop} (hsel:Region.noSelect ops=true) (hs:Region.sinkB md ops n=true) (hc:Region.chainB md ops n=true) (hn:n < ops.size) :
  ∀ (l:List Oper) (k:Nat) (listed:Array Bool) (a:Act),(∀ j,j < l.length->l[j]?=ops[k+j]?)->k+l.length=n->HeadInv md ops n listed->(∀ j,j < k->listed.getD j false=true)->
  Region.lexHead md ops g l.length k listed=true->gW P ops D0 D1 ia va Lq k l a->
  Ow P md ops D0 D1 ia va n (fun listed' a'=>Region.seqB md ops g n listed'=true/\(∀ j,j < n->listed'.getD j false=true)/\Lq a') l.length listed a
 | [],k,listed,a,_,hk,_,hall,hB,h=>by
  have:k=n:=by simpa using hk
  subst this;exact⟨by simpa[Region.lexHead] using hB,hall,h⟩
 | o::l,k,listed,a,hl,hk,inv,hall,hB,h=>by
  have h0:ops[k]?=aC o:=by simpa using(hl 0 (by simp)).symm
  simp only[aBB,Region.lexHead,Bool.and_eq_true] at hB;obtain⟨⟨hr,hf⟩,hB'⟩:=hB;have hkn:k < n:=by simp only[aBB] at hk;omega
  have hr':k∈Region.ready md ops listed:=by simpa using hr
  have hst:op2 P ops D0 D1 ia va k (gW P ops D0 D1 ia va Lq (k+1) l) a:=by
   unfold op2;simp only[h0];exact h
  obtain⟨v,hy,hK⟩:=Qg h0 hst;have hall':∀ j,j < k+1->(listed.setIfInBounds k true).getD j false=true:=fun j hj=>by
   by_cases e:k=j
   ·subst e;have:k < listed.size:=by rw[inv.size];omega
    simp[this]
   ·rw[getD_set_ne false e];exact hall j (by omega)
  exact Ov h0 (Region.noSelect_spec hsel) hs hc hn hkn (fun listed' a' hL=>seqB_ready hL.1) l.length listed a inv (Region.free_spec h0 hf) hr' hy
   (Jw hsel hs hc hn l (k+1) _ _ (fun j hj=>by have:=hl (j+1) (by simp;omega);simpa[aBI,aBM 1 j] using this) (by simp only[aBB] at hk;omega) (inv.set hr' hkn) hall' hB' hK)
theorem xJ {id:Nat} {Q:Exit->Act->World->Prop} {a:Act} {w:World} {l:List Oper} (n ia:Nat) {oa:Oper} {va:Value} {D0 D1:World->Prop} (hm:P.follows .mixedOrders=true) (hB:Region.lexTailB .any l.toArray n=true)
  (hia:l[ia]?=aC oa) (han:ia < n) (hga:oa.guard=aD) (hrun:∀ (a:Act) (w:World),D0 w->∃ w',(execOp a.eval oa).run P w=.ok (.value va) w'/\D1 w') (hC:D0 { w with drawn:=w.drawn+1 })
  (h:gW P l.toArray D0 D1 ia va (fun a'=>∀ w',D1 w'->wpList P l.toArray Q (l.drop n) a' w') 0 (l.take n) a):(Code.region id l.toArray true).wp P Q a w:=by
 simp only[Region.lexTailB,Bool.and_eq_true,decide_eq_true_eq] at hB;obtain⟨⟨⟨⟨hsel,hn⟩,hs⟩,hc⟩,hlex⟩:=hB;have hn':n < l.length:=by simpa using hn
 have htl:(l.take n).length=n:=by simp;omega
 have hdl:(l.drop n).length=l.toArray.size - n:=by simp
 have inv0:HeadInv .any l.toArray n (Array.replicate l.toArray.size false):=
  ⟨by simp,fun j oj _ hl=>(by rw[getD_replicate_false] at hl;cases hl),fun t _ ht=>getD_in (by simpa using ht) (getD_replicate_false _ _)⟩
 have H:=Jw (md:=.any) (g:=l.toArray.size - n) hsel hs hc hn (l.take n) 0 _ a (fun j hj=>by
  have hj':j < n:=by rw[htl] at hj;exact hj
  simp[hj']) (by simpa using htl) inv0 (fun j hj=>absurd hj (aBn _)) (by rw[htl];exact hlex) h
 refine wp_region_any hm ?_;have:=yJ (Q':=Q) (g:=l.toArray.size - n) (oa:=oa) (by simpa using hia) hga hrun (fun listed a' w' hw' hL=>by
  have hw1:D1 w':=by unfold D2 at hw';rwa [if_pos (hL.2.1 ia han)] at hw'
  have:=wpAny_of_seq (md:=.any) (Q':=Q) (l.drop n) n listed a' w' (fun j=>by simp[aBN]) (by rw[hdl];exact hL.1) (hL.2.2 w' hw1)
  rwa [hdl] at this) _ _ _ _ (by simp) (by unfold D2;rw[if_neg (by rw[getD_replicate_false];exact Bool.false_ne_true)];exact hC) H
 rw[htl,show n+(l.toArray.size - n)=l.toArray.size by omega] at this;exact this
theorem Kr {k:Nat} {Q:Act->Prop} {a:Act} (h:Q a):gW P ops D0 D1 ia va Q k [] a:=h
theorem pS {k:Nat} {Q:Act->Prop} {a:Act} {o:Oper} {rest:List Oper} (hk:(k == ia)=false)
  (h:∀ K:Act->Prop,(∀ a,gW P ops D0 D1 ia va Q (k+1) rest a->K a)->if Region.wanted o (yielded ops a.tmps) then Ll P D0 D1 o a K else K (a.put o.dst undef)):gW P ops D0 D1 ia va Q k (o::rest) a:=by
 unfold gW;rw[if_neg (by simpa using hk)];exact h _ (fun _ h=>h)
theorem Da {k:Nat} {Q:Act->Prop} {a:Act} {o:Oper} {rest:List Oper} (hk:(k == ia)=true) (h:gW P ops D0 D1 ia va Q (k+1) rest (a.put o.dst va)):gW P ops D0 D1 ia va Q k (o::rest) a:=by
 unfold gW;rw[if_pos (by simpa using hk)];exact h
end
theorem Cd {P:Program} {id:Nat} {Q:Exit->Act->World->Prop} {a:Act} {w:World} {l:List Oper} (n ia:Nat) {oa:Oper} (o:Obj) (hm:P.follows .mixedOrders=true) (hB:Region.lexTailB .any l.toArray n=true)
  (hia:l[ia]?=aC oa) (han:(decide (ia < n))=true) (hga:oa.guard=aD) (hrun:∀ (a:Act) (w:World),(execOp a.eval oa).run P w=.ok (.value (.pointer (aC ⟨w.heap.size,0,aD⟩))) (w.alloc o))
  (h:gW P l.toArray (fun w'=>∃ m,w'=w.drewN m) (fun w'=>∃ m,w'=(w.alloc o).drewN m) ia (.pointer (aC ⟨w.heap.size,0,aD⟩)) (fun a'=>∀ m,wpList P l.toArray Q (l.drop n) a' ((w.alloc o).drewN m)) 0 (l.take n) a):(Code.region id l.toArray true).wp P Q a w:=by
 refine xJ (D0:=fun w'=>∃ m,w'=w.drewN m) (D1:=fun w'=>∃ m,w'=(w.alloc o).drewN m) (va:=.pointer (aC ⟨w.heap.size,0,aD⟩)) n ia hm hB hia (of_decide_eq_true han) hga ?_ ⟨1,rfl⟩ ?_
 ·rintro a _ ⟨m,rfl⟩;refine⟨_,hrun a _,m,?_⟩;rfl
 ·have e:(fun a'=>∀ w',(∃ m,w'=(w.alloc o).drewN m)->wpList P l.toArray Q (l.drop n) a' w')=(fun a'=>∀ m,wpList P l.toArray Q (l.drop n) a' ((w.alloc o).drewN m)):=by
   funext a';exact propext ⟨fun h m=>h _ ⟨m,rfl⟩,fun h w' ⟨m,e⟩=>e▸h m⟩
  rw[e];exact h
theorem pB {α:Type} {f:List α} {k:Nat} (h:k < f.length):∃ x,f[k]?=aC x:=⟨f[k],by simp[h]⟩
theorem bK {f:List Run} {k:Nat} {x:Run} (h:f[k]?=aC x):bW f k=x.At:=by simp[bW,aBt,h]
theorem cT {f:List Run} {k:Nat} {x:Run} (h:f[k]?=aC x):iN f k=x.N:=by simp[iN,aBt,h]
theorem Pp (a b:Int) (w:World) (h1:0<=a) (h2:a < b) (h3:b<=48):Calls prog 87 #[aA aB a,aA aB b] w fun e w'=>e=.returned (.bool true)/\w=w':=by
 go_enter func87,ntmps87
 go_wp2
 go_ret;exact⟨rfl,rfl⟩
theorem aAv (a b:Int) (w:World) (h:¬ (0<=a/\a < b/\b<=48)):Calls prog 87 #[aA aB a,aA aB b] w fun e w'=>e=.returned (.bool false)/\w=w':=by
 by_cases h1:0<=a
 ·by_cases h2:a < b
  ·have h3:¬ b<=48:=fun h3=>h ⟨h1,h2,h3⟩;clear h;go_enter func87,ntmps87
   go_wp2
   go_ret;exact⟨rfl,rfl⟩
  ·clear h;go_enter func87,ntmps87
   go_wp2
   go_ret;exact⟨rfl,rfl⟩
 ·clear h;go_enter func87,ntmps87
  go_wp2
  go_ret;exact⟨rfl,rfl⟩
theorem Od (w:World) (b off cap:Nat) (f:List Run) (k:Nat) (hl:f.length<=17592186044416) (hb:b < w.heap.size) (hE:∀ k x,f[k]?=aC x->vA w b (off+k*2) x) (hk:k < f.length) :
  Calls prog 166 #[aE (aC ⟨b,off,aD⟩) f.length cap,aA aB k] w fun e w'=>e=.returned (aA aB (cH f k))/\w=w':=by
 by_cases h:k+1 < f.length
 ·obtain⟨x,hx⟩:=pB h;obtain⟨c1,c2,c3,c4⟩:=hE (k+1) x hx;have hn:cH f k=x.At:=by rw[gS h,bK hx]
  have Hn:=hid hn;have h':(k:Int)+1 < (f.length:Int):=by omega
  clear hn hx hE;generalize f.length=n at *;go_enter func166,ntmps166
  go_wp2
  go_ret;exact⟨bB Hn.out.symm,rfl⟩
 ·have hn:=hid (gZ h);have h':¬ (k:Int)+1 < (f.length:Int):=by omega
  clear hE;generalize hfl:f.length=n at *;clear hfl;go_enter func166,ntmps166
  go_wp2
  go_ret;exact⟨bB hn.out.symm,rfl⟩
theorem Cu (w:World) (at_ n t:Int) (h0:0<=at_) (h1:at_<=48) (h2:0<=t) (h3:t<=48) :
  Calls prog 196 #[.agg #[aA aB at_,aA aB n],aA aB t] w fun e w'=>e=.returned (aA aB (at_ - t))/\Ext w w':=by
 go_enter func196,ntmps196
 go_wp2
 go_ret;exact⟨rfl,(Ext.rf _).al _⟩
theorem Fi {f:List Run} (hs:dI f) {i j:Nat} (hij:i < j) (hj:j < f.length):bW f i < bW f j:=by
 induction j with
 | zero=>omega
 | succ j ih=>
  have h:=cM hs (i:=j) (by omega);rw[gS hj] at h;by_cases e:i=j
  ·subst e;exact h.2.1
  ·have:=ih (by omega) (by omega);omega
theorem by_lt {f:List Run} (hs:dI f) {k:Nat} {x:Run} {t:Int} (hx:f[k]?=aC x) (hk:k < f.length) (h:x.At < t):∀ m,m<=k->bW f m < t:=fun m hm=>by
 rw[<- bK hx] at h;by_cases e:m=k
 ·subst e;exact h
 ·have:=Fi hs (i:=m) (j:=k) (by omega) hk;omega
theorem by_ge {f:List Run} (hs:dI f) {k:Nat} {x:Run} {t:Int} (hx:f[k]?=aC x) (h:t<=x.At):∀ m,k<=m->m < f.length->t<=bW f m:=fun m hm hmn=>by
 rw[<- bK hx] at h;by_cases e:k=m
 ·subst e;exact h
 ·have:=Fi hs (i:=k) (j:=m) (by omega) hmn;omega
def Found (f:List Run) (t:Int) (w:World) (e:Ending) (w':World):Prop:=
 ∃ (i:Nat) (b:Bool),e=.returned (.tuple #[aA aB i,.bool b])/\i<=f.length/\(∀ j,j < i->bW f j < t)/\(∀ j,i<=j->j < f.length->t<=bW f j)/\(b=true↔i < f.length/\bW f i=t)/\Ext w w'
theorem Qn (w:World) (b off cap:Nat) (f:List Run) (t:Int) (hs:dI f) (hm:cap<=9223372036854775807) (hl:f.length<=cap) (hb:b < w.heap.size) (hE:∀ k x,f[k]?=aC x->vA w b (off+k*2) x) (h2:0<=t) (h3:t<=48) :
  Calls prog 195 #[aE (aC ⟨b,off,aD⟩) f.length cap,aA aB t,.func (.func 196) #[] #[]] w (Found f t w):=by
 have hlen:=jF hs;have HE:=hid hE;have Hs:=hid hs;clear hE hs;generalize hn:f.length=n at *;have Hn:=hid hn;clear hn;go_enter func195,ntmps195
 go_wp2_with fail
 go_loopw [9,10] (fun a c wr=>∃ i j:Nat,i<=j/\j<=n/\a=aA aB i/\c=aA aB j/\Hid ((∀ m,m < i->bW f m < t)/\(∀ m,j<=m->m < n->t<=bW f m))/\Ext w wr) (fun a c _=>(intOf c - intOf a).toNat)
 case atStart=>exact⟨0,n,aBO _,aBq _,rfl,rfl,⟨fun m hm=>absurd hm (aBn _),fun m h1 h2=>by omega⟩,Ext.rf _⟩
 case round=>
  obtain⟨i,j,hij,hjn,rfl,rfl,H,hx⟩:=hrel;have hbw:b < wr.heap.size:=aBA hb hx.size;by_cases hlt:i < j
  ·obtain⟨x,hxm⟩:=pB (f:=f) (k:=(i+j) / 2) (by rw[Hn.out];omega);obtain⟨c1,c2,c3,c4⟩:=HE.out ((i+j) / 2) x hxm;replace c1:=hx.ce' c1;replace c2:=hx.ce' c2;have hr:=cM Hs.out (i:=(i+j) / 2) (by rw[Hn.out];omega);rw[bK hxm] at hr;obtain⟨r1,r2,r3,_⟩:=hr;have hr48:x.At<=48:=by omega
   have Hx:=hid hxm;clear hxm r2 r3;by_cases hc:x.At < t
   ·go_wp2_with (go_at_call 196;refine(Cu _ _ _ _ r1 hr48 h2 h3).mono ?_;rintro e w1 ⟨rfl,hx1⟩)
    go_roundw
    case rel=>exact⟨(i+j) / 2+1,j,by omega,by omega,by go_num,rfl,⟨fun m hm=>by_lt Hs.out Hx.out (by rw[Hn.out];omega) hc m (by omega),H.out.2⟩,hx.tr hx1⟩
    case measure=>simp[intOf];omega
   ·go_wp2_with (go_at_call 196;refine(Cu _ _ _ _ r1 hr48 h2 h3).mono ?_;rintro e w1 ⟨rfl,hx1⟩)
    go_roundw
    case rel=>exact⟨i,(i+j) / 2,by omega,by omega,rfl,by go_num,⟨H.out.1,fun m hm hmn=>by_ge Hs.out Hx.out (by omega) m hm (by rw[Hn.out];exact hmn)⟩,hx.tr hx1⟩
    case measure=>simp[intOf];omega
  ·obtain rfl:i=j:=by omega
   by_cases hin:i < n
   ·obtain⟨x,hxm⟩:=pB (f:=f) (k:=i) (by rw[Hn.out];omega);obtain⟨c1,c2,c3,c4⟩:=HE.out i x hxm;replace c1:=hx.ce' c1;replace c2:=hx.ce' c2;have hr:=cM Hs.out (i:=i) (by rw[Hn.out];omega);rw[bK hxm] at hr;obtain⟨r1,r2,r3,_⟩:=hr;have hr48:x.At<=48:=by omega
    have Hx:=hid hxm;have hin':(i:Int) < (n:Int):=by omega
    clear hxm r2 r3;by_cases hc:x.At=t
    ·have hq:=eqT (a:=x.At - t) (b:=0) (by omega);have Hc:=hid hc;clear hc
     go_wp2_with (go_at_call 196;refine(Cu _ _ _ _ r1 hr48 h2 h3).mono ?_;rintro e w1 ⟨rfl,hx1⟩)
     go_ret2
     exact⟨i,true,rfl,by rw[Hn.out];exact hjn,H.out.1,by rw[Hn.out];exact H.out.2,by rw[Hn.out,bK Hx.out];simp[hin,Hc.out],hx.tr hx1⟩
    ·have hq:=eqF (a:=x.At - t) (b:=0) (by omega)
     go_wp2_with (go_at_call 196;refine(Cu _ _ _ _ r1 hr48 h2 h3).mono ?_;rintro e w1 ⟨rfl,hx1⟩)
     go_ret2
     exact⟨i,false,rfl,by rw[Hn.out];exact hjn,H.out.1,by rw[Hn.out];exact H.out.2,by rw[Hn.out,bK Hx.out];simp[hc],hx.tr hx1⟩
   ·have hin':¬ (i:Int) < (n:Int):=by omega
    go_wp2_with fail
    go_ret2
    exact⟨i,false,rfl,by rw[Hn.out];exact hjn,H.out.1,by rw[Hn.out];exact H.out.2,by rw[Hn.out];simp[hin],hx⟩
theorem Ur (w:World) (b off cap:Nat) (f:List Run) (t:Int) (hs:dI f) (hm:cap<=9223372036854775807) (hl:f.length<=cap) (hb:b < w.heap.size) (hE:∀ k x,f[k]?=aC x->vA w b (off+k*2) x) (h2:0<=t) (h3:t < 48) :
  Calls prog 177 #[aE (aC ⟨b,off,aD⟩) f.length cap,aA aB t] w fun e w'=>e=.returned (aA aB (sp f t.toNat))/\Ext w w':=by
 have hsearch:=Qn w b off cap f t hs hm hl hb hE h2 (by omega);have S:=hid hsearch;have HE:=hid hE;have Hs:=hid hs;have hlen:=jF hs;clear hE hs hsearch;generalize hn:f.length=n at *;have Hn:=hid hn;clear hn;go_enter func177,ntmps177
 go_wp2_with fail
 refine S.out.mono ?_;rintro e w1 ⟨i,fb,rfl,f1,f2,f3,f4,hx⟩;have hz:=kS Hs.out;cases fb with
 | true=>
  have f5:=f4.1 rfl;obtain⟨x,hxi⟩:=pB (f:=f) (k:=i) f5.1;obtain⟨c1,c2,c3,c4⟩:=HE.out i x hxi;replace c1:=hx.ce' c1;replace c2:=hx.ce' c2;have hsp:sp f t.toNat=x.N:=by
   have h:=cM Hs.out f5.1;rw[<- cT hxi];exact h.2.2.2 t.toNat (by omega) (by omega)
  have Hsp:=hid hsp;have hin:(i:Int) < (n:Int):=by rw[Hn.out] at f5;omega
  clear f2 f3 f4 f5 hxi hsp hz
  go_wp2_with fail
  go_ret;exact⟨bB Hsp.out.symm,hx⟩
 | false=>
  have f5:¬ (i < f.length/\bW f i=t):=fun h=>by have:=f4.2 h;cases this
  have hi0:0 < i:=by
   rcases Nat.eq_zero_or_pos i with h | h
   ·subst h;exact absurd ⟨hz.1,by have:=f3 0 (aBq _) hz.1;omega⟩ f5
   ·exact h
  obtain⟨x,hxi⟩:=pB (f:=f) (k:=i - 1) (by omega);obtain⟨c1,c2,c3,c4⟩:=HE.out (i - 1) x hxi;replace c1:=hx.ce' c1;replace c2:=hx.ce' c2;have hsp:sp f t.toNat=x.N:=by
   have h:=cM Hs.out (i:=i - 1) (by omega);rw[<- cT hxi];have h1:=f2 (i - 1) (by omega);refine h.2.2.2 t.toNat (by omega) ?_;by_cases hi:i < f.length
   ·rw[gS (by omega),show i - 1+1=i by omega];have h4:=f3 i (aBq _) hi;have:bW f i≠t:=fun e=>f5 ⟨hi,e⟩;omega
   ·rw[gZ (by omega)];omega
  have Hsp:=hid hsp;have hin:(i:Int) - 1 < (n:Int):=by rw[Hn.out] at f1;omega
  have hin0:(0:Int)<=(i:Int) - 1:=by omega
  have hi1:(0:Int) < (i:Int):=by omega
  clear f2 f3 f4 f5 hxi hsp hz
  go_wp2_with fail
  go_ret;exact⟨bB Hsp.out.symm,hx⟩
theorem aA1 (w:World) (b off cap:Nat) (f:List Run) (s t:Int) (hs:dI f) (hm:cap<=9223372036854775807) (hl:f.length<=cap) (hb:b < w.heap.size) (hE:∀ k x,f[k]?=aC x->vA w b (off+k*2) x) (h1:0<=s) (h2:s < t) (h3:t<=48) :
  Calls prog 154 #[aE (aC ⟨b,off,aD⟩) f.length cap,aA aB s,aA aB t] w fun e w'=>e=.returned (aA aB (xS (sp f) s.toNat t.toNat))/\Ext w w':=by
 have hat:=Ur w b off cap f s hs hm hl hb hE h1 (by omega);have S:=hid hat;have HE:=hid hE;have Hs:=hid hs;have hlen:=jF hs;clear hE hs hat;obtain⟨a,rfl⟩:=aBP h1;obtain⟨c,rfl⟩:=aBP (show 0<=t by omega);rw[aBQ,aBQ];generalize hn:f.length=n at *;have Hn:=hid hn;clear hn;go_enter func154,ntmps154
 go_wp2_with fail
 refine S.out.mono ?_;rintro e w1 ⟨rfl,hx⟩;rw[aBQ]
 go_wp2_with fail
 go_loopw [7,15] (fun v i wr=>∃ k:Nat,k<=n/\i=aA aB k/\v=aA aB (sD f (sp f) a c k)/\Ext w wr) (fun _ i _=>n - (intOf i).toNat)
 case atStart=>exact⟨0,aBO _,rfl,by rw[Oj Hs.out],hx⟩
 case round=>
  obtain⟨k,hk,rfl,rfl,hx⟩:=hrel;have hbw:b < wr.heap.size:=aBA hb hx.size;by_cases hlt:k < n
  ·obtain⟨x,hxk⟩:=pB (f:=f) (k:=k) (by rw[Hn.out];exact hlt);obtain⟨c1,c2,c3,c4⟩:=HE.out k x hxk;replace c1:=hx.ce' c1;replace c2:=hx.ce' c2;have hstep:=Rl Hs.out (a:=a) (b:=c) (by omega) (by omega) (k:=k) (by rw[Hn.out];exact hlt);rw[bK hxk,cT hxk] at hstep;have Hx:=hid hxk;by_cases t1:(a:Int) < x.At
   ·by_cases t2:x.At < (c:Int)
    ·rw[if_pos ⟨t1,t2⟩] at hstep;have Hst:=hid hstep;clear hstep hxk;generalize sD f (sp f) a c k=q at *
     go_wp2_with fail
     go_roundw
     case rel=>exact⟨k+1,by omega,by go_num,by rw[Hst.out,minw],hx.al _⟩
     case measure=>simp[intOf];omega
    ·rw[if_neg (fun h=>t2 h.2)] at hstep;have Hst:=hid hstep;clear hstep hxk;generalize sD f (sp f) a c k=q at *
     go_wp2_with fail
     go_roundw
     case rel=>exact⟨k+1,by omega,by go_num,by rw[Hst.out],hx.al _⟩
     case measure=>simp[intOf];omega
   ·rw[if_neg (fun h=>t1 h.1)] at hstep;have Hst:=hid hstep;clear hstep hxk;generalize sD f (sp f) a c k=q at *
    go_wp2_with fail
    go_roundw
    case rel=>exact⟨k+1,by omega,by go_num,by rw[Hst.out],hx.al _⟩
    case measure=>simp[intOf];omega
  ·obtain rfl:k=n:=by omega
   have he:=Vx (f:=f) (sp f) (a:=a) (b:=c) (by omega) (by omega);rw[Hn.out] at he;have He:=hid he;clear he
   go_wp2_with fail
   go_ret;exact⟨bB He.out,hx⟩
theorem Ra (n:Int) (w:World) (h:kO n):Calls prog 86 #[aA aB n] w fun e w'=>e=.returned (.bool true)/\w'=w:=by
 obtain⟨h1,h2⟩:=h;go_enter func86,ntmps86
 go_wp2
 go_ret;exact⟨rfl,rfl⟩
theorem Vs (n:Int) (w:World) (h:¬ kO n):Calls prog 86 #[aA aB n] w fun e w'=>e=.returned (.bool false)/\w'=w:=by
 by_cases h1:-1048576<=n
 ·have h2:¬ n<=1048576:=fun h2=>h ⟨h1,h2⟩;clear h;go_enter func86,ntmps86
  go_wp2
  go_ret;exact⟨rfl,rfl⟩
 ·clear h;go_enter func86,ntmps86
  go_wp2
  go_ret;exact⟨rfl,rfl⟩
@[irreducible] def chk (f:List Run):Int:=if gM f then 0 else 1
theorem Mf {f:List Run} (h:gM f):chk f=0:=by unfold chk;rw[if_pos h]
theorem tR {f:List Run} (h:¬ gM f):chk f=1:=by unfold chk;rw[if_neg h]
theorem Jj {f:List Run} {k:Nat} (h:∀ j,j < k->Cg f j) (hk:Cg f k):∀ j,j < k+1->Cg f j:=fun j hj=>by
 by_cases e:j=k
 ·subst e;exact hk
 ·exact h j (by omega)
theorem Tk (w:World) (b off cap:Nat) (f:List Run) (hcap:f.length<=cap) (hm:cap<=9223372036854775807) (hl:f.length<=17592186044416) (hb:b < w.heap.size)
  (hE:∀ k x,f[k]?=aC x->vA w b (off+k*2) x) (h0:0 < f.length) :
  Calls prog 42 #[aE (aC ⟨b,off,aD⟩) f.length cap] w fun e w'=>e=.returned (aA aB (chk f))/\Ext w w':=by
 obtain⟨x0,hx0⟩:=pB h0;have e0:=hE 0 x0 hx0;obtain⟨e1,e2,e3,e4⟩:=e0;simp only[aBR,aBS] at e1 e2;have hne:((f.length:Int) == 0)=false:=eqF (by omega);generalize hn:f.length=n at *;have Hn:=hid hn;clear hn;by_cases hz:x0.At=0
 ·have hz1:(x0.At != 0)=false:=neF hz;have Hz:=hid hz;clear hz;go_enter func42,ntmps42
  go_wp2
  go_loopw [17] (fun c wr=>∃ k:Nat,k<=n/\c=aA aB k/\(∀ j,j < k->Cg f j)/\Ext w wr) (fun c _=>n - (intOf c).toNat)
  case atStart=>exact⟨0,aBO _,rfl,fun j hj=>absurd hj (aBn _),Ext.rf _⟩
  case round=>
   obtain⟨k,hk,rfl,hok,hx⟩:=hrel;have Hok:=hid hok;clear hok;have hbw:b < wr.heap.size:=aBA hb hx.size;by_cases hlt:k < n
   ·obtain⟨x,hxk⟩:=pB (f:=f) (k:=k) (by rw[Hn.out];exact hlt);obtain⟨c1,c2,c3,c4⟩:=hE k x hxk;replace c1:=hx.ce' c1;replace c2:=hx.ce' c2;have Hx:=hid hxk;clear hxk;have qc:∀ n (w:World),n=x.N->Calls prog 86 #[aA aB n] w fun e w'=>e=.returned (.bool (decide (kO x.N)))/\w'=w:=fun n w e=>by
     subst e;by_cases h:kO x.N
     ·rw[deT h];exact Ra _ _ h
     ·rw[deF h];exact Vs _ _ h
    have Qc:=hid qc;clear qc
    go_wp2
    by_cases t1:48<=x.At
    ·have no:¬ Cg f k:=fun h=>by have:=h.1;rw[bK Hx.out] at this;omega
     have hc:chk f=1:=tR (fun h=>no ((nJ.1 h).2.2 k (by rw[Hn.out];exact hlt)));have Hc:=hid hc;clear hc
     go_quiet (fail)
     go_wp2
     go_ret;exact⟨bB Hc.out.symm,(hx.al _).dn _⟩
    ·by_cases t2:kO x.N
     ·by_cases t3:k=0
      ·have hok':Cg f k:=⟨by rw[bK Hx.out];omega,by rw[cT Hx.out];exact t2,fun h=>by omega⟩;have Hok':=hid hok';clear hok';subst t3;have Q:=fun n w e=>by have:=Qc.out n w e;rw[deT t2] at this;exact this
       have HQ:=hid Q;clear Q
       go_quiet ((go_at_call 86;exact Calls.quiet_of_same (HQ.out _ _ rfl)))
       go_wp2
       go_roundw
       case rel=>exact⟨0+1,by omega,by go_num,Jj Hok.out Hok'.out,(hx.al _).dn _⟩
       case measure=>simp[intOf];omega
      ·have hk0:0 < k:=by omega
       have hk1:(0:Int) < (k:Int):=by omega
       obtain⟨y,hyk⟩:=pB (f:=f) (k:=k - 1) (by rw[Hn.out];omega);obtain⟨d1,d2,d3,d4⟩:=hE (k - 1) y hyk;replace d1:=hx.ce' d1;replace d2:=hx.ce' d2;have Hy:=hid hyk;clear hyk;have Q:=fun n w e=>by have:=Qc.out n w e;rw[deT t2] at this;exact this
       have HQ:=hid Q;clear Q;by_cases t4:x.At<=y.At
       ·have no:¬ Cg f k:=fun h=>by have:=(h.2.2 hk0).1;rw[bK Hx.out,bK Hy.out] at this;omega
        have hc:chk f=1:=tR (fun h=>no ((nJ.1 h).2.2 k (by rw[Hn.out];exact hlt)));have Hc:=hid hc;clear hc no
        go_quiet ((go_at_call 86;exact Calls.quiet_of_same (HQ.out _ _ rfl)))
        go_wp2
        go_ret;exact⟨bB Hc.out.symm,(hx.al _).dn _⟩
       ·by_cases t5:x.N=y.N
        ·have no:¬ Cg f k:=fun h=>by have:=(h.2.2 hk0).2;rw[cT Hx.out,cT Hy.out] at this;exact this t5
         have hc:chk f=1:=tR (fun h=>no ((nJ.1 h).2.2 k (by rw[Hn.out];exact hlt)));have Hc:=hid hc;have t6:=eqT t5;clear hc no t5
         go_quiet ((go_at_call 86;exact Calls.quiet_of_same (HQ.out _ _ rfl)))
         go_wp2
         go_ret;exact⟨bB Hc.out.symm,(hx.al _).dn _⟩
        ·have hok':Cg f k:=⟨by rw[bK Hx.out];omega,by rw[cT Hx.out];exact t2,fun _=>by rw[bK Hx.out,cT Hx.out,bK Hy.out,cT Hy.out];exact⟨by omega,t5⟩⟩;have Hok':=hid hok';have t6:=eqF t5;clear hok' t5
         go_quiet ((go_at_call 86;exact Calls.quiet_of_same (HQ.out _ _ rfl)))
         go_wp2
         go_roundw
         case rel=>exact⟨k+1,by omega,by go_num,Jj Hok.out Hok'.out,(hx.al _).dn _⟩
         case measure=>simp[intOf];omega
     ·have no:¬ Cg f k:=fun h=>by have:=h.2.1;rw[cT Hx.out] at this;exact t2 this
      have hc:chk f=1:=tR (fun h=>no ((nJ.1 h).2.2 k (by rw[Hn.out];exact hlt)));have Hc:=hid hc;have Q:=fun n w e=>by have:=Qc.out n w e;rw[deF t2] at this;exact this
      have HQ:=hid Q;clear Q hc no
      go_quiet ((go_at_call 86;exact Calls.quiet_of_same (HQ.out _ _ rfl)))
      go_wp2
      go_ret;exact⟨bB Hc.out.symm,(hx.al _).dn _⟩
   ·go_wp2
    go_ret;have hc:chk f=0:=Mf (nJ.2 ⟨by rw[Hn.out];exact h0,by rw[bK hx0];exact Hz.out,fun j hj=>Hok.out j (by rw[Hn.out] at hj;omega)⟩);exact⟨bB hc.symm,hx⟩
 ·have hz1:(x0.At != 0)=true:=neT hz;have hc:chk f=1:=tR (fun h=>hz (by rw[<- bK hx0];exact(nJ.1 h).2.1));have Hc:=hid hc;clear hc;go_enter func42,ntmps42
  go_wp2
  go_ret;exact⟨bB Hc.out.symm,Ext.rf _⟩
theorem cE (n lo hi:Int) (w:World) (h1:lo<=n) (h2:n<=hi):Calls prog 59 #[aA aB n,aA aB lo,aA aB hi] w fun e w'=>e=.returned (.bool true)/\w'=w:=by
 go_enter func59,ntmps59
 go_wp2
 go_ret;exact⟨rfl,rfl⟩
theorem dU (n lo hi:Int) (w:World) (h:¬ (lo<=n/\n<=hi)):Calls prog 59 #[aA aB n,aA aB lo,aA aB hi] w fun e w'=>e=.returned (.bool false)/\w'=w:=by
 by_cases h1:lo<=n
 ·have h2:¬ n<=hi:=fun h2=>h ⟨h1,h2⟩;clear h;go_enter func59,ntmps59
  go_wp2
  go_ret;exact⟨rfl,rfl⟩
 ·clear h;go_enter func59,ntmps59
  go_wp2
  go_ret;exact⟨rfl,rfl⟩
theorem Ro (n:Int) (w:World) (h1:0<=n) (h2:n<=47):Calls prog 100 #[aA aB n] w fun e w'=>e=.returned (.bool true)/\w'=w:=by
 go_enter func100,ntmps100
 go_wp2_with (go_at_call 59;refine(cE _ _ _ _ h1 h2).mono ?_;rintro e w' ⟨rfl,rfl⟩)
 go_ret;exact⟨rfl,rfl⟩
theorem Wf (n:Int) (w:World) (h:¬ (0<=n/\n<=47)):Calls prog 100 #[aA aB n] w fun e w'=>e=.returned (.bool false)/\w'=w:=by
 go_enter func100,ntmps100
 go_wp2_with (go_at_call 59;refine(dU _ _ _ _ h).mono ?_;rintro e w' ⟨rfl,rfl⟩)
 go_ret;exact⟨rfl,rfl⟩
theorem Xy (a b:Int) (w:World) (h1:0<=a) (h2:a < b) (h3:b<=48):Calls prog 101 #[aA aB a,aA aB b] w fun e w'=>e=.returned (.bool true)/\w'=w:=by
 have c1:=hid (cE a 0 48 w h1 (by omega));have c2:=hid (cE b 0 48 w (by omega) h3);go_enter func101,ntmps101
 go_wp2_with fail
 refine c1.out.mono ?_;rintro e w' ⟨rfl,rfl⟩
 go_wp2_with fail
 refine c2.out.mono ?_;rintro e w' ⟨rfl,rfl⟩
 go_wp2_with fail
 go_ret;exact⟨rfl,rfl⟩
theorem aAi (a b:Int) (w:World) (h:¬ (0<=a/\a < b/\b<=48)):Calls prog 101 #[aA aB a,aA aB b] w fun e w'=>e=.returned (.bool false)/\w'=w:=by
 by_cases h1:0<=a/\a<=48
 ·have c1:=hid (cE a 0 48 w h1.1 h1.2);by_cases h2:0<=b/\b<=48
  ·have c2:=hid (cE b 0 48 w h2.1 h2.2);have h3:¬ a < b:=fun h3=>h ⟨h1.1,h3,h2.2⟩;clear h h1 h2;go_enter func101,ntmps101
   go_wp2_with fail
   refine c1.out.mono ?_;rintro e w' ⟨rfl,rfl⟩
   go_wp2_with fail
   refine c2.out.mono ?_;rintro e w' ⟨rfl,rfl⟩
   go_wp2_with fail
   go_ret;exact⟨fD (deF (by omega)),rfl⟩
  ·have c2:=hid (dU b 0 48 w h2);clear h h1 h2;go_enter func101,ntmps101
   go_wp2_with fail
   refine c1.out.mono ?_;rintro e w' ⟨rfl,rfl⟩
   go_wp2_with fail
   refine c2.out.mono ?_;rintro e w' ⟨rfl,rfl⟩
   go_wp2_with fail
   go_ret;exact⟨rfl,rfl⟩
 ·have c1:=hid (dU a 0 48 w h1);clear h h1;go_enter func101,ntmps101
  go_wp2_with fail
  refine c1.out.mono ?_;rintro e w' ⟨rfl,rfl⟩
  go_wp2_with fail
  go_ret;exact⟨rfl,rfl⟩
def okR (f:List Run) (j:Nat):Prop:=(0<=bW f j/\bW f j<=47)/\kO (iN f j)/\(j=0->bW f j=0)/\(0 < j->bW f (j - 1) < bW f j/\iN f j≠iN f (j - 1))
theorem Ae {f:List Run}:gM f↔0 < f.length/\∀ j,j < f.length->okR f j:=by
 rw[nJ];constructor
 ·rintro⟨h1,h2,h3⟩;have pos:∀ j,j < f.length->0<=bW f j:=by
   intro j
   induction j with
   | zero=>intro _;omega
   | succ j ih=>intro hj;have:=ih (by omega);have:=(h3 (j+1) hj).2.2 (by omega);simp only[aBo] at this;omega
  refine⟨h1,fun j hj=>?_⟩;obtain⟨k1,k2,k3⟩:=h3 j hj;exact⟨⟨pos j hj,by omega⟩,k2,fun e=>by subst e;exact h2,k3⟩
 ·rintro⟨h1,h2⟩;exact⟨h1,(h2 0 h1).2.2.1 rfl,fun j hj=>by
   obtain⟨k1,k2,k3,k4⟩:=h2 j hj;exact⟨by omega,k2,k4⟩⟩
theorem Ym {f:List Run} {k:Nat} (h:∀ j,j < k->okR f j) (hk:okR f k):∀ j,j < k+1->okR f j:=fun j hj=>by
 by_cases e:j=k
 ·subst e;exact hk
 ·exact h j (by omega)
theorem Ij (w:World) (b off cap:Nat) (f:List Run) (hl:f.length<=17592186044416) (hb:b < w.heap.size) (hE:∀ k x,f[k]?=aC x->vA w b (off+k*2) x) :
  Calls prog 49 #[aE (aC ⟨b,off,aD⟩) f.length cap] w fun e w'=>e=.returned (.bool (decide (gM f)))/\Ext w w':=by
 have HE:=hid hE;clear hE;generalize hn:f.length=n at *;have Hn:=hid hn;clear hn;go_enter func49,ntmps49
 go_wp2_with fail
 go_loopw [3] (fun c wr=>∃ k:Nat,k<=n/\c=aA aB k/\Hid (∀ j,j < k->okR f j)/\Ext w wr) (fun c _=>n - (intOf c).toNat)
 case atStart=>exact⟨0,aBO _,rfl,fun j hj=>absurd hj (aBn _),Ext.rf _⟩
 case round=>
  obtain⟨k,hk,rfl,Hok,hx⟩:=hrel;have hbw:b < wr.heap.size:=aBA hb hx.size;by_cases hlt:k < n
  ·obtain⟨x,hxk⟩:=pB (f:=f) (k:=k) (by rw[Hn.out];exact hlt);obtain⟨c1,c2,c3,c4⟩:=HE.out k x hxk;replace c1:=hx.ce' c1;replace c2:=hx.ce' c2;have Hx:=hid hxk;clear hxk;have hlt':(k:Int) < (n:Int):=by omega
   have bad:¬ okR f k->decide (gM f)=false:=fun h=>decide_eq_false (fun hf=>h ((Ae.1 hf).2 k (by rw[Hn.out];exact hlt)));have Bad:=hid bad;clear bad;by_cases t1:0<=x.At/\x.At<=47
   ·have q1:=fun w=>Ro x.At w t1.1 t1.2;have Q1:=hid q1;clear q1;by_cases t2:kO x.N
    ·have q2:=fun w=>cE x.N (-1048576) 1048576 w t2.1 t2.2;have Q2:=hid q2;have T12:=hid (And.intro t1 t2);clear q2 t1 t2;by_cases t3:k=0
     ·subst t3;simp only[aBR,aBS] at c1 c2;by_cases t4:x.At=0
      ·have t5:=neF t4;have Hok':=hid (show okR f 0 from ⟨by rw[bK Hx.out];exact T12.out.1,by rw[cT Hx.out];exact T12.out.2,fun _=>by rw[bK Hx.out];exact t4,fun h=>absurd h (aBj _)⟩);clear t4
       go_wp2_with fail
       go_quiet (first | (go_at_call 100;exact Calls.quiet_of_same (Q1.out _)) | (go_at_call 59;exact Calls.quiet_of_same (Q2.out _)))
       go_wp2_with fail
       go_roundw
       case rel=>exact⟨0+1,by omega,by go_num,fun j hj=>(show j=0 by omega)▸Hok'.out,hx.dn _⟩
       case measure=>simp[intOf];omega
      ·have t5:=neT t4;have Hb:=hid (Bad.out (fun h=>t4 (by rw[<- bK Hx.out];exact h.2.2.1 rfl)));clear t4
       go_wp2_with fail
       go_quiet (first | (go_at_call 100;exact Calls.quiet_of_same (Q1.out _)) | (go_at_call 59;exact Calls.quiet_of_same (Q2.out _)))
       go_wp2_with fail
       go_ret;exact⟨fD Hb.out.symm,hx.dn _⟩
     ·have hk0:0 < k:=by omega
      have hk1:(0:Int) < (k:Int):=by omega
      have hk2:((k:Int) == 0)=false:=eqF (by omega);obtain⟨y,hyk⟩:=pB (f:=f) (k:=k - 1) (by rw[Hn.out];omega);obtain⟨d1,d2,d3,d4⟩:=HE.out (k - 1) y hyk;replace d1:=hx.ce' d1;replace d2:=hx.ce' d2;have Hy:=hid hyk;clear hyk;by_cases t4:x.At<=y.At
      ·have Hb:=hid (Bad.out (fun h=>by have:=(h.2.2.2 hk0).1;rw[bK Hx.out,bK Hy.out] at this;omega))
       go_wp2_with fail
       go_quiet (first | (go_at_call 100;exact Calls.quiet_of_same (Q1.out _)) | (go_at_call 59;exact Calls.quiet_of_same (Q2.out _)))
       go_wp2_with fail
       go_ret;exact⟨fD Hb.out.symm,hx.dn _⟩
      ·have t4a:=deF t4;have t4b:y.At < x.At:=by omega
       by_cases t5:y.N=x.N
       ·have Hb:=hid (Bad.out (fun h=>by have:=(h.2.2.2 hk0).2;rw[cT Hx.out,cT Hy.out] at this;exact this t5.symm));have t6:=eqT t5;clear t5
        go_wp2_with fail
        go_quiet (first | (go_at_call 100;exact Calls.quiet_of_same (Q1.out _)) | (go_at_call 59;exact Calls.quiet_of_same (Q2.out _)))
        go_wp2_with fail
        go_ret;exact⟨fD Hb.out.symm,hx.dn _⟩
       ·have t6:=eqF t5;have Hok':=hid (show okR f k from ⟨by rw[bK Hx.out];exact T12.out.1,by rw[cT Hx.out];exact T12.out.2,fun h=>by omega,fun _=>by rw[bK Hx.out,cT Hx.out,bK Hy.out,cT Hy.out];exact⟨by omega,fun e=>t5 e.symm⟩⟩);clear t5
        go_wp2_with fail
        go_quiet (first | (go_at_call 100;exact Calls.quiet_of_same (Q1.out _)) | (go_at_call 59;exact Calls.quiet_of_same (Q2.out _)))
        go_wp2_with fail
        go_roundw
        case rel=>exact⟨k+1,by omega,by go_num,Ym Hok.out Hok'.out,hx.dn _⟩
        case measure=>simp[intOf];omega
    ·have q2:=fun w=>dU x.N (-1048576) 1048576 w t2;have Q2:=hid q2;have Hb:=hid (Bad.out (fun h=>t2 (by rw[<- cT Hx.out];exact h.2.1)));clear q2 t1 t2
     go_wp2_with fail
     go_quiet (first | (go_at_call 100;exact Calls.quiet_of_same (Q1.out _)) | (go_at_call 59;exact Calls.quiet_of_same (Q2.out _)))
     go_wp2_with fail
     go_ret;exact⟨fD Hb.out.symm,hx.dn _⟩
   ·have q1:=fun w=>Wf x.At w t1;have Q1:=hid q1;have Hb:=hid (Bad.out (fun h=>t1 (by rw[<- bK Hx.out];exact h.1)));clear q1 t1
    go_wp2_with fail
    go_quiet (first | (go_at_call 100;exact Calls.quiet_of_same (Q1.out _)))
    go_wp2_with fail
    go_ret;exact⟨fD Hb.out.symm,hx.dn _⟩
  ·have hlt':¬ (k:Int) < (n:Int):=by omega
   obtain rfl:k=n:=by omega
   by_cases hn0:0 < k
   ·have hn0':(0:Int) < (k:Int):=by omega
    have Hf:=hid (decide_eq_true (Ae.2 ⟨by rw[Hn.out];exact hn0,fun j hj=>Hok.out j (by rw[Hn.out] at hj;exact hj)⟩))
    go_wp2_with fail
    go_ret;exact⟨fD Hf.out.symm,hx⟩
   ·have hn0':¬ (0:Int) < (k:Int):=by omega
    have Hf:=hid (decide_eq_false (p:=gM f) (fun h=>by have:=(Ae.1 h).1;rw[Hn.out] at this;exact hn0 this))
    go_wp2_with fail
    go_ret;exact⟨fD Hf.out.symm,hx⟩
theorem yN (w:World) (v:Value) (f:List Run) (hv:bC w v f):Calls prog 49 #[v] w fun e w'=>e=.returned (.bool (decide (gM f)))/\Ext w w':=by
 rcases hv with ⟨rfl,a0,c0,rfl,hc0⟩ | ⟨b,off,cap,rfl,h1,h2,h3,⟨h4,_⟩,h5⟩
 ·have hf:=hid (decide_eq_false (p:=gM []) (fun h=>h.1));go_enter func49,ntmps49
  go_wp2
  go_loopw [3] (fun i wr=>i=aA aB 0/\wr=w) (fun i _=>0)
  case atStart=>exact⟨rfl,rfl⟩
  case round=>
   obtain⟨rfl,rfl⟩:=hrel
   go_wp2
   go_ret;exact⟨fD hf.out.symm,Ext.rf _⟩
 ·exact Ij w b off cap f h3 h4 h5
@[irreducible] def tab (x:Nat->Int):Array Value:=((List.range 48).map (fun t=>aA .i64 (x t))).toArray
theorem dV (x:Nat->Int):(tab x).size=48:=by unfold tab;simp
theorem Co {x:Nat->Int} {t:Nat} (h:t < 48):(tab x)[t]?=aC (aA aB (x t)):=by
 unfold tab;simp[h]
theorem zI {x y:Nat->Int} (h:∀ t,t < 48->x t=y t):tab x=tab y:=by
 unfold tab
 congr 1;exact List.map_congr_left fun t ht=>by rw[h t (List.mem_range.1 ht)]
theorem Ts (x:Nat->Int):(tab x).all (·.oneCell')=true:=by
 unfold tab;simp[aBz]
def upd (x:Nat->Int) (t:Nat) (n:Int):Nat->Int:=fun s=>if s=t then n else x s
theorem Nd (x:Nat->Int) (t:Nat) (n:Int):upd x t n t=n:=by simp[upd]
theorem Uv (x:Nat->Int) {t s:Nat} (n:Int) (h:s≠t):upd x t n s=x s:=by simp[upd,h]
theorem aAf {x:Nat->Int} {t:Nat} (n:Int) (h:t < 48):(tab x).setIfInBounds t (aA aB n)=tab (upd x t n):=by
 apply Array.ext
 ·simp[dV]
 ·intro i h1 h2;have hi:i < 48:=by simpa[dV] using h2
  have e1:(tab (upd x t n))[i]?=aC (aA aB (upd x t n i)):=Co hi;have e2:((tab x).setIfInBounds t (aA aB n))[i]?=aC (aA aB (upd x t n i)):=by
   rw[Array.getElem?_setIfInBounds];by_cases e:t=i
   ·subst e;rw[if_pos rfl,if_pos (by rw[dV];exact h),Nd]
   ·rw[if_neg e,Co hi,Uv x n (fun h=>e h.symm)]
  rw[aBT h1] at e2;rw[aBT h2] at e1;rw[Option.some.inj e2,Option.some.inj e1]
theorem Ni:(#[aA aB 0,aA aB 0,aA aB 0,aA aB 0,aA aB 0,aA aB 0,aA aB 0,aA aB 0,aA aB 0,aA aB 0,aA aB 0,aA aB 0,aA aB 0,aA aB 0,aA aB 0,aA aB 0,aA aB 0,aA aB 0,aA aB 0,aA aB 0,aA aB 0,aA aB 0,aA aB 0,aA aB 0,aA aB 0,aA aB 0,aA aB 0,aA aB 0,aA aB 0,aA aB 0,aA aB 0,aA aB 0,aA aB 0,aA aB 0,aA aB 0,aA aB 0,aA aB 0,aA aB 0,aA aB 0,aA aB 0,aA aB 0,aA aB 0,aA aB 0,aA aB 0,aA aB 0,aA aB 0,aA aB 0,aA aB 0]:Array Value)=tab (fun _=>0):=by
 unfold tab;rfl
def cC (T:TypeId) (w:World) (b:Nat) (x:Nat->Int):Prop:=w.heap[b]?=aC (.cells (tab x) T (0,0))
section
variable {T:TypeId} {w w':World} {b:Nat} {x:Nat->Int}
theorem cC.lt (h:cC T w b x):b < w.heap.size:=(aBy.1 h).1
theorem cC.cell (h:cC T w b x) {t:Nat} (ht:t < 48):w.cell? ⟨b,t,aD⟩=aC (aA aB (x t)):=by
 rw[cell_of_row w b t _ T _ h];exact Co ht
theorem cC.free (h:cC T w b x) (t:Nat):w.frozen? ⟨b,t,aD⟩=false:=frozen_of_row w b t _ T h
theorem cC.set (h:cC T w b x) {t:Nat} (ht:t < 48) (n:Int):cC T (w.setCell ⟨b,t,aD⟩ (aA aB n)) b (upd x t n):=by
 unfold cC;rw[heap_setCell_same w b t _ T _ h,aAf n ht]
theorem cC.other (h:cC T w b x) {c o:Nat} (hc:b≠c) (v:Value):cC T (w.setCell ⟨c,o,aD⟩ v) b x:=by
 unfold cC;rw[heap_setCell_other w ⟨c,o,aD⟩ b v hc];exact h
theorem cC.ext (h:cC T w b x) (hx:Ext w w'):cC T w' b x:=by
 unfold cC;rw[hx.block b h.lt];exact h
theorem cC.congr {y:Nat->Int} (h:cC T w b x) (e:∀ t,t < 48->x t=y t):cC T w b y:=by
 unfold cC at *;rw[<- zI e];exact h
theorem cC.new (w:World) (x:Nat->Int):cC T (w.alloc (.cells (tab x) T)) w.heap.size x:=heap_alloc_new w _
theorem cC.grown (h:cC T w b x) {v:Value} (hg:w.grownBy w' v.ownBlock) (hv:∀ k,v.ownBlock=aC k->b < k):cC T w' b x:=by
 unfold cC;rw[hg.block b h.lt (fun e=>by have:=hv b e.symm;omega)];exact h
theorem cC.srow (h:cC T w b x) {c:Nat} (hc:b≠c) (cs:Array Value):cC T (w.setRow c cs) b x:=by
 unfold cC;rw[setRow_other w c b cs hc];exact h
theorem cC.row (h:cC T w b x) (y:Nat->Int):cC T (w.setRow b (tab y)) b y:=setRow_heap w b _ _ T _ h
end
theorem Ext.sr {a w:World} (h:Ext a w) {b:Nat} (hb:a.heap.size<=b) (cs:Array Value):Ext a (w.setRow b cs):=
 h.trans ⟨rfl,rfl,rfl,by simp[World.setRow],fun k hk=>setRow_other w b k cs (by omega)⟩
def gF (T:TypeId) (w:World) (b:Nat) (vs:List Value):Prop:=w.heap[b]?=aC (.cells vs.toArray T (0,0))
section
variable {T:TypeId} {w w':World} {b:Nat} {vs:List Value}
theorem gF.lt (h:gF T w b vs):b < w.heap.size:=(aBy.1 h).1
theorem gF.cell (h:gF T w b vs) {k:Nat} {v:Value} (hk:vs[k]?=aC v):w.cell? ⟨b,k,aD⟩=aC v:=by
 rw[cell_of_row w b k _ T _ h];simpa using hk
theorem gF.free (h:gF T w b vs) (k:Nat):w.frozen? ⟨b,k,aD⟩=false:=frozen_of_row w b k _ T h
theorem gF.set (h:gF T w b vs) (k:Nat) (v:Value):gF T (w.setCell ⟨b,k,aD⟩ v) b (vs.set k v):=by
 unfold gF;rw[heap_setCell_same w b k _ T _ h];simp
theorem gF.other (h:gF T w b vs) {c o:Nat} (hc:b≠c) (v:Value):gF T (w.setCell ⟨c,o,aD⟩ v) b vs:=by
 unfold gF;rw[heap_setCell_other w ⟨c,o,aD⟩ b v hc];exact h
theorem gF.ext (h:gF T w b vs) (hx:Ext w w'):gF T w' b vs:=by
 unfold gF;rw[hx.block b h.lt];exact h
theorem gF.new (w:World) (vs:List Value):gF T (w.alloc (.cells vs.toArray T)) w.heap.size vs:=heap_alloc_new w _
theorem gF.kept (h:gF T w b vs) {row:Option Nat} (hg:w.grownBy w' row) (hne:aC b≠row):gF T w' b vs:=(hg.block b h.lt hne).trans h
end
theorem Lf {P:Program} {t e:TypeId} {i:TypeInfo} {z:Value} (ht:P.underlying t=aC (.slice e)) (hi:P.info? e=aC i) (hz:i.zero=aC z) (hzc:z.cells=#[z]) (hs:i.size=1) (n:Nat) (hb:i.bytes*n<=281474976710656) (hn:n<=17592186044416) (w:World) :
  (Instr.makeSlice t (aA aB (n:Int)) (aA aB (n:Int))).run P w=.ok (aE (aC ⟨w.heap.size,0,aD⟩) n n) (w.alloc (.cells (List.replicate n z).toArray e)):=by
 have hb':(i.bytes:Int)*(n:Int)<=281474976710656:=by
  have h:((i.bytes*n:Nat):Int)<=281474976710656:=by omega
  rwa [Int.natCast_mul] at h
 have:=run_make (P:=P) w t e i z ht hi hz .i64 .i64 n n (by omega) (aBp _) hb' (by omega);rw[this];simp only[aBQ,hzc,hs,Nat.mul_one]
 congr 2
 congr 1;apply Array.toList_inj.1;apply aBU;intro j;by_cases hj:j < n
 ·simp[madeCells,hj,Nat.mod_one]
 ·simp[madeCells,hj]
attribute [local go_sem] Ll
def Cx (w:World) (rs:List Run) (e:Ending) (w':World):Prop:=∃ v,e=.returned v/\bC w' v rs/\Ext w w'
def nO (w:World) (rs:List Run) (e:Ending) (w':World):Prop:=∃ v,e=.returned v/\bC w' v rs/\(∀ a n c,v=aE (aC a) n c->w.heap.size<=a.block)/\Ext w w'
theorem nO.ret {w w':World} {rs:List Run} {e:Ending} (h:nO w rs e w'):Cx w rs e w':=by
 obtain⟨v,h1,h2,_,h3⟩:=h;exact⟨v,h1,h2,h3⟩
theorem uL {w:World} {base e sz n:Nat} {v:Value} {xs:List Value} (h:w.ownsRow base e sz v n xs):∀ a m c,v=aE (aC a) m c->base<=a.block:=fun a m c e=>h.lt a.block (by rw[e];rfl) |>.1
theorem wN {x:Nat->Int}:∀ n r,r∈cW x n->∃ t,t < n/\r.N=x t
 | 0,r,h=>by simp[cW] at h
 | n+1,r,h=>by
  simp only[cW,aBm] at h;rcases h with h | h
  ·obtain⟨t,h1,h2⟩:=wN n r h;exact⟨t,by omega,h2⟩
  ·split at h
   ·simp at h;subst h;exact⟨n,by omega,rfl⟩
   ·simp at h
theorem Ea {w:World} {base e:Nat} {v:Value} {out:List Run} (h:w.ownsRow base e 2 v out.length (cF Run.At Run.N out)) (hnil:out=[]->v=aE aD 0 0) :
  (out=[]/\v=aE aD 0 0)\/∃ ob cp r,v=aE (aC ⟨ob,0,aD⟩) out.length cp/\base<=ob/\ob < w.heap.size/\out.getLast?=aC r/\0 < out.length/\w.cell? ⟨ob,(out.length - 1)*2+1,aD⟩=aC (aA aB r.N):=by
 by_cases h0:out=[]
 ·exact .inl ⟨h0,hnil h0⟩
 ·obtain⟨_,h2⟩:=h;have hp:0 < out.length:=List.length_pos_iff.2 h0;rcases h2 with ⟨rfl,h2⟩ | ⟨b,cap,cur,rfl,hb,hg,hn,hm,hs,ht⟩
  ·omega
  ·right;obtain⟨r,hr⟩:∃ r,out.getLast?=aC r:=⟨out.getLast h0,List.getLast?_eq_some_getLast h0⟩;refine⟨b,cap,r,rfl,hb,(aBy.1 hg).1,hr,hp,?_⟩;have hk:out[out.length - 1]?=aC r:=by rw[<- List.getLast?_eq_getElem?];exact hr
   have:=(mR Run.At Run.N out _ r hk).2;simp only[aBF,hg,aBG,Bool.false_eq_true,if_false];rw[<- ht,aBH] at this;split at this
   ·simpa using this
   ·cases this
theorem Di:∀ (l:List Run) (t:Nat),l≠[]->∃ r∈l,sp l t=r.N
 | [],_,h=>absurd rfl h
 | [a],_,_=>⟨a,by simp,rfl⟩
 | a::b::l,t,_=>by
  rw[sp];split
  ·obtain⟨r,h1,h2⟩:=Di (b::l) t (by simp);exact⟨r,aBl _ h1,h2⟩
  ·exact⟨a,by simp,rfl⟩
theorem Dk {f:List Run} (h:dI f):f≠[]:=by
 intro e;subst e;exact h
theorem Mw {f g:List Run} {of:Int->Int->Int} (hf:dI f) (hg:dI g) (h:∀ x∈f,∀ y∈g,I64 (of x.N y.N)):∀ r∈bN (fun t=>of (sp f t) (sp g t)),I64 r.At/\I64 r.N:=fun r hr=>by
 rw[lQ] at hr;have h1:=qR _ _ hr;obtain⟨t,_,h2⟩:=wN _ _ hr;obtain⟨x,hx,e1⟩:=Di f t (Dk hf);obtain⟨y,hy,e2⟩:=Di g t (Dk hg);refine⟨I64.of (by omega) (by omega),?_⟩;rw[h2];simp only[e1,e2];exact h x hx y hy
theorem info48:(prog.info? 48).map (fun i=>(i.zero,i.size,i.bytes))=aC (aC (.agg #[aA aB 0,aA aB 0]),2,16):=by kernel_rfl
theorem Xb (w:World) (fb fo fc gb go gc:Nat) (f g:List Run) (G:Nat) (of:Int->Int->Int) (hsf:dI f) (hsg:dI g)
  (hfc:f.length<=fc) (hgc:g.length<=gc) (hfm:fc<=9223372036854775807) (hgm:gc<=9223372036854775807) (hfb:fb < w.heap.size) (hgb:gb < w.heap.size)
  (hE:∀ k x,f[k]?=aC x->vA w fb (fo+k*2) x) (hG:∀ k x,g[k]?=aC x->vA w gb (go+k*2) x)
  (heg:∀ (args:Array Value) (w:World),(callFunc G args).run prog w=.ok (.enter G args) w)
  (hof:∀ x∈f,∀ y∈g,I64 (of x.N y.N)/\∀ w,Calls prog G #[aA aB x.N,aA aB y.N] w fun e w'=>e=.returned (aA aB (of x.N y.N))/\w'=w) :
  Calls prog 122 #[aE (aC ⟨fb,fo,aD⟩) f.length fc,aE (aC ⟨gb,go,aD⟩) g.length gc,.func (.func G) #[] #[]] w (nO w (bN (fun t=>of (sp f t) (sp g t)))):=by
 have hfl:=jF hsf;have hgl:=jF hsg;have HE:=hid hE;have HG:=hid hG;have Hsf:=hid hsf;have Hsg:=hid hsg;have Hof:=hid hof;clear hE hG hsf hsg hof;obtain⟨ir,ir1,ir2,ir3,ir4⟩:=info_parts info48;generalize hn:f.length=n at *;have Hn:=hid hn;generalize hm:g.length=m at *;have Hm:=hid hm;clear hn hm;go_enter func122,ntmps122
 go_wp2_with fail
 go_loopw [7,8,9] (fun v a c wr=>∃ (i k:Nat) (out:List Run),a=aA aB i/\c=aA aB k/\i<=n/\k<=m/\Hid (wr.ownsRow w.heap.size 48 2 v out.length (cF Run.At Run.N out))/\Hid (out=[]->v=aE aD 0 0)/\Hid (Kj f g (fun t=>of (sp f t) (sp g t)) i k out)/\Ext w wr)
  (fun _ a c _=>(n+m) - (intOf a+intOf c).toNat)
 case atStart=>exact⟨0,0,[],rfl,rfl,aBO _,aBO _,aBV _ _ _ _,fun _=>rfl,My Hsf.out Hsg.out _,Ext.rf _⟩
 case round=>
  obtain⟨i,k,out,rfl,rfl,hi,hk,Hown,Hnil,Hz,hx⟩:=hrel;have hfw:fb < wr.heap.size:=aBA hfb hx.size;have hgw:gb < wr.heap.size:=aBA hgb hx.size;by_cases hi1:i < n
  ·by_cases hk1:k < m
   ·obtain⟨x,hxi⟩:=pB (f:=f) (k:=i) (by rw[Hn.out];exact hi1);obtain⟨y,hyk⟩:=pB (f:=g) (k:=k) (by rw[Hm.out];exact hk1);obtain⟨c1,c2,c3,c4⟩:=HE.out i x hxi;obtain⟨d1,d2,d3,d4⟩:=HG.out k y hyk;replace c1:=hx.ce' c1;replace c2:=hx.ce' c2;replace d1:=hx.ce' d1;replace d2:=hx.ce' d2;have hzs:=Qf Hsf.out Hsg.out (of:=of) (by rw[Hn.out];exact hi1) (by rw[Hm.out];exact hk1) Hz.out;rw[bK hxi,bK hyk,cT hxi,cT hyk] at hzs;have Hzs:=hid hzs;have hoz:=(Hof.out x (aBJ hxi) y (aBJ hyk)).1;have N1:=fun(W:World) (h:Ext w W)=>Od W fb fo fc f i (by rw[Hn.out];omega) (aBA hfb h.size) (fun k x hk=>E2.mono w W _ _ _ h (HE.out k x hk)) (by rw[Hn.out];exact hi1);have N2:=fun(W:World) (h:Ext w W)=>Od W gb go gc g k (by rw[Hm.out];omega) (aBA hgb h.size) (fun k x hk=>E2.mono w W _ _ _ h (HG.out k x hk)) (by rw[Hm.out];exact hk1);rw[Hn.out] at N1;rw[Hm.out] at N2;have HN1:=hid N1;have HN2:=hid N2;have ho:=Hof.out x (aBJ hxi) y (aBJ hyk);have Ho:=hid ho;have Hx:=hid hxi;have Hy:=hid hyk;have hi1':(i:Int) < (n:Int):=by omega
    have hk1':(k:Int) < (m:Int):=by omega
    have Hoi:=hid hoz;clear ho hxi hyk hzs hoz N1 N2
    go_upto_region 4 with fail
    go_cut [10] (fun p W=>∃ B:Nat,p=.pointer (aC ⟨B,0,aD⟩)/\wr.heap.size<=B/\W.cell? ⟨B,0,aD⟩=aC (aA aB (max x.At y.At))/\W.cell? ⟨B,1,aD⟩=aC (aA aB (of x.N y.N))/\Ext wr W)
    case first=>
     refine Cd 25 24 (Obj.cells #[aA aB 0,aA aB 0] 48) (by kernel_rfl) (by kernel_rfl) rfl rfl rfl (fun a w=>by kernel_rfl) ?_;simp only[List.take_succ_cons,List.take_zero,List.drop_succ_cons,List.drop_zero]
     repeat (refine pS rfl (fun K hK=>?_);go_simp;refine hK _ ?_;clear hK K)
     refine pS rfl (fun K hK=>?_);go_simp;refine⟨_,⟨fun m=>(Ho.out.2 _).mono fun e w' ⟨h1,h2⟩=>⟨h1,_,h2⟩,fun m=>(Ho.out.2 _).mono fun e w' ⟨h1,h2⟩=>⟨h1,_,h2⟩⟩,hK _ ?_⟩;clear hK K
     repeat (refine pS rfl (fun K hK=>?_);go_simp;refine hK _ ?_;clear hK K)
     refine Da rfl ?_;refine Kr ?_;intro m0;simp only[Act.put,zD,zE,zF];rw[maxw];generalize hmx:max x.At y.At=mx;have Hmx:=hid hmx;generalize hoz:of x.N y.N=z0;have Hoz:=hid hoz;clear hmx hoz HN1 HN2 Hzs Ho Hoi Hown Hz Hnil
     go_wp2_with fail
     go_meet
     case rel=>exact⟨wr.heap.size,rfl,aBq _,by rw[Hmx.out];simp[go_sem],by rw[Hoz.out];simp[go_sem],(((Ext.rf wr).al _).dn _).se (aBq _) _ |>.se (aBq _) _⟩
    case rest=>
     obtain⟨B,rfl,hB,b1,b2,hxc⟩:=hcut;clear c1 c2 d1 d2
     go_step
     go_step
     have hobw:w.heap.size<=wc.heap.size:=Nat.le_trans hx.size hxc.size
     go_cut [7,11] (fun v _ W=>∃ out2:List Run,out2=iX out ⟨max x.At y.At,of x.N y.N⟩/\Hid (W.ownsRow w.heap.size 48 2 v out2.length (cF Run.At Run.N out2))/\Ext w W)
     case first=>
      have Hown2:=hid (bE Hown.out hxc);have hol:=Us Hsf.out Hz.out;generalize hmx:max x.At y.At=mx at b1;have Hmx:=hid hmx;generalize hoz:of x.N y.N=z0 at b2;have Hoz:=hid hoz;clear hmx hoz HN1 HN2 Hzs Ho Hoi Hz Hown;rcases Ea Hown2.out Hnil.out with ⟨rfl,rfl⟩ | ⟨ob,cp,r,rfl,hob,hobw,hlast,hpos,hlc⟩
      ·clear Hnil;have hBw:B < wc.heap.size:=aBx wc ⟨B,0,aD⟩ b1
       go_wp2_with fail
       go_quiet (fail)
       have hownW:=bE Hown2.out ((Ext.rf wc).dn nq)
       go_wp2_with (at_builtin;refine wpList_append_own _ rfl _ _ 29 rfl w.heap.size 48 ir _ 2 16 underlying29 ir1 ir2 ir3 ir4 rfl (by decide) _ _ _ rfl (hownW.alloc _) ⟨wc.heap.size,0,aD⟩ 1 1 [aA aB mx,aA aB z0] rfl rfl (Ch _ (by simp) _ _ _) (Cf _ _ _ _) (by simp[maxLen]) (by simp) (by simp;omega) ?_)
       intro v2 W2 hown2 hgrow2 _
       go_wp2_with fail
       go_meet
       case rel=>exact⟨_,rfl,hid (by rw[Hmx.out,Hoz.out];simpa[Dy,cF] using hown2),(((hx.tr hxc).dn nq).al _).gr hgrow2 (eU hownW)⟩
      ·have hpos':((out.length:Int) == 0)=false:=eqF (by omega);have hpos1:(0:Int) < (out.length:Int):=by omega
       have Hlast:=hid hlast;have hBw:B < wc.heap.size:=aBx wc ⟨B,0,aD⟩ b1;clear hlast Hnil;by_cases hrz:r.N=z0
       ·have hrz':(r.N != z0)=false:=neF hrz;have Hrz:=hid hrz;clear hrz
        go_wp2_with fail
        go_quiet (fail)
        go_wp2_with fail
        go_meet
        case rel=>exact⟨_,rfl,by rw[sQ Hlast.out (by rw[Hoz.out];exact Hrz.out)];exact bE Hown2.out ((Ext.rf wc).dn nq),(hx.tr hxc).dn nq⟩
       ·have hrz':(r.N != z0)=true:=neT hrz;have Hrz:=hid hrz;clear hrz
        go_wp2_with fail
        go_quiet (fail)
        have hownW:=bE Hown2.out ((Ext.rf wc).dn nq)
        go_wp2_with (at_builtin;refine wpList_append_own _ rfl _ _ 29 rfl w.heap.size 48 ir _ 2 16 underlying29 ir1 ir2 ir3 ir4 rfl (by decide) _ _ _ rfl (hownW.alloc _) ⟨wc.heap.size,0,aD⟩ 1 1 [aA aB mx,aA aB z0] rfl rfl (Ch _ (by simp) _ _ _) (Cf _ _ _ _) (by unfold maxLen;omega) (by omega) (by simp;omega) ?_)
        intro v2 W2 hown2 hgrow2 _
        go_wp2_with fail
        go_meet
        case rel=>exact⟨_,rfl,by rw[Hmx.out,Hoz.out,vY Hlast.out (x:=⟨mx,z0⟩) Hrz.out,nL,aBk];exact hown2,(((hx.tr hxc).dn nq).al _).gr hgrow2 (eU hownW)⟩
     case rest=>
      obtain⟨out2,hout2,Hown2,hx2⟩:=hcut;have Hne:=hid (hout2▸Vk out ⟨max x.At y.At,of x.N y.N⟩);have Hzs2:=hid (by have:=Hzs.out;rw[<- hout2] at this;exact this);clear b1 b2 hB Ho Hoi Hz Hown Hnil Hzs hout2;have N1:=HN1.out _ hx2;have N2:=HN2.out _ hx2;generalize hna:cH f i=na at *;generalize hnb:cH g k=nb at *;have HM1:=hid N1;have HM2:=hid N2;clear N1 N2 hna hnb HN1 HN2
      go_wp2_with fail
      refine HM1.out.mono ?_;rintro e W3 ⟨rfl,rfl⟩
      go_wp2_with fail
      refine HM2.out.mono ?_;rintro e W3 ⟨rfl,rfl⟩;clear HM1 HM2;by_cases ab:na<=nb
      ·by_cases ba:nb<=na
       ·have Hz3:=hid (by have:=Hzs2.out;rw[if_pos ab,if_pos ba] at this;exact this)
        go_wp2_with fail
        go_roundw
        case rel=>exact⟨i+1,k+1,out2,by go_num,by go_num,by omega,by omega,Hown2,fun h=>absurd h Hne.out,Hz3.out,hx2⟩
        case measure=>simp[intOf];omega
       ·have Hz3:=hid (by have:=Hzs2.out;rw[if_pos ab,if_neg ba] at this;exact this)
        go_wp2_with fail
        go_roundw
        case rel=>exact⟨i+1,k,out2,by go_num,rfl,by omega,by omega,Hown2,fun h=>absurd h Hne.out,Hz3.out,hx2⟩
        case measure=>simp[intOf];omega
      ·have ba:nb<=na:=by omega
       have Hz3:=hid (by have:=Hzs2.out;rw[if_neg ab,if_pos ba] at this;exact this)
       go_wp2_with fail
       go_roundw
       case rel=>exact⟨i,k+1,out2,rfl,by go_num,by omega,by omega,Hown2,fun h=>absurd h Hne.out,Hz3.out,hx2⟩
       case measure=>simp[intOf];omega
   ·have hi1':(i:Int) < (n:Int):=by omega
    have hk1':¬ (k:Int) < (m:Int):=by omega
    have hd:=Cy Hz.out (.inr (by rw[Hm.out];omega));subst hd;have hol:(bN (fun t=>of (sp f t) (sp g t))).length<=48:=by rw[lQ];exact oF 48
    go_wp2_with fail
    go_ret;exact⟨_,rfl,cG Hown.out (fun r hr=>Mw Hsf.out Hsg.out (fun x hx y hy=>(Hof.out x hx y hy).1) r hr) (by omega),uL Hown.out,hx⟩
  ·have hi1':¬ (i:Int) < (n:Int):=by omega
   have hd:=Cy Hz.out (.inl (by rw[Hn.out];omega));subst hd;have hol:(bN (fun t=>of (sp f t) (sp g t))).length<=48:=by rw[lQ];exact oF 48
   go_wp2_with fail
   go_ret;exact⟨_,rfl,cG Hown.out (fun r hr=>Mw Hsf.out Hsg.out (fun x hx y hy=>(Hof.out x hx y hy).1) r hr) (by omega),uL Hown.out,hx⟩
theorem size95:(prog.info? 95).map (·.size)=aC 48:=by kernel_rfl
def Gg (w:World) (x:Nat->Int) (e:Ending) (w':World):Prop:=e=.returned (.agg (tab x))/\Ext w w'
def uA (f:List Run) (k t:Nat):Prop:=k < f.length/\bW f k<=(t:Int)/\(t:Int)<=cH f k
def Nc (x:Nat->Int) (t:Nat):Nat->Int:=fun s=>if s < t then x s else 0
theorem Uu (x:Nat->Int):Nc x 0=fun _=>0:=by funext s;simp[Nc]
theorem yZ (x:Nat->Int) (t:Nat):upd (Nc x t) t (x t)=Nc x (t+1):=by
 funext s;unfold upd Nc;by_cases h:s=t
 ·subst h;simp
 ·rw[if_neg h];by_cases h2:s < t
  ·rw[if_pos h2,if_pos (by omega)]
  ·rw[if_neg h2,if_neg (by omega)]
theorem Xs (x:Nat->Int):∀ t,t < 48->Nc x 48 t=x t:=fun t h=>by simp[Nc,h]
theorem Nj (w:World) (b off cap:Nat) (f:List Run) (hs:dI f) (hb:b < w.heap.size) (hE:∀ k x,f[k]?=aC x->vA w b (off+k*2) x) :
  Calls prog 54 #[aE (aC ⟨b,off,aD⟩) f.length cap] w (Gg w (sp f)):=by
 have hlen:=jF hs;have hz:=kS hs;have HE:=hid hE;have Hs:=hid hs;have hst:uA f 0 0:=⟨hz.1,by rw[hz.2];simp,by have:=cM hs hz.1;omega⟩;have Hst:=hid hst;clear hE hs hst;generalize hn:f.length=n at *;have Hn:=hid hn;have hz1:=hz.1;clear hn hz;go_enter func54,ntmps54
 go_wp2_with fail
 rw[Ni]
 go_loopw [4,5] (fun a c wr=>∃ k t:Nat,a=aA aB k/\c=aA aB t/\t<=48/\k < n/\Hid (uA f k t)/\Hid (cC 95 wr (w.heap.size+1) (Nc (sp f) t))/\Hid (cC 95 wr w.heap.size (fun _=>0))/\Ext w wr) (fun _ c _=>48 - (intOf c).toNat)
 case atStart=>exact⟨0,0,rfl,rfl,by omega,hz1,Hst,by rw[Uu];exact hid (by have:=cC.new (T:=95) (w.alloc (.cells (tab fun _=>0) 95)) (fun _=>0);simpa using this),hid ((cC.new w _).ext ((Ext.rf _).al _)),((Ext.rf w).al _).al _⟩
 case round=>
  obtain⟨k,t,rfl,rfl,ht,hk,Hsa,HT,HR,hx⟩:=hrel;have hbw:b < wr.heap.size:=aBA hb hx.size;by_cases hlt:t < 48
  ·have hlt':(t:Int) < 48:=by omega
   have hcell:=fun(n:Int)=>HT.out.set hlt n;have hcl:=HT.out.cell hlt;have hfr:=HT.out.free t;have hnew:w.heap.size+1 < wr.heap.size:=HT.out.lt;by_cases hk1:k+1 < n
   ·have hk1':(k:Int)+1 < (n:Int):=by omega
    obtain⟨y,hyk⟩:=pB (f:=f) (k:=k+1) (by rw[Hn.out];exact hk1);obtain⟨d1,d2,d3,d4⟩:=HE.out (k+1) y hyk;replace d1:=hx.ce' d1;replace d2:=hx.ce' d2;have hna:cH f k=y.At:=by rw[gS (by rw[Hn.out];exact hk1),bK hyk]
    by_cases he:y.At=(t:Int)
    ·have he':=eqT he;have hsi:=cM Hs.out (i:=k+1) (by rw[Hn.out];exact hk1);have hspt:y.N=sp f t:=by
      rw[<- cT hyk];rw[bK hyk] at hsi;exact(hsi.2.2.2 t (by rw[he];exact aBp _) (by omega)).symm
     have Hspt:=hid hspt;have Hsa2:Hid (uA f (k+1) (t+1)):=hid ⟨by rw[Hn.out];exact hk1,by rw[bK hyk];omega,by rw[bK hyk] at hsi;omega⟩;have Hcell:=hid hcell;clear he hna hsi hspt hyk hcell
     go_wp2_with fail
     go_roundw
     case rel=>exact⟨k+1,t+1,by go_num,by go_num,by omega,hk1,Hsa2,hid (by have:=Hcell.out y.N;rw[Hspt.out,yZ] at this;rw[Hspt.out];exact this),hid (HR.out.other (by omega) _),hx.se (by omega) _⟩
     case measure=>simp[intOf];omega
    ·have he':=eqF he;obtain⟨x,hxk⟩:=pB (f:=f) (k:=k) (by rw[Hn.out];exact hk);obtain⟨c1,c2,c3,c4⟩:=HE.out k x hxk;replace c1:=hx.ce' c1;replace c2:=hx.ce' c2;have hsi:=cM Hs.out (i:=k) (by rw[Hn.out];exact hk);have hsa:=Hsa.out;have hspt:x.N=sp f t:=by
      rw[<- cT hxk];exact(hsi.2.2.2 t hsa.2.1 (by have:=hsa.2.2;omega)).symm
     have Hspt:=hid hspt;have Hsa2:Hid (uA f k (t+1)):=hid ⟨hsa.1,by have:=hsa.2.1;omega,by have:=hsa.2.2;omega⟩;have Hcell:=hid hcell;clear he hna hsi hspt hyk hxk hsa hcell
     go_wp2_with fail
     go_roundw
     case rel=>exact⟨k,t+1,rfl,by go_num,by omega,hk,Hsa2,hid (by have:=Hcell.out x.N;rw[Hspt.out,yZ] at this;rw[Hspt.out];exact this),hid (HR.out.other (by omega) _),hx.se (by omega) _⟩
     case measure=>simp[intOf];omega
   ·have hk1':¬ (k:Int)+1 < (n:Int):=by omega
    obtain⟨x,hxk⟩:=pB (f:=f) (k:=k) (by rw[Hn.out];exact hk);obtain⟨c1,c2,c3,c4⟩:=HE.out k x hxk;replace c1:=hx.ce' c1;replace c2:=hx.ce' c2;have hsi:=cM Hs.out (i:=k) (by rw[Hn.out];exact hk);have hsa:=Hsa.out;have hna:cH f k=48:=gZ (by rw[Hn.out];exact hk1);have hspt:x.N=sp f t:=by
     rw[<- cT hxk];exact(hsi.2.2.2 t hsa.2.1 (by omega)).symm
    have Hspt:=hid hspt;have Hsa2:Hid (uA f k (t+1)):=hid ⟨hsa.1,by have:=hsa.2.1;omega,by omega⟩;have Hcell:=hid hcell;clear hna hsi hspt hxk hsa hcell
    go_wp2_with fail
    go_roundw
    case rel=>exact⟨k,t+1,rfl,by go_num,by omega,hk,Hsa2,hid (by have:=Hcell.out x.N;rw[Hspt.out,yZ] at this;rw[Hspt.out];exact this),hid (HR.out.other (by omega) _),hx.se (by omega) _⟩
    case measure=>simp[intOf];omega
  ·have hlt':¬ (t:Int) < 48:=by omega
   obtain rfl:t=48:=by omega
   have hT:cC 95 wr (w.heap.size+1) (sp f):=HT.out.congr (Xs _)
   go_wp2_with (first
    | (refine wpList_load_row rfl 95 _ rfl (w.heap.size+1) rfl 95 (tab (sp f)) (0,0) _ hT underlying95 rfl (by rw[dV];exact size95) ?_)
    | (refine wpList_store_row rfl 95 _ _ rfl w.heap.size (tab (sp f)) rfl rfl 95 (tab fun _=>0) HR.out (by rw[dV];exact size95) (by rw[dV,dV]) (Ts _) ?_))
   refine bodyPost_ret (v:=.agg (tab (sp f))) (results_cell_row rfl _ _ w.heap.size 95 (tab (sp f)) (0,0) _ rfl (HR.out.row _) underlying95 rfl (by rw[dV];exact size95)) rfl ⟨rfl,hx.sr (aBq _) _⟩
theorem vS (w:World) (v:Value) (f:List Run) (hv:bC w v f) (hs:dI f):Calls prog 54 #[v] w (Gg w (sp f)):=by
 rcases hv with ⟨rfl,a0,c0,rfl,hc0⟩ | ⟨b,off,cap,rfl,h1,h2,h3,⟨h4,_⟩,h5⟩
 ·exact hs.elim
 ·exact Nj w b off cap f hs h4 h5
theorem Wo {x:Nat->Int} (h:∀ t,t < 48->I64 (x t)):∀ r∈bN x,I64 r.At/\I64 r.N:=fun r hr=>by
 rw[lQ] at hr;have h1:=qR _ _ hr;obtain⟨t,ht,h2⟩:=wN _ _ hr;exact⟨I64.of (by omega) (by omega),by rw[h2];exact h t ht⟩
@[irreducible] def fM {α:Type} (p:α->Bool) (xs:List α):Int:=match xs.findIdx? p with | some i=>(i:Int) | none=>-1
theorem qN {α:Type} {p:α->Bool} {xs:List α} {k:Nat} {x:α} (hk:xs[k]?=aC x) (hp:p x=true) (hall:∀ j y,j < k->xs[j]?=aC y->p y=false):fM p xs=k:=by
 unfold fM;have hkl:=(aBD.1 hk).1;have:xs.findIdx? p=aC k:=by
  rw[aBW];refine⟨hkl,?_,fun j hj=>?_⟩
  ·have:=(aBD.1 hk).2;rw[this];exact hp
  ·rw[hall j (xs[j]'(by omega)) hj (by simp)];simp
 rw[this]
theorem jO {α:Type} {p:α->Bool} {xs:List α} (hall:∀ j y,j < xs.length->xs[j]?=aC y->p y=false):fM p xs=-1:=by
 unfold fM;have:xs.findIdx? p=none:=by
  rw[aBX];intro x hx;obtain⟨j,hj,rfl⟩:=aBw.1 hx;exact hall j _ hj (by simp)
 rw[this]
theorem qO {α:Type} (p:α->Bool) (xs:List α):decide (0<=fM p xs)=xs.any p:=by
 unfold fM;cases h:xs.findIdx? p with
 | none=>
  rw[aBX] at h;have:xs.any p=false:=by rw[aBY];intro x hx;rw[h x hx];simp
  rw[this];rfl
 | some i=>
  rw[aBW] at h;obtain⟨hi,hp,_⟩:=h;have:xs.any p=true:=List.any_eq_true.2 ⟨xs[i],aBv _,hp⟩;rw[this];simp
theorem mO {α:Type} {p:α->Bool} {xs:List α} {k:Nat} {x:α} (hk:xs[k]?=aC x) (hp:p x=false) (hall:∀ j y,j < k->xs[j]?=aC y->p y=false):∀ j y,j < k+1->xs[j]?=aC y->p y=false:=fun j y hj hy=>by
 by_cases e:j=k
 ·subst e;rw[hk] at hy;obtain rfl:=Option.some.inj hy;exact hp
 ·exact hall j y (by omega) hy
theorem Ik (w:World) (b off cap:Nat) (f:List Run) (G:Nat) (lb:Array Value) (p:Run->Bool) (hl:f.length<=17592186044416) (hb:b < w.heap.size) (hE:∀ k x,f[k]?=aC x->vA w b (off+k*2) x)
  (heg:∀ (args:Array Value) (w:World),(callFunc G args).run prog w=.ok (.enter G args) w)
  (hp:∀ (k:Nat) (x:Run),f[k]?=aC x->∀ W,Ext w W->Calls prog G (#[.agg #[aA aB x.At,aA aB x.N]]++lb) W fun e w'=>e=.returned (.bool (p x))/\Ext W w') :
  Calls prog 171 #[aE (aC ⟨b,off,aD⟩) f.length cap,.func (.func G) #[] lb] w fun e w'=>e=.returned (aA aB (fM p f))/\Ext w w':=by
 have HE:=hid hE;have Hp:=hid hp;clear hE hp;generalize hn:f.length=n at *;have Hn:=hid hn;clear hn;go_enter func171,ntmps171
 go_wp2_with fail
 go_loopw [8] (fun i wr=>∃ k:Nat,k<=n/\i=aA aB k/\Hid (∀ j y,j < k->f[j]?=aC y->p y=false)/\Ext w wr) (fun i _=>n - (intOf i).toNat)
 case atStart=>exact⟨0,aBO _,rfl,fun j y hj=>absurd hj (aBn _),Ext.rf _⟩
 case round=>
  obtain⟨k,hk,rfl,Hall,hx⟩:=hrel;have hbw:b < wr.heap.size:=aBA hb hx.size;by_cases hlt:k < n
  ·obtain⟨x,hxk⟩:=pB (f:=f) (k:=k) (by rw[Hn.out];exact hlt);obtain⟨c1,c2,c3,c4⟩:=HE.out k x hxk;replace c1:=hx.ce' c1;replace c2:=hx.ce' c2;have hc:=Hp.out k x hxk wr hx;have Hc:=hid hc;have Hx:=hid hxk;clear hc hxk;cases hpx:p x with
   | true=>
    rw[hpx] at Hc;have Hpx:=hid hpx;clear hpx
    go_wp2_with fail
    refine Hc.out.mono ?_;rintro e w1 ⟨rfl,hx1⟩
    go_wp2_with fail
    go_ret;exact⟨bB (qN Hx.out Hpx.out Hall.out).symm,hx.tr hx1⟩
   | false=>
    rw[hpx] at Hc;have Hpx:=hid hpx;clear hpx
    go_wp2_with fail
    refine Hc.out.mono ?_;rintro e w1 ⟨rfl,hx1⟩
    go_wp2_with fail
    go_roundw
    case rel=>exact⟨k+1,by omega,by go_num,mO Hx.out Hpx.out Hall.out,hx.tr hx1⟩
    case measure=>simp[intOf];omega
  ·obtain rfl:k=n:=by omega
   go_wp2_with fail
   go_ret;exact⟨bB (jO (fun j y hj hy=>Hall.out j y (by rw[Hn.out] at hj;exact hj) hy)).symm,hx⟩
theorem Ai (w:World) (v:Value) (f:List Run) (G:Nat) (lb:Array Value) (p:Run->Bool) (hv:bC w v f)
  (heg:∀ (args:Array Value) (w:World),(callFunc G args).run prog w=.ok (.enter G args) w)
  (hp:∀ (k:Nat) (x:Run),f[k]?=aC x->∀ W,Ext w W->Calls prog G (#[.agg #[aA aB x.At,aA aB x.N]]++lb) W fun e w'=>e=.returned (.bool (p x))/\Ext W w') :
  Calls prog 138 #[v,.func (.func G) #[] lb] w fun e w'=>e=.returned (.bool (f.any p))/\Ext w w':=by
 rcases hv with ⟨rfl,a0,c0,rfl,hc0⟩ | ⟨b,off,cap,rfl,h1,h2,h3,⟨h4,_⟩,h5⟩
 ·go_enter func138,ntmps138
  go_wp2
  go_loopw [8] (fun i wr=>i=aA aB 0/\wr=w) (fun i _=>0)
  case atStart=>exact⟨rfl,rfl⟩
  case round=>
   obtain⟨rfl,rfl⟩:=hrel
   go_wp2
   go_ret;exact⟨rfl,Ext.rf _⟩
 ·have hi:=Ik w b off cap f G lb p h3 h4 h5 heg hp;have Hi:=hid hi;have ha:=hid (qO p f);clear hi hp h5;generalize fM p f=q at *;generalize hn:f.length=n at *;clear hn;generalize f.any p=r at *;go_enter func138,ntmps138
  go_wp2_with fail
  refine Hi.out.mono ?_;rintro e w1 ⟨rfl,hx1⟩
  go_wp2_with fail
  go_ret;exact⟨fD ha.out,hx1⟩
theorem Kq (w:World) (v:Value) (f:List Run) (hv:bC w v f):Calls prog 42 #[v] w fun e w'=>e=.returned (aA aB (chk f))/\Ext w w':=by
 have nilc:∀ (a:Option Addr) (cap:Nat),Calls prog 42 #[aE a 0 cap] w fun e w'=>e=.returned (aA aB 1)/\Ext w w':=by
  intro a cap;go_enter func42,ntmps42
  go_wp2
  go_ret;exact⟨rfl,Ext.rf _⟩
 by_cases h0:f.length=0
 ·have hf:f=[]:=aBC h0;subst hf;have hc:chk []=1:=tR (fun h=>h.1);rw[hc];obtain⟨a,cap,rfl,_⟩:=hv.form;exact nilc a cap
 ·rcases hv with ⟨rfl,a0,c0,rfl,hc0⟩ | ⟨b,off,cap,rfl,h1,h2,h3,⟨h4,_⟩,h5⟩
  ·exact absurd rfl h0
  ·exact Tk w b off cap f h1 h2 h3 h4 h5 (by omega)
theorem bC.some {w:World} {v:Value} {f:List Run} (h:bC w v f) (hf:dI f) :
  ∃ b off cap,v=aE (aC ⟨b,off,aD⟩) f.length cap/\f.length<=cap/\cap<=9223372036854775807/\f.length<=17592186044416/\b < w.heap.size/\∀ k x,f[k]?=aC x->vA w b (off+k*2) x:=by
 rcases h with ⟨rfl,a0,c0,rfl,hc0⟩ | ⟨b,off,cap,e,h1,h2,h3,⟨h4,_⟩,h5⟩
 ·exact hf.elim
 ·exact⟨b,off,cap,e,h1,h2,h3,h4,h5⟩
theorem yM (w:World) (vf vg:Value) (f g:List Run) (hf:bC w vf f) (hg:bC w vg g) (hsf:dI f) (hsg:dI g) (G:Nat) (of:Int->Int->Int)
  (heg:∀ (args:Array Value) (w:World),(callFunc G args).run prog w=.ok (.enter G args) w)
  (hof:∀ x∈f,∀ y∈g,I64 (of x.N y.N)/\∀ w,Calls prog G #[aA aB x.N,aA aB y.N] w fun e w'=>e=.returned (aA aB (of x.N y.N))/\w'=w) :
  Calls prog 122 #[vf,vg,.func (.func G) #[] #[]] w (nO w (bN (fun t=>of (sp f t) (sp g t)))):=by
 obtain⟨fb,fo,fc,rfl,f1,f2,_,f3,f4⟩:=hf.some hsf;obtain⟨gb,go,gc,rfl,g1,g2,_,g3,g4⟩:=hg.some hsg;exact Xb w fb fo fc gb go gc f g G of hsf hsg f1 g1 f2 g2 f3 g3 f4 g4 heg hof
theorem aBg (w:World) (v:Value) (f:List Run) (hv:bC w v f) (hs:dI f) (t:Int) (h2:0<=t) (h3:t < 48) :
  Calls prog 177 #[v,aA aB t] w fun e w'=>e=.returned (aA aB (sp f t.toNat))/\Ext w w':=by
 obtain⟨b,off,cap,rfl,h4,h5,_,h6,h7⟩:=hv.some hs;exact Ur w b off cap f t hs h5 h4 h6 h7 h2 h3
theorem aAB (w:World) (v:Value) (f:List Run) (hv:bC w v f) (hs:dI f) (s t:Int) (h1:0<=s) (h2:s < t) (h3:t<=48) :
  Calls prog 154 #[v,aA aB s,aA aB t] w fun e w'=>e=.returned (aA aB (xS (sp f) s.toNat t.toNat))/\Ext w w':=by
 obtain⟨b,off,cap,rfl,h4,h5,_,h6,h7⟩:=hv.some hs;exact aA1 w b off cap f s t hs h5 h4 h6 h7 h1 h2 h3
@[irreducible] def tF (f:List Run) (a b:Int):Int × Int:=if gM f then(if 0<=a/\a < b/\b<=48 then(xS (sp f) a.toNat b.toNat,0) else(0,3)) else(0,1)
@[irreducible] noncomputable def Tr (x:Nat->Int):List Run × Int:=open Classical in if∀ t,t < 48->kO (x t) then(bN x,0) else([],2)
theorem Ux {x:Nat->Int} (h:∀ t,t < 48->kO (x t)):Tr x=(bN x,0):=by unfold Tr;rw[if_pos h]
def pW (z x:Nat->Int) (t:Nat):Nat->Int:=fun s=>if s < t then z s else x s
theorem Vw (z x:Nat->Int):pW z x 0=x:=by funext s;simp[pW]
theorem Tx (z x:Nat->Int) (t:Nat):pW z x t t=x t:=by simp[pW]
theorem Jm (z x:Nat->Int) (t:Nat):upd (pW z x t) t (z t)=pW z x (t+1):=by
 funext s;unfold upd pW;by_cases h:s=t
 ·subst h;simp
 ·rw[if_neg h];by_cases h2:s < t
  ·rw[if_pos h2,if_pos (by omega)]
  ·rw[if_neg h2,if_neg (by omega)]
theorem Yp (z x:Nat->Int):∀ t,t < 48->pW z x 48 t=z t:=fun t h=>by simp[pW,h]
def xL (l:List Run) (t n:Int):List Run:=if t < 48 then iX l ⟨t,n⟩ else l
theorem Ce {w:World} {base e sz n c o:Nat} {v u:Value} {xs:List Value} (h:w.ownsRow base e sz v n xs) (hc:c < base):(w.setCell ⟨c,o,aD⟩ u).ownsRow base e sz v n xs:=by
 obtain⟨h1,h2⟩:=h;refine⟨h1,?_⟩;rcases h2 with h2 | ⟨g,cap,cur,hv,hb,hg,r⟩
 ·exact .inl h2
 ·exact .inr ⟨g,cap,cur,hv,hb,by rw[heap_setCell_other w ⟨c,o,aD⟩ g u (by show g≠c;omega)];exact hg,r⟩
def Gw (c:Nat) (w:World) (l:List Run):Prop:=∃ v,w.heap[c]?=aC (.cells #[v] 29 (0,0))/\w.ownsRow (c+1) 48 2 v l.length (cF Run.At Run.N l)/\(l=[]->v=aE aD 0 0)
theorem Gw.ext {c:Nat} {w w':World} {l:List Run} (h:Gw c w l) (hx:Ext w w'):Gw c w' l:=by
 obtain⟨v,h1,h2,h3⟩:=h;exact⟨v,by rw[hx.block c (aBy.1 h1).1];exact h1,bE h2 hx,h3⟩
theorem Kh {c:Nat} {W W2:World} {l2:List Run} {v u v2:Value} (hb:W.heap[c]?=aC (.cells #[u] 29 (0,0))) (hv:∀ k,v.ownBlock=aC k->c+1<=k)
  (hown:W2.ownsRow (c+1) 48 2 v2 l2.length (cF Run.At Run.N l2)) (hg:W.grownBy W2 v.ownBlock) (hne:l2≠[]):Gw c (W2.setCell ⟨c,0,aD⟩ v2) l2:=by
 have h2:W2.heap[c]?=aC (.cells #[u] 29 (0,0)):=by
  rw[hg.block c (aBy.1 hb).1 (fun e=>by have:=hv c e.symm;omega)];exact hb
 refine⟨v2,?_,Ce hown (by omega),fun e=>absurd e hne⟩;rw[heap_setCell_same W2 c 0 _ _ _ h2];rfl
theorem kI {w:World} {base e sz n:Nat} {v:Value} {xs:List Value} (h:w.ownsRow base e sz v n xs):∃ a cap,v=aE a n cap:=by
 obtain⟨_,h2⟩:=h;rcases h2 with ⟨rfl,rfl⟩ | ⟨g,cap,cur,rfl,_⟩
 ·exact⟨aD,0,rfl⟩
 ·exact⟨_,_,rfl⟩
theorem Kf {c:Nat} {W W2:World} {v u:Value} (hb:W.heap[c]?=aC (.cells #[u] 29 (0,0))) (hv:∀ k,v.ownBlock=aC k->c+1<=k) (hg:W.grownBy W2 v.ownBlock) :
  W2.heap[c]?=aC (.cells #[u] 29 (0,0)):=by
 rw[hg.block c (aBy.1 hb).1 (fun e=>by have:=hv c e.symm;omega)];exact hb
theorem uV {c:Nat} {W:World} {u:Value} (o:Obj) (hb:W.heap[c]?=aC (.cells #[u] 29 (0,0))):(W.alloc o).heap[c]?=aC (.cells #[u] 29 (0,0)):=by
 rw[((Ext.rf W).al o).block c (aBy.1 hb).1];exact hb
theorem xK (w0 w:World) (c:Nat) (l:List Run) (t n:Int) (hc:w0.heap.size<=c) (hx:Ext w0 w) (hb:Gw c w l) (hl:l.length<=48) :
  Calls prog 181 #[aA aB t,aA aB n,.pointer (aC ⟨c,0,aD⟩)] w fun e w'=>e=.returned (.tuple #[])/\Ext w0 w'/\Gw c w' (xL l t n):=by
 obtain⟨ir,ir1,ir2,ir3,ir4⟩:=info_parts info48;have HB:=hid hb;obtain⟨v,hv,hown,hnil⟩:=hb;have hcell:w.cell? ⟨c,0,aD⟩=aC v:=by rw[cell_of_row _ _ _ _ _ _ hv];rfl
 have hcw:=(aBy.1 hv).1;have Hown:=hid hown;have Hv:=hid hv;clear hv;by_cases ht:t < 48
 ·have hp:xL l t n=iX l ⟨t,n⟩:=by unfold xL;rw[if_pos ht]
  rw[hp];clear hp;rcases Ea hown hnil with ⟨rfl,rfl⟩ | ⟨ob,cp,r,rfl,hob,hobw,hlast,hpos,hlc⟩
  ·clear hown hnil;go_enter func181,ntmps181
   go_wp2_with (at_builtin;refine wpList_append_own _ rfl _ _ 29 rfl (c+1) 48 ir _ 2 16 underlying29 ir1 ir2 ir3 ir4 rfl (by decide) _ _ _ rfl (Hown.out.alloc _) ⟨w.heap.size,0,aD⟩ 1 1 [aA aB t,aA aB n] rfl rfl (Ch _ (by simp) _ _ _) (Cf _ _ _ _) (by simp[maxLen]) (by simp) (by simp;omega) ?_)
   intro v2 W2 hown2 hgrow2 _;have h2:=Kf (uV _ Hv.out) (eU Hown.out) hgrow2;have hc2:W2.cell? ⟨c,0,aD⟩=_:=cell_of_row _ _ _ _ _ _ h2;have hf2:=frozen_of_row W2 c 0 _ _ h2;have Hbox:=hid (Kh (l2:=[⟨t,n⟩]) (uV _ Hv.out) (eU Hown.out) (by simpa[cF] using hown2) hgrow2 (by simp));have Hx:=hid (((hx.al _).gr hgrow2 (fun k hk=>by have:=eU Hown.out k hk;omega)).se (o:=0) hc v2);obtain⟨a2,c2,rfl⟩:=kI hown2;clear hown2 hgrow2 h2
   go_wp2_with fail
   go_end0
   exact⟨rfl,Hx.out,Hbox.out⟩
  ·have hpos':((l.length:Int) == 0)=false:=eqF (by omega);have hpos1:(0:Int) < (l.length:Int):=by omega
   have Hlast:=hid hlast;clear hlast hnil hown;by_cases hrz:r.N=n
   ·have hrz':(r.N != n)=false:=neF hrz;have Hr:=hid (sQ (x:=⟨t,n⟩) Hlast.out hrz);rw[Hr.out];clear hrz Hr;go_enter func181,ntmps181
    go_wp2_with fail
    go_end0
    exact⟨rfl,hx,HB.out⟩
   ·have hrz':(r.N != n)=true:=neT hrz;have Hr:=hid (vY (x:=⟨t,n⟩) Hlast.out hrz);rw[Hr.out];clear hrz Hr;go_enter func181,ntmps181
    go_wp2_with (at_builtin;refine wpList_append_own _ rfl _ _ 29 rfl (c+1) 48 ir _ 2 16 underlying29 ir1 ir2 ir3 ir4 rfl (by decide) _ _ _ rfl (Hown.out.alloc _) ⟨w.heap.size,0,aD⟩ 1 1 [aA aB t,aA aB n] rfl rfl (Ch _ (by simp) _ _ _) (Cf _ _ _ _) (by unfold maxLen;omega) (by omega) (by simp;omega) ?_)
    intro v2 W2 hown2 hgrow2 _;have h2:=Kf (uV _ Hv.out) (eU Hown.out) hgrow2;have hc2:W2.cell? ⟨c,0,aD⟩=_:=cell_of_row _ _ _ _ _ _ h2;have hf2:=frozen_of_row W2 c 0 _ _ h2;have Hbox:=hid (Kh (l2:=l++[⟨t,n⟩]) (uV _ Hv.out) (eU Hown.out) (by rw[nL,aBk];exact hown2) hgrow2 (by simp));have Hx:=hid (((hx.al _).gr hgrow2 (fun k hk=>by have:=eU Hown.out k hk;omega)).se (o:=0) hc v2);obtain⟨a2,c2,rfl⟩:=kI hown2;clear hown2 hgrow2 h2
    go_wp2_with fail
    go_end0
    exact⟨rfl,Hx.out,Hbox.out⟩
 ·have hp:xL l t n=l:=by unfold xL;rw[if_neg ht]
  rw[hp];obtain⟨a2,c2,rfl⟩:=kI hown;clear hp hown hnil;go_enter func181,ntmps181
  go_wp2_with fail
  go_end0
  exact⟨rfl,hx,HB.out⟩
theorem sR (l:List Run) (t n:Int):(xL l t n).length<=l.length+1:=by
 unfold xL;split
 ·cases h:l.getLast? with
  | none=>rw[List.getLast?_eq_none_iff] at h;subst h;simp[Dy]
  | some r=>
   by_cases he:r.N=n
   ·rw[sQ h he];omega
   ·rw[vY h he];simp
 ·omega
theorem Wk {a b n:Int} (h1:0<=a) (h2:a < 48):qP a b n=xL (xL (if 0 < a then xL [] 0 0 else[]) a n) b 0:=by
 unfold qP xL;simp only[if_pos h2];rfl
theorem Wi {a b n:Int} (h1:0<=a) (h2:a < b) (h3:b<=48) (hn:I64 n):∀ r∈qP a b n,I64 r.At/\I64 r.N:=by
 obtain⟨i,rfl⟩:∃ k:Nat,a=k:=⟨a.toNat,by omega⟩;obtain⟨j,rfl⟩:∃ k:Nat,b=k:=⟨b.toNat,by omega⟩;rw[tL (by omega) (by omega)];exact Wo (fun t ht=>by
  unfold cO;split
  ·exact hn
  ·exact I64.of (by omega) (by omega))
theorem Pv (w:World) (a b n:Int) (h1:0<=a) (h2:a < b) (h3:b<=48) (hn:I64 n) :
  Calls prog 150 #[aA aB a,aA aB b,aA aB n] w (Cx w (qP a b n)):=by
 have hb0:Gw w.heap.size (w.alloc (.cells #[aE aD 0 0] 29)) []:=⟨_,heap_alloc_new w _,aBV _ _ _ _,fun _=>rfl⟩;have Hb0:=hid hb0;have hr:=hid (Wk (b:=b) (n:=n) h1 (by omega));have hN:=hid (Wi h1 h2 h3 hn);clear hb0;by_cases h0:0 < a
 ·rw[if_pos h0] at hr;go_enter func150,ntmps150
  go_wp2_with fail
  refine(xK w _ w.heap.size [] 0 0 (aBq _) ((Ext.rf w).al _) Hb0.out (by simp)).mono ?_;rintro e w1 ⟨rfl,hx1,hb1⟩;have l1:=sR [] 0 0;generalize hl1:xL [] 0 0=o1 at *;clear hl1;have Hb1:=hid hb1;clear hb1
  go_wp2_with fail
  refine(xK w _ w.heap.size o1 a n (aBq _) hx1 Hb1.out (by simp at l1;omega)).mono ?_;rintro e w2 ⟨rfl,hx2,hb2⟩;have l2:=sR o1 a n;generalize hl2:xL o1 a n=o2 at *;clear hl2;have Hb2:=hid hb2;clear hb2
  go_wp2_with fail
  refine(xK w _ w.heap.size o2 b 0 (aBq _) hx2 Hb2.out (by simp at l1;omega)).mono ?_;rintro e w3 ⟨rfl,hx3,hb3⟩;have l3:=sR o2 b 0;rw[<- hr.out] at hb3 l3;have Hb3:=hid hb3;obtain⟨v,hv,hown,_⟩:=hb3;have hcell:w3.cell? ⟨w.heap.size,0,aD⟩=aC v:=by rw[cell_of_row _ _ _ _ _ _ hv];rfl
  obtain⟨a2,c2,rfl⟩:=kI hown;have Hr:=hid (cG hown hN.out (by simp at l1;omega));clear hown hv
  go_wp2_with fail
  go_ret;exact⟨_,rfl,Hr.out,hx3⟩
 ·rw[if_neg h0] at hr;go_enter func150,ntmps150
  go_wp2_with fail
  refine(xK w _ w.heap.size [] a n (aBq _) ((Ext.rf w).al _) Hb0.out (by simp)).mono ?_;rintro e w2 ⟨rfl,hx2,hb2⟩;have l2:=sR [] a n;generalize hl2:xL [] a n=o2 at *;clear hl2;have Hb2:=hid hb2;clear hb2
  go_wp2_with fail
  refine(xK w _ w.heap.size o2 b 0 (aBq _) hx2 Hb2.out (by simp at l2;omega)).mono ?_;rintro e w3 ⟨rfl,hx3,hb3⟩;have l3:=sR o2 b 0;rw[<- hr.out] at hb3 l3;have Hb3:=hid hb3;obtain⟨v,hv,hown,_⟩:=hb3;have hcell:w3.cell? ⟨w.heap.size,0,aD⟩=aC v:=by rw[cell_of_row _ _ _ _ _ _ hv];rfl
  obtain⟨a2,c2,rfl⟩:=kI hown;have Hr:=hid (cG hown hN.out (by simp at l2;omega));clear hown hv
  go_wp2_with fail
  go_ret;exact⟨_,rfl,Hr.out,hx3⟩
@[irreducible] noncomputable def tS (f:List Run) (a b n:Int):List Run × Int:=
 if gM f then(if(0<=a/\a < b/\b<=48)/\kO n then Tr (fun t=>sp f t+cO a.toNat b.toNat n t) else([],3)) else([],1)
theorem vF (x:Nat->Int) (k:Nat) (hk:k < 48) (w:World):(Instr.index 95 (.agg (tab x)) (aA aB k)).run prog w=.ok (aA aB (x k)) w:=by
 have hn:(0<=(k:Int)/\(k:Int) < (48:Nat)):=by omega
 have hg:=Co (x:=x) hk;simp[Instr.index,run_underlying underlying95,asIntOf,hn,go_sem,hg];omega
theorem xV {a b t:Nat} {n:Int} (h1:a<=t) (h2:t < b):cO a b n t=n:=by unfold cO;rw[if_pos ⟨h1,h2⟩]
theorem oE {a b t:Nat} {n:Int} (h:¬ (a<=t/\t < b)):cO a b n t=0:=by unfold cO;rw[if_neg h]
theorem Rc (x:Nat->Int) (a b:Nat) (n:Int):pW (fun t=>x t+cO a b n t) x a=x:=by
 funext s;unfold pW;by_cases h:s < a
 ·rw[if_pos h];show x s+cO a b n s=x s;rw[oE (by omega)];omega
 ·rw[if_neg h]
theorem Yq (x:Nat->Int) (a b:Nat) (n:Int):pW (fun t=>x t+cO a b n t) x b=fun t=>x t+cO a b n t:=by
 funext s;unfold pW;by_cases h:s < b
 ·rw[if_pos h]
 ·rw[if_neg h,oE (by omega)];omega
theorem Ve (w:World) (fb fo fc gb go gc:Nat) (f g:List Run) (hl:f.length=g.length) (hf:∀ k x,f[k]?=aC x->vA w fb (fo+k*2) x) (hg:∀ k x,g[k]?=aC x->vA w gb (go+k*2) x) (hn:f.length<=17592186044416) :
  Calls prog 19 #[aE (aC ⟨fb,fo,aD⟩) f.length fc,aE (aC ⟨gb,go,aD⟩) g.length gc] w fun e w'=>e=.returned (.bool (decide (f=g)))/\Ext w w':=by
 have HF:=hid hf;have HG:=hid hg;have Hl:=hid hl;clear hf hg;generalize hm:g.length=m at *;generalize hk:f.length=n at *;have Hn:=hid hk;have Hm:=hid hm;subst hl;clear hk hm;go_enter func19,ntmps19
 go_wp2_with fail
 go_loopw [5] (fun c wr=>∃ k:Nat,c=aA aB k/\k<=n/\Hid (∀ j,j < k->f[j]?=g[j]?)/\Ext w wr) (fun c _=>n - (intOf c).toNat)
 case atStart=>exact⟨0,rfl,by omega,fun j hj=>absurd hj (aBn _),Ext.rf w⟩
 case round=>
  obtain⟨k,rfl,hk,He,hx⟩:=hrel;by_cases hlt:k < n
  ·have hlt':(k:Int) < (n:Int):=by omega
   obtain⟨x,hxk⟩:=pB (f:=f) (k:=k) (by rw[Hn.out];exact hlt);obtain⟨y,hyk⟩:=pB (f:=g) (k:=k) (by rw[Hm.out];exact hlt);obtain⟨c1,c2,c3,c4⟩:=HF.out k x hxk;obtain⟨d1,d2,d3,d4⟩:=HG.out k y hyk;replace c1:=hx.ce' c1;replace c2:=hx.ce' c2;replace d1:=hx.ce' d1;replace d2:=hx.ce' d2;by_cases ha:x.At=y.At
   ·by_cases hb:x.N=y.N
    ·have h1:=eqT ha;have h2:=eqT hb;have he:x=y:=by cases x;cases y;simp_all
     have Hxy:=hid (hxk.trans ((congrArg aC he).trans hyk.symm));clear he hxk hyk ha hb
     go_wp2_with fail
     go_quiet (fail)
     go_wp2_with fail
     go_roundw
     case rel=>exact⟨k+1,by go_num,by omega,hid (fun j hj=>if e:j=k then e▸Hxy.out else He.out j (by omega)),hx.dn _⟩
     case measure=>simp[intOf];omega
    ·have h1:=eqT ha;have h2:=eqF hb;have hfg:f≠g:=fun h=>hb (congrArg Run.N (Option.some.inj (hxk.symm.trans (h▸hyk))));have Hfg:=hid (deF hfg);clear hxk hyk ha hb hfg
     go_wp2_with fail
     go_quiet (fail)
     go_wp2_with fail
     go_ret;exact⟨(congrArg (fun b=>Ending.returned (.bool b)) Hfg.out).symm,hx.dn _⟩
   ·have h1:=eqF ha;have hfg:f≠g:=fun h=>ha (congrArg Run.At (Option.some.inj (hxk.symm.trans (h▸hyk))));have Hfg:=hid (deF hfg);clear hxk hyk ha hfg
    go_wp2_with fail
    go_quiet (fail)
    go_wp2_with fail
    go_ret;exact⟨(congrArg (fun b=>Ending.returned (.bool b)) Hfg.out).symm,hx.dn _⟩
  ·have hlt':¬ (k:Int) < (n:Int):=by omega
   obtain rfl:k=n:=by omega
   have hfg:f=g:=by
    apply aBU;intro j;by_cases hj:j < k
    ·exact He.out j hj
    ·rw[aBZ (by rw[Hn.out];omega),aBZ (by rw[Hm.out];omega)]
   have Hr:=hid (deT hfg)
   go_wp2_with fail
   go_ret;exact⟨rfl,hx⟩
theorem Mn (w:World) (vf vg:Value) (f g:List Run) (hf:bC w vf f) (hg:bC w vg g) :
  Calls prog 19 #[vf,vg] w fun e w'=>e=.returned (.bool (decide (f=g)))/\Ext w w':=by
 have nilc:∀ (a b:Option Addr) (c d:Nat),Calls prog 19 #[aE a 0 c,aE b 0 d] w fun e w'=>e=.returned (.bool true)/\Ext w w':=by
  intro a b c d;go_enter func19,ntmps19
  go_wp2_with fail
  go_loopw [5] (fun c wr=>c=aA aB 0/\Ext w wr) (fun c _=>0)
  case atStart=>exact⟨rfl,Ext.rf w⟩
  case round=>
   obtain⟨rfl,hx⟩:=hrel
   go_wp2_with fail
   go_ret;exact⟨rfl,hx⟩
 have neqc:∀ (a b:Option Addr) (n m c d:Nat),n≠m->Calls prog 19 #[aE a n c,aE b m d] w fun e w'=>e=.returned (.bool false)/\Ext w w':=by
  intro a b n m c d h;have h':=neT (a:=(n:Int)) (b:=(m:Int)) (by omega);go_enter func19,ntmps19
  go_wp2_with fail
  go_ret;exact⟨rfl,Ext.rf w⟩
 by_cases hl:f.length=g.length
 ·by_cases h0:f.length=0
  ·have e1:f=[]:=aBC h0;have e2:g=[]:=aBC (by omega);subst e1;subst e2;obtain⟨a,c,rfl,_⟩:=hf.form;obtain⟨b,d,rfl,_⟩:=hg.form;rw[deT rfl];exact nilc a b c d
  ·rcases hf with ⟨rfl,a0,c0,rfl,hc0⟩ | ⟨fb,fo,fc,rfl,f1,f2,f3,⟨f4,_⟩,f5⟩
   ·exact absurd rfl h0
   ·rcases hg with ⟨rfl,a0,c0,rfl,hc0⟩ | ⟨gb,go,gc,rfl,g1,g2,g3,⟨g4,_⟩,g5⟩
    ·exact absurd hl h0
    ·exact Ve w fb fo fc gb go gc f g hl f5 g5 f3
 ·rw[deF (fun h=>hl (by rw[h]))];obtain⟨a,c,rfl,_⟩:=hf.form;obtain⟨b,d,rfl,_⟩:=hg.form;exact neqc a b _ _ c d hl
@[irreducible] def sN (f:List Run) (from_ until_ size n:Int):Int × Bool:=match jP (sp f) from_.toNat until_.toNat size.toNat n with | some t=>((t:Int),true) | none=>(0,false)
theorem vT {f:List Run} {F U Z t:Nat} {n:Int} (h:jP (sp f) F U Z n=aC t):sN f (F:Int) (U:Int) (Z:Int) n=((t:Int),true):=by unfold sN;simp only[aBQ,h]
theorem Ql {f:List Run} {F U Z:Nat} {n:Int} (h:jP (sp f) F U Z n=aD):sN f (F:Int) (U:Int) (Z:Int) n=(0,false):=by unfold sN;simp only[aBQ,h]
def Bv (w:World) (r:Int × Bool) (e:Ending) (w':World):Prop:=e=.returned (.tuple #[aA aB r.1,.bool r.2])/\Ext w w'
theorem qE {w w':World} {r:Int × Bool} {n:Int} {b:Bool} (h:r=(n,b)) (hx:Ext w w'):Bv w r (.returned (.tuple #[aA aB n,.bool b])) w':=by
 subst h;exact⟨rfl,hx⟩
theorem Ld {f:List Run} {F U Z:Nat} {n:Int} {k A:Nat} (hU:U<=48) (hF:F<=48) (h:jR f F U Z n k A):A<=48:=by
 obtain⟨E,hE,a1,a2,_⟩:=h;omega
theorem Xg (w:World) (b off cap:Nat) (f:List Run) (F U Z:Nat) (n:Int) (hs:dI f) (hF:F<=48) (hU:U<=48) (hZ:0 < Z) (hZ4:Z<=48) (hcap:f.length<=cap) (hm:cap<=9223372036854775807) (hb:b < w.heap.size) (hE:∀ k x,f[k]?=aC x->vA w b (off+k*2) x) :
  Calls prog 182 #[aE (aC ⟨b,off,aD⟩) f.length cap,aA aB F,aA aB U,aA aB Z,aA aB n] w (Bv w (sN f F U Z n)):=by
 have HE:=hid hE;have hl:=jF hs;have S0:=hid (Lb (n:=n) (from_:=F) (until_:=U) hs hZ);have SP:=hid (fun(k A:Nat) (hk:k < f.length) (h:jR f F U Z n k A)=>Nl hs hZ hk h);have SL:=hid (fun(k A:Nat) (hk:k < f.length) (h:jR f F U Z n k A)=>Qm hs hZ hk h);have SH:=hid (fun(k A:Nat) (hk:k < f.length) (h:jR f F U Z n k A)=>Nn hs hk h);have SF:=hid (fun(k A:Nat) (hk:k < f.length) (h:jR f F U Z n k A)=>Lc hs hZ hk h);have SN:=hid (fun(A:Nat) (h:jR f F U Z n f.length A)=>Ql (Nm hU h));have SB:=hid (fun(k A:Nat) (h:jR f F U Z n k A)=>Ld hU hF h);have SI:=hid (fun(k:Nat) (hk:k < f.length)=>cM hs hk);clear hE hs;generalize hn:f.length=m at *;have Hn:=hid hn;clear hn;go_enter func182,ntmps182
 go_wp2_with fail
 go_loopw [12,19] (fun a c wr=>∃ k A:Nat,k<=m/\a=aA aB (A:Int)/\c=aA aB k/\Hid (jR f F U Z n k A)/\Ext w wr) (fun _ c _=>m - (intOf c).toNat)
 case atStart=>exact⟨0,F,aBO _,rfl,rfl,S0,Ext.rf _⟩
 case round=>
  obtain⟨k,A,hk,rfl,rfl,hat,hx⟩:=hrel;have hbw:b < wr.heap.size:=aBA hb hx.size;have hA:=SB.out k A hat.out;by_cases hlt:k < m
  ·have hlt':(k:Int) < (m:Int):=by omega
   obtain⟨x,hxk⟩:=pB (f:=f) (k:=k) (by rw[Hn.out];exact hlt);obtain⟨c1,c2,c3,c4⟩:=HE.out k x hxk;replace c1:=hx.ce' c1;replace c2:=hx.ce' c2;have cn:=cT hxk;have hcN:=hid cn;obtain⟨q1,q2,q3,q4⟩:=SI.out k hlt;clear hxk cn q4;have e48:cH f k<=48/\0<=cH f k:=⟨by omega,by omega⟩;obtain⟨E,hE⟩:∃ E:Int,iW f U k=E:=⟨_,rfl⟩;have HEE:=hid hE;have hE0:0<=E/\E<=48:=by rw[<- hE];unfold iW;omega
   have SP1:=hid (SP.out k A hlt hat.out);have SL1:=hid (SL.out k A hlt hat.out);have SH1:=hid (SH.out k A hlt hat.out);have SF1:=hid (SF.out k A hlt hat.out);rw[hE] at SP1 SL1 SH1 SF1;rw[hcN.out] at SL1 SH1 SF1;clear hat SP SL SH SF;have key:(k+1 < m/\∃ y,f[k+1]?=aC y/\y.At < (U:Int)/\E=y.At)\/(k+1 < m/\∃ y,f[k+1]?=aC y/\¬ y.At < (U:Int)/\E=U)\/(¬ k+1 < m/\E=U):=by
    by_cases hk1:k+1 < m
    ·obtain⟨y,hyk⟩:=pB (f:=f) (k:=k+1) (by rw[Hn.out];exact hk1);rw[<- hE];unfold iW;rw[gS (by rw[Hn.out];exact hk1),bK hyk];by_cases hy:y.At < (U:Int)
     ·exact .inl ⟨hk1,y,hyk,hy,by omega⟩
     ·exact .inr (.inl ⟨hk1,y,hyk,hy,by omega⟩)
    ·rw[<- hE];unfold iW;rw[gZ (by rw[Hn.out];exact hk1)];exact .inr (.inr ⟨hk1,by omega⟩)
   clear hE e48 HEE q1 q2 q3;have leaf:∀ K:Prop,(E<=(A:Int)->K)->(¬ E<=(A:Int)->x.N < n->K)->(¬ E<=(A:Int)->¬ x.N < n->(Z:Int)<=E - A->K)->(¬ E<=(A:Int)->¬ x.N < n->¬ (Z:Int)<=E - A->K)->K:=fun K h1 h2 h3 h4=>by
    by_cases g1:E<=(A:Int)
    ·exact h1 g1
    ·by_cases g2:x.N < n
     ·exact h2 g1 g2
     ·by_cases g3:(Z:Int)<=E - A
      ·exact h3 g1 g2 g3
      ·exact h4 g1 g2 g3
   have Leaf:=hid leaf;clear leaf;have e1:=hE0.1;have e2:=hE0.2;clear hE0;rcases key with ⟨hk1,y,hyk,hy,rfl⟩ | ⟨hk1,y,hyk,hy,rfl⟩ | ⟨hk1,rfl⟩
   ·have hk1':(k:Int)+1 < (m:Int):=by omega
    obtain⟨d1,d2,d3,d4⟩:=HE.out (k+1) y hyk;replace d1:=hx.ce' d1;clear d2 hyk;refine Leaf.out _ (fun g1=>?_) (fun g1 g2=>?_) (fun g1 g2 g3=>?_) (fun g1 g2 g3=>?_)
    ·go_wp2_with fail
     go_roundw
     case rel=>exact⟨k+1,A,by omega,rfl,by go_num,hid (SP1.out g1),hx.al _⟩
     case measure=>simp[intOf];omega
    ·go_wp2_with fail
     go_roundw
     case rel=>exact⟨k+1,y.At.toNat,by omega,by rw[Int.toNat_of_nonneg e1],by go_num,hid (SL1.out (by omega) g2),hx.al _⟩
     case measure=>simp[intOf];omega
    ·go_wp2_with fail
     go_ret2
     exact qE (vT (SF1.out (by omega) (by omega) g3)) (hx.al _)
    ·go_wp2_with fail
     go_roundw
     case rel=>exact⟨k+1,A,by omega,rfl,by go_num,hid (SH1.out (by omega) (by omega) (by omega)),hx.al _⟩
     case measure=>simp[intOf];omega
   ·have hk1':(k:Int)+1 < (m:Int):=by omega
    obtain⟨d1,d2,d3,d4⟩:=HE.out (k+1) y hyk;replace d1:=hx.ce' d1;clear d2 hyk;refine Leaf.out _ (fun g1=>?_) (fun g1 g2=>?_) (fun g1 g2 g3=>?_) (fun g1 g2 g3=>?_)
    ·go_wp2_with fail
     go_roundw
     case rel=>exact⟨k+1,A,by omega,rfl,by go_num,hid (SP1.out g1),hx.al _⟩
     case measure=>simp[intOf];omega
    ·go_wp2_with fail
     go_roundw
     case rel=>exact⟨k+1,U,by omega,rfl,by go_num,hid (by have:=SL1.out (by omega) g2;simpa using this),hx.al _⟩
     case measure=>simp[intOf];omega
    ·go_wp2_with fail
     go_ret2
     exact qE (vT (SF1.out (by omega) (by omega) g3)) (hx.al _)
    ·go_wp2_with fail
     go_roundw
     case rel=>exact⟨k+1,A,by omega,rfl,by go_num,hid (SH1.out (by omega) (by omega) (by omega)),hx.al _⟩
     case measure=>simp[intOf];omega
   ·have hk1':¬ (k:Int)+1 < (m:Int):=by omega
    refine Leaf.out _ (fun g1=>?_) (fun g1 g2=>?_) (fun g1 g2 g3=>?_) (fun g1 g2 g3=>?_)
    ·go_wp2_with fail
     go_roundw
     case rel=>exact⟨k+1,A,by omega,rfl,by go_num,hid (SP1.out g1),hx.al _⟩
     case measure=>simp[intOf];omega
    ·go_wp2_with fail
     go_roundw
     case rel=>exact⟨k+1,U,by omega,rfl,by go_num,hid (by have:=SL1.out (by omega) g2;simpa using this),hx.al _⟩
     case measure=>simp[intOf];omega
    ·go_wp2_with fail
     go_ret2
     exact qE (vT (SF1.out (by omega) (by omega) g3)) (hx.al _)
    ·go_wp2_with fail
     go_roundw
     case rel=>exact⟨k+1,A,by omega,rfl,by go_num,hid (SH1.out (by omega) (by omega) (by omega)),hx.al _⟩
     case measure=>simp[intOf];omega
  ·obtain rfl:k=m:=by omega
   have hlt':¬ (k:Int) < (k:Int):=by omega
   have Hr:=hid (SN.out A (by have:=hat.out;rw[<- Hn.out] at this ⊢;exact this))
   go_wp2_with fail
   go_ret2
   exact qE Hr.out hx
theorem Zu (w:World) (v:Value) (f:List Run) (a u z n:Int) (hv:bC w v f) (hs:dI f) (ha:0<=a/\a<=48) (hu:0<=u/\u<=48) (hz:1<=z/\z<=48) :
  Calls prog 182 #[v,aA aB a,aA aB u,aA aB z,aA aB n] w (Bv w (sN f a u z n)):=by
 obtain⟨b,off,cap,rfl,h4,h5,_,h6,h7⟩:=hv.some hs;obtain⟨F,rfl⟩:=aBP ha.1;obtain⟨U,rfl⟩:=aBP hu.1;obtain⟨Z,rfl⟩:=aBP (by omega:0<=z);exact Xg w b off cap f F U Z n hs (by omega) (by omega) (by omega) (by omega) h4 h5 h6 h7
theorem bT {α:Type} {f:List α} {k:Nat} (h:k < f.length):∃ x,f[k]?=aC x:=⟨_,aBu h⟩
theorem Dm (w:World) (fb fo fc gb go gc:Nat) (f g:List bO) (hl:f.length=g.length) (hf:∀ k x,f[k]?=aC x->Bz w fb (fo+k*2) x) (hg:∀ k x,g[k]?=aC x->Bz w gb (go+k*2) x) (hn:f.length<=17592186044416) :
  Calls prog 18 #[aE (aC ⟨fb,fo,aD⟩) f.length fc,aE (aC ⟨gb,go,aD⟩) g.length gc] w fun e w'=>e=.returned (.bool (decide (f=g)))/\Ext w w':=by
 have HF:=hid hf;have HG:=hid hg;have Hl:=hid hl;clear hf hg;generalize hm:g.length=m at *;generalize hk:f.length=n at *;have Hn:=hid hk;have Hm:=hid hm;subst hl;clear hk hm;go_enter func18,ntmps18
 go_wp2_with fail
 go_loopw [5] (fun c wr=>∃ k:Nat,c=aA aB k/\k<=n/\Hid (∀ j,j < k->f[j]?=g[j]?)/\Ext w wr) (fun c _=>n - (intOf c).toNat)
 case atStart=>exact⟨0,rfl,by omega,fun j hj=>absurd hj (aBn _),Ext.rf w⟩
 case round=>
  obtain⟨k,rfl,hk,He,hx⟩:=hrel;by_cases hlt:k < n
  ·have hlt':(k:Int) < (n:Int):=by omega
   obtain⟨x,hxk⟩:=bT (f:=f) (k:=k) (by rw[Hn.out];exact hlt);obtain⟨y,hyk⟩:=bT (f:=g) (k:=k) (by rw[Hm.out];exact hlt);obtain⟨c1,c2,c3,c4⟩:=HF.out k x hxk;obtain⟨d1,d2,d3,d4⟩:=HG.out k y hyk;replace c1:=hx.ce' c1;replace c2:=hx.ce' c2;replace d1:=hx.ce' d1;replace d2:=hx.ce' d2;by_cases ha:x.Piece=y.Piece
   ·by_cases hb:x.At=y.At
    ·have h1:=eqT ha;have h2:=eqT hb;have he:x=y:=by cases x;cases y;simp_all
     have Hxy:=hid (hxk.trans ((congrArg aC he).trans hyk.symm));clear he hxk hyk ha hb
     go_wp2_with fail
     go_quiet (fail)
     go_wp2_with fail
     go_roundw
     case rel=>exact⟨k+1,by go_num,by omega,hid (fun j hj=>if e:j=k then e▸Hxy.out else He.out j (by omega)),hx.dn _⟩
     case measure=>simp[intOf];omega
    ·have h1:=eqT ha;have h2:=eqF hb;have hfg:f≠g:=fun h=>hb (congrArg bO.At (Option.some.inj (hxk.symm.trans (h▸hyk))));have Hfg:=hid (deF hfg);clear hxk hyk ha hb hfg
     go_wp2_with fail
     go_quiet (fail)
     go_wp2_with fail
     go_ret;exact⟨(congrArg (fun b=>Ending.returned (.bool b)) Hfg.out).symm,hx.dn _⟩
   ·have h1:=eqF ha;have hfg:f≠g:=fun h=>ha (congrArg bO.Piece (Option.some.inj (hxk.symm.trans (h▸hyk))));have Hfg:=hid (deF hfg);clear hxk hyk ha hfg
    go_wp2_with fail
    go_quiet (fail)
    go_wp2_with fail
    go_ret;exact⟨(congrArg (fun b=>Ending.returned (.bool b)) Hfg.out).symm,hx.dn _⟩
  ·have hlt':¬ (k:Int) < (n:Int):=by omega
   obtain rfl:k=n:=by omega
   have hfg:f=g:=by
    apply aBU;intro j;by_cases hj:j < k
    ·exact He.out j hj
    ·rw[aBZ (by rw[Hn.out];omega),aBZ (by rw[Hm.out];omega)]
   have Hr:=hid (deT hfg)
   go_wp2_with fail
   go_ret;exact⟨rfl,hx⟩
theorem Ii (w:World) (vf vg:Value) (f g:List bO) (hf:bJ w vf f) (hg:bJ w vg g) :
  Calls prog 18 #[vf,vg] w fun e w'=>e=.returned (.bool (decide (f=g)))/\Ext w w':=by
 have nilc:∀ (a b:Option Addr) (c d:Nat),Calls prog 18 #[aE a 0 c,aE b 0 d] w fun e w'=>e=.returned (.bool true)/\Ext w w':=by
  intro a b c d;go_enter func18,ntmps18
  go_wp2_with fail
  go_loopw [5] (fun c wr=>c=aA aB 0/\Ext w wr) (fun c _=>0)
  case atStart=>exact⟨rfl,Ext.rf w⟩
  case round=>
   obtain⟨rfl,hx⟩:=hrel
   go_wp2_with fail
   go_ret;exact⟨rfl,hx⟩
 have neqc:∀ (a b:Option Addr) (n m c d:Nat),n≠m->Calls prog 18 #[aE a n c,aE b m d] w fun e w'=>e=.returned (.bool false)/\Ext w w':=by
  intro a b n m c d h;have h':=neT (a:=(n:Int)) (b:=(m:Int)) (by omega);go_enter func18,ntmps18
  go_wp2_with fail
  go_ret;exact⟨rfl,Ext.rf w⟩
 by_cases hl:f.length=g.length
 ·by_cases h0:f.length=0
  ·have e1:f=[]:=aBC h0;have e2:g=[]:=aBC (by omega);subst e1;subst e2;obtain⟨a,c,rfl,_⟩:=hf.form;obtain⟨b,d,rfl,_⟩:=hg.form;rw[deT rfl];exact nilc a b c d
  ·rcases hf with ⟨rfl,a0,c0,rfl,hc0⟩ | ⟨fb,fo,fc,rfl,f1,f2,f3,⟨f4,_⟩,f5⟩
   ·exact absurd rfl h0
   ·rcases hg with ⟨rfl,a0,c0,rfl,hc0⟩ | ⟨gb,go,gc,rfl,g1,g2,g3,⟨g4,_⟩,g5⟩
    ·exact absurd hl h0
    ·exact Dm w fb fo fc gb go gc f g hl f5 g5 f3
 ·rw[deF (fun h=>hl (by rw[h]))];obtain⟨a,c,rfl,_⟩:=hf.form;obtain⟨b,d,rfl,_⟩:=hg.form;exact neqc a b _ _ c d hl
theorem Cl (w:World) (b off cap:Nat) (f:List Piece) (G:Nat) (lb:Array Value) (p:Piece->Bool) (hl:f.length<=17592186044416) (hb:b < w.heap.size) (hE:∀ k x,f[k]?=aC x->Mq w b (off+k*2) x)
  (heg:∀ (args:Array Value) (w:World),(callFunc G args).run prog w=.ok (.enter G args) w)
  (hp:∀ (k:Nat) (x:Piece),f[k]?=aC x->∀ W,Ext w W->Calls prog G (#[.agg #[aA aB x.Len,aA aB x.N]]++lb) W fun e w'=>e=.returned (.bool (p x))/\Ext W w') :
  Calls prog 147 #[aE (aC ⟨b,off,aD⟩) f.length cap,.func (.func G) #[] lb] w fun e w'=>e=.returned (aA aB (fM p f))/\Ext w w':=by
 have HE:=hid hE;have Hp:=hid hp;clear hE hp;generalize hn:f.length=n at *;have Hn:=hid hn;clear hn;go_enter func147,ntmps147
 go_wp2_with fail
 go_loopw [8] (fun i wr=>∃ k:Nat,k<=n/\i=aA aB k/\Hid (∀ j y,j < k->f[j]?=aC y->p y=false)/\Ext w wr) (fun i _=>n - (intOf i).toNat)
 case atStart=>exact⟨0,aBO _,rfl,fun j y hj=>absurd hj (aBn _),Ext.rf _⟩
 case round=>
  obtain⟨k,hk,rfl,Hall,hx⟩:=hrel;have hbw:b < wr.heap.size:=aBA hb hx.size;by_cases hlt:k < n
  ·obtain⟨x,hxk⟩:=bT (f:=f) (k:=k) (by rw[Hn.out];exact hlt);obtain⟨c1,c2,c3,c4⟩:=HE.out k x hxk;replace c1:=hx.ce' c1;replace c2:=hx.ce' c2;have hc:=Hp.out k x hxk wr hx;have Hc:=hid hc;have Hx:=hid hxk;clear hc hxk;cases hpx:p x with
   | true=>
    rw[hpx] at Hc;have Hpx:=hid hpx;clear hpx
    go_wp2_with fail
    refine Hc.out.mono ?_;rintro e w1 ⟨rfl,hx1⟩
    go_wp2_with fail
    go_ret;exact⟨bB (qN Hx.out Hpx.out Hall.out).symm,hx.tr hx1⟩
   | false=>
    rw[hpx] at Hc;have Hpx:=hid hpx;clear hpx
    go_wp2_with fail
    refine Hc.out.mono ?_;rintro e w1 ⟨rfl,hx1⟩
    go_wp2_with fail
    go_roundw
    case rel=>exact⟨k+1,by omega,by go_num,mO Hx.out Hpx.out Hall.out,hx.tr hx1⟩
    case measure=>simp[intOf];omega
  ·obtain rfl:k=n:=by omega
   go_wp2_with fail
   go_ret;exact⟨bB (jO (fun j y hj hy=>Hall.out j y (by rw[Hn.out] at hj;exact hj) hy)).symm,hx⟩
theorem wU (w:World) (v:Value) (f:List Piece) (G:Nat) (lb:Array Value) (p:Piece->Bool) (hv:aU w v f)
  (heg:∀ (args:Array Value) (w:World),(callFunc G args).run prog w=.ok (.enter G args) w)
  (hp:∀ (k:Nat) (x:Piece),f[k]?=aC x->∀ W,Ext w W->Calls prog G (#[.agg #[aA aB x.Len,aA aB x.N]]++lb) W fun e w'=>e=.returned (.bool (p x))/\Ext W w') :
  Calls prog 88 #[v,.func (.func G) #[] lb] w fun e w'=>e=.returned (.bool (f.any p))/\Ext w w':=by
 rcases hv with ⟨rfl,a0,c0,rfl,hc0⟩ | ⟨b,off,cap,rfl,h1,h2,h3,⟨h4,_⟩,h5⟩
 ·go_enter func88,ntmps88
  go_wp2
  go_loopw [8] (fun i wr=>i=aA aB 0/\wr=w) (fun i _=>0)
  case atStart=>exact⟨rfl,rfl⟩
  case round=>
   obtain⟨rfl,rfl⟩:=hrel
   go_wp2
   go_ret;exact⟨rfl,Ext.rf _⟩
 ·have hi:=Cl w b off cap f G lb p h3 h4 h5 heg hp;have Hi:=hid hi;have ha:=hid (qO p f);clear hi hp h5;generalize fM p f=q at *;generalize hn:f.length=n at *;clear hn;generalize f.any p=r at *;go_enter func88,ntmps88
  go_wp2_with fail
  refine Hi.out.mono ?_;rintro e w1 ⟨rfl,hx1⟩
  go_wp2_with fail
  go_ret;exact⟨fD ha.out,hx1⟩
def gQ (p:Piece):Prop:=(1<=p.Len/\p.Len<=24)/\(1<=p.N/\p.N<=50)
instance (p:Piece):Decidable (gQ p):=inferInstanceAs (Decidable (_/\_))
def jA (k:Int):Prop:=1<=k/\k<=4
instance (k:Int):Decidable (jA k):=inferInstanceAs (Decidable (_/\_))
def iB (r:aS):Prop:=1<=r.aF.length/\r.aF.length<=3
instance (r:aS):Decidable (iB r):=inferInstanceAs (Decidable (_/\_))
def Mm (a b:Int):Prop:=0<=a/\a < b/\b<=48
instance (a b:Int):Decidable (Mm a b):=inferInstanceAs (Decidable (_/\_/\_))
def iH (r:aS):Prop:=Mm r.aI r.aH/\∀ p∈r.aF,gQ p
instance (r:aS):Decidable (iH r):=inferInstanceAs (Decidable (_/\_))
structure bX (r:aS):Prop where
 kind:jA r.aJ
 many:iB r
 range:iH r
theorem Vg {r:aS}:bX r↔jA r.aJ/\iB r/\iH r:=⟨fun h=>⟨h.kind,h.many,h.range⟩,fun h=>⟨h.1,h.2.1,h.2.2⟩⟩
instance (r:aS):Decidable (bX r):=decidable_of_iff _ Vg.symm
@[irreducible] def kC (r:aS):Int × Bool:=if¬ jA r.aJ then(7,true) else if¬ iB r then(2,true) else if¬ iH r then(3,false) else(0,false)
theorem wK {r:aS} (h:¬ jA r.aJ):kC r=(7,true):=by unfold kC;rw[if_pos h]
theorem wJ {r:aS} (h:jA r.aJ) (h2:¬ iB r):kC r=(2,true):=by unfold kC;rw[if_neg (fun h'=>h' h),if_pos h2]
theorem tM {r:aS} (h:jA r.aJ) (h2:iB r) (h3:¬ iH r):kC r=(3,false):=by unfold kC;rw[if_neg (fun h'=>h' h),if_neg (fun h'=>h' h2),if_pos h3]
theorem oS {r:aS} (h:bX r):kC r=(0,false):=by unfold kC;rw[if_neg (fun h'=>h' h.kind),if_neg (fun h'=>h' h.many),if_neg (fun h'=>h' h.range)]
theorem tN (r:aS):(¬ jA r.aJ/\kC r=(7,true))\/(jA r.aJ/\¬ iB r/\kC r=(2,true))\/(jA r.aJ/\iB r/\¬ iH r/\kC r=(3,false))\/(bX r/\kC r=(0,false)):=by
 by_cases h1:jA r.aJ
 ·by_cases h2:iB r
  ·by_cases h3:iH r
   ·exact .inr (.inr (.inr ⟨⟨h1,h2,h3⟩,oS ⟨h1,h2,h3⟩⟩))
   ·exact .inr (.inr (.inl ⟨h1,h2,h3,tM h1 h2 h3⟩))
  ·exact .inr (.inl ⟨h1,h2,wJ h1 h2⟩)
 ·exact .inl ⟨h1,wK h1⟩
theorem zZ {r:aS} (h:¬ bX r):∃ e b,kC r=(e,b)/\e≠0:=by
 rcases tN r with ⟨_,h1⟩ | ⟨_,_,h1⟩ | ⟨_,_,_,h1⟩ | ⟨h1,_⟩
 ·exact⟨_,_,h1,by decide⟩
 ·exact⟨_,_,h1,by decide⟩
 ·exact⟨_,_,h1,by decide⟩
 ·exact absurd h1 h
theorem form1 (x:Piece) (w:World):Calls prog 89 #[.agg #[aA aB x.Len,aA aB x.N]] w fun e w'=>e=.returned (.bool (decide (¬ gQ x)))/\Ext w w':=by
 have ho:=hid (fun(W:World) (o:Obj)=>(Ext.rf W).al o);by_cases h1:x.Len < 1
 ·rw[deT (p:=¬ gQ x) (fun h=>by have:=h.1.1;omega)];go_enter func89,ntmps89
  go_wp2_with fail
  go_ret;exact⟨rfl,ho.out _ _⟩
 ·by_cases h2:24 < x.Len
  ·rw[deT (p:=¬ gQ x) (fun h=>by have:=h.1.2;omega)];go_enter func89,ntmps89
   go_wp2_with fail
   go_ret;exact⟨rfl,ho.out _ _⟩
  ·by_cases h3:x.N < 1
   ·rw[deT (p:=¬ gQ x) (fun h=>by have:=h.2.1;omega)];go_enter func89,ntmps89
    go_wp2_with fail
    go_ret;exact⟨rfl,ho.out _ _⟩
   ·by_cases h4:50 < x.N
    ·rw[deT (p:=¬ gQ x) (fun h=>by have:=h.2.2;omega)];go_enter func89,ntmps89
     go_wp2_with fail
     go_ret;exact⟨rfl,ho.out _ _⟩
    ·rw[deF (p:=¬ gQ x) (fun h=>h ⟨⟨by omega,by omega⟩,by omega,by omega⟩)];go_enter func89,ntmps89
     go_wp2_with fail
     go_ret;exact⟨rfl,ho.out _ _⟩
def Um (w:World) (r:Int × Bool) (e:Ending) (w':World):Prop:=e=.returned (.tuple #[aA aB r.1,.bool r.2])/\Ext w w'
theorem kT {w w':World} {r:Int × Bool} {n:Int} {b:Bool} (h:r=(n,b)) (hx:Ext w w'):Um w r (.returned (.tuple #[aA aB n,.bool b])) w':=by
 subst h;exact⟨rfl,hx⟩
theorem pA (w:World) (pv:Value) (r:aS) (hv:aU w pv r.aF) :
  Calls prog 43 #[.agg #[aA aB r.aG,aA aB r.aI,aA aB r.aH,aA aB r.aJ,pv]] w (Um w (kC r)):=by
 have hal:=hid (fun(o:Obj)=>(Ext.rf w).al o);have P:=hid (fun(W:World) (h:Ext w W)=>wU W pv r.aF 89 #[] (fun x=>decide (¬ gQ x)) (hv.mono h) (enters_of func89 (by kernel_rfl) rfl) (fun k x _ W' _=>form1 x W'));obtain⟨pa,pc,rfl,hpc,_,hpl⟩:=hv.form;have Hm:=hid (show iB r↔1<=r.aF.length/\r.aF.length<=3 from Iff.rfl);have Hany:=hid (show r.aF.any (fun x=>decide (¬ gQ x))=false↔∀ p∈r.aF,gQ p from by
  rw[aBY];exact⟨fun h p hp=>by simpa using h p hp,fun h p hp=>by simpa using h p hp⟩)
 clear hv;generalize r.aF.any (fun x=>decide (¬ gQ x))=bad at *;rcases tN r with ⟨k1,hr⟩ | ⟨k1,k2,hr⟩ | ⟨k1,k2,k3,hr⟩ | ⟨k1,hr⟩
 ·have Hr:=hid hr;by_cases h1:r.aJ < 1
  ·clear k1 hr;generalize r.aF.length=n at *;go_enter func43,ntmps43
   go_wp2_with fail
   go_ret2
   exact kT Hr.out (hal.out _)
  ·have h2:4 < r.aJ:=by
    apply Classical.byContradiction;intro h2;exact k1 ⟨by omega,by omega⟩
   clear k1 hr;generalize r.aF.length=n at *;go_enter func43,ntmps43
   go_wp2_with fail
   go_ret2
   exact kT Hr.out (hal.out _)
 ·have Hr:=hid hr;have g1:¬ r.aJ < 1:=by have:=k1.1;omega
  have g2:¬ 4 < r.aJ:=by have:=k1.2;omega
  have k3:¬ (1<=r.aF.length/\r.aF.length<=3):=fun h=>k2 h;clear hr k1 k2;by_cases h1:r.aF.length < 1
  ·have h1':(r.aF.length:Int) < 1:=by omega
   clear k3;generalize r.aF.length=n at *;go_enter func43,ntmps43
   go_wp2_with fail
   go_ret2
   exact kT Hr.out (hal.out _)
  ·have h1':¬ (r.aF.length:Int) < 1:=by omega
   have h2':(3:Int) < (r.aF.length:Int):=by omega
   clear k3;generalize r.aF.length=n at *;go_enter func43,ntmps43
   go_wp2_with fail
   go_ret2
   exact kT Hr.out (hal.out _)
 ·have Hr:=hid hr;have g1:¬ r.aJ < 1:=by have:=k1.1;omega
  have g2:¬ 4 < r.aJ:=by have:=k1.2;omega
  have k2':=k2;obtain⟨j1,j2⟩:=k2';have g3:¬ (r.aF.length:Int) < 1:=by omega
  have g4:¬ (3:Int) < (r.aF.length:Int):=by omega
  by_cases hs:Mm r.aI r.aH
  ·have S:=hid (fun(W:World)=>Pp r.aI r.aH W hs.1 hs.2.1 hs.2.2);have hbad:bad=true:=by
    cases hb:bad with
    | true=>rfl
    | false=>exact absurd ⟨hs,Hany.out.1 hb⟩ k3
   subst hbad;clear hr k1 k2 k3 hs;generalize r.aF.length=n at *;go_enter func43,ntmps43
   go_wp2_with fail
   refine(S.out _).mono ?_;rintro e w1 ⟨rfl,rfl⟩
   go_wp2_with fail
   refine(P.out _ (hal.out _)).mono ?_;rintro e w2 ⟨rfl,hx2⟩
   go_wp2_with fail
   go_ret2
   exact kT Hr.out ((hal.out _).tr hx2)
  ·have S:=hid (fun(W:World)=>aAv r.aI r.aH W hs);clear hr k1 k2 k3 hs;generalize r.aF.length=n at *;go_enter func43,ntmps43
   go_wp2_with fail
   refine(S.out _).mono ?_;rintro e w1 ⟨rfl,rfl⟩
   go_wp2_with fail
   go_ret2
   exact kT Hr.out (hal.out _)
 ·have Hr:=hid hr;have g1:¬ r.aJ < 1:=by have:=k1.kind.1;omega
  have g2:¬ 4 < r.aJ:=by have:=k1.kind.2;omega
  obtain⟨j1,j2⟩:=k1.many;have g3:¬ (r.aF.length:Int) < 1:=by omega
  have g4:¬ (3:Int) < (r.aF.length:Int):=by omega
  have hs:=k1.range.1;have S:=hid (fun(W:World)=>Pp r.aI r.aH W hs.1 hs.2.1 hs.2.2);have hbad:bad=false:=Hany.out.2 k1.range.2;subst hbad;clear hr k1 hs;generalize r.aF.length=n at *;go_enter func43,ntmps43
  go_wp2_with fail
  refine(S.out _).mono ?_;rintro e w1 ⟨rfl,rfl⟩
  go_wp2_with fail
  refine(P.out _ (hal.out _)).mono ?_;rintro e w2 ⟨rfl,hx2⟩
  go_wp2_with fail
  go_ret2
  exact kT Hr.out ((hal.out _).tr hx2)
theorem wG (k:Int) (w:World):Calls prog 50 #[aA aB k] w fun e w'=>e=.returned (.bool (decide (jA k)))/\w'=w:=by
 by_cases h:jA k
 ·rw[deT h];have W1:=hid (cE k 1 4 w h.1 h.2);clear h;go_enter func50,ntmps50
  go_wp2_with fail
  refine W1.out.mono ?_;rintro e w1 ⟨rfl,rfl⟩
  go_wp2_with fail
  go_ret;exact⟨rfl,rfl⟩
 ·rw[deF h];have W1:=hid (dU k 1 4 w h);clear h;go_enter func50,ntmps50
  go_wp2_with fail
  refine W1.out.mono ?_;rintro e w1 ⟨rfl,rfl⟩
  go_wp2_with fail
  go_ret;exact⟨rfl,rfl⟩
@[irreducible] def Oi (r:aS):Int:=if iB r then 0 else 2
theorem uO {r:aS} (h:iB r):Oi r=0:=by unfold Oi;rw[if_pos h]
theorem xR {r:aS} (h:¬ iB r):Oi r=2:=by unfold Oi;rw[if_neg h]
@[irreducible] def vX (r:aS):Int:=if iH r then 0 else 3
theorem oM {r:aS} (h:iH r):vX r=0:=by unfold vX;rw[if_pos h]
theorem qF {r:aS} (h:¬ iH r):vX r=3:=by unfold vX;rw[if_neg h]
theorem nR (w:World) (pv:Value) (r:aS) (hv:aU w pv r.aF) :
  Calls prog 51 #[.agg #[aA aB r.aG,aA aB r.aI,aA aB r.aH,aA aB r.aJ,pv]] w fun e w'=>e=.returned (aA aB (Oi r))/\Ext w w':=by
 have hal:=hid (fun(o:Obj)=>(Ext.rf w).al o);obtain⟨pa,pc,rfl,hpc,_,hpl⟩:=hv.form;clear hv;by_cases h:iB r
 ·have Hr:=hid (uO h);have W1:=hid (fun(W:World)=>cE (r.aF.length:Int) 1 3 W (by have:=h.1;omega) (by have:=h.2;omega));clear h;generalize r.aF.length=n at *;go_enter func51,ntmps51
  go_wp2_with fail
  refine(W1.out _).mono ?_;rintro e w1 ⟨rfl,rfl⟩
  go_wp2_with fail
  go_ret;exact⟨bB Hr.out.symm,hal.out _⟩
 ·have Hr:=hid (xR h);have W1:=hid (fun(W:World)=>dU (r.aF.length:Int) 1 3 W (fun h'=>h ⟨by have:=h'.1;omega,by have:=h'.2;omega⟩));clear h;generalize r.aF.length=n at *;go_enter func51,ntmps51
  go_wp2_with fail
  refine(W1.out _).mono ?_;rintro e w1 ⟨rfl,rfl⟩
  go_wp2_with fail
  go_ret;exact⟨bB Hr.out.symm,hal.out _⟩
theorem bY {w W:World} {a b c d e:Value} {t:TypeId} (hx:Ext (w.alloc (.cells #[a,b,c,d,e] t)) W) :
  W.cell? ⟨w.heap.size,0,aD⟩=aC a/\W.cell? ⟨w.heap.size,1,aD⟩=aC b/\W.cell? ⟨w.heap.size,2,aD⟩=aC c/\W.cell? ⟨w.heap.size,3,aD⟩=aC d/\W.cell? ⟨w.heap.size,4,aD⟩=aC e:=by
 have h:=heap_alloc_new w (.cells #[a,b,c,d,e] t);have k:∀ j v,(#[a,b,c,d,e]:Array Value)[j]?=aC v->W.cell? ⟨w.heap.size,j,aD⟩=aC v:=fun j v hv=>hx.ce' (by rw[cell_of_row _ _ _ _ _ _ h];exact hv);exact⟨k 0 _ rfl,k 1 _ rfl,k 2 _ rfl,k 3 _ rfl,k 4 _ rfl⟩
def bP (b:List bO) (k:Nat):Int:=(b.getD k default).Piece
def bA (b:List bO) (k:Nat):Int:=(b.getD k default).At
def pL (r:aS) (j:Nat):Int:=(r.aF.getD j default).Len
def pN (r:aS) (j:Nat):Int:=(r.aF.getD j default).N
theorem iG {b:List bO} {k:Nat} {x:bO} (h:b[k]?=aC x):bP b k=x.Piece/\bA b k=x.At:=by
 have e:b.getD k default=x:=by simp[aC0,h]
 exact⟨by unfold bP;rw[e],by unfold bA;rw[e]⟩
theorem dW {r:aS} {k:Nat} {x:Piece} (h:r.aF[k]?=aC x):pL r k=x.Len/\pN r k=x.N:=by
 have e:r.aF.getD k default=x:=by simp[aC0,h]
 exact⟨by unfold pL;rw[e],by unfold pN;rw[e]⟩
def kJ (b:List bO) (k:Nat):Int:=if k=0 then -1 else bP b (k - 1)
def pC (r:aS) (b:List bO) (k:Nat):Int:=if k=0 then -1 else bA b (k - 1)+pL r (bP b (k - 1)).toNat
structure lT (r:aS) (b:List bO) (k:Nat):Prop where
 up:kJ b k < bP b k
 is:bP b k < r.aF.length
 from_:r.aI<=bA b k
 until_:bA b k<=r.aH
 fits:pL r (bP b k).toNat<=r.aH - bA b k
 order:0 < k->r.aJ=3->pC r b k<=bA b k
 tight:0 < k->r.aJ=4->bA b k=pC r b k
def jM (r:aS) (b:List bO):Prop:=if r.aJ=2 then b.length=1 else b.length=r.aF.length
instance (r:aS) (b:List bO):Decidable (jM r b):=by unfold jM;infer_instance
@[irreducible] noncomputable def dL (r:aS) (b:List bO):Bool:=open Classical in decide (bX r/\(∀ k,k < b.length->lT r b k)/\jM r b)
theorem gH {r:aS} {b:List bO}:dL r b=true↔bX r/\(∀ k,k < b.length->lT r b k)/\jM r b:=by unfold dL;simp
theorem zU {r:aS} {b:List bO} (h:¬ (bX r/\(∀ k,k < b.length->lT r b k)/\jM r b)):dL r b=false:=by
 rw[Bool.eq_false_iff];exact fun h'=>h (gH.1 h')
theorem As {r:aS} {b:List bO} (h:¬ bX r):dL r b=false:=zU (fun h'=>h h'.1)
theorem Of {r:aS} {b:List bO} {k:Nat} (hk:k < b.length) (h:¬ lT r b k):dL r b=false:=zU (fun h'=>h (h'.2.1 k hk))
structure vL (r:aS) (b:List bO) (k:Nat):Prop where
 low:0<=bP b k
 is:bP b k<=(r.aF.length:Int) - 1
 up:0 < k->bP b (k - 1) < bP b k
 from_:r.aI<=bA b k
 until_:bA b k<=r.aH
 fits:bA b k<=r.aH - pL r (bP b k).toNat
structure oZ (r:aS) (b:List bO) (k:Nat):Prop where
 order:r.aJ=3->bA b (k - 1)+pL r (k - 1)<=bA b k
 tight:r.aJ=4->bA b k=bA b (k - 1)+pL r (k - 1)
theorem Za {f:Nat->Int} {n:Nat} (h0:∀ k,k < n->0<=f k) (hup:∀ k,0 < k->k < n->f (k - 1) < f k) (hn:∀ k,k < n->f k<=(n:Int) - 1):∀ k,k < n->f k=k:=by
 have lo:∀ k,k < n->(k:Int)<=f k:=by
  intro k
  induction k with
  | zero=>intro h;exact h0 0 h
  | succ k ih=>intro h;have:=ih (by omega);have:=hup (k+1) (by omega) h;simp only[aBo] at this;omega
 have hi:∀ d k,k+d+1=n->f k<=k:=by
  intro d
  induction d with
  | zero=>intro k h;have:=hn k (by omega);omega
  | succ d ih=>intro k h;have:=ih (k+1) (by omega);have:=hup (k+1) (by omega) (by omega);simp only[aBo] at this;omega
 intro k hk;have:=lo k hk;have:=hi (n - k - 1) k (by omega);omega
theorem xA {r:aS} {b:List bO} {n:Nat} (h:∀ k,k < n->lT r b k):∀ k,k < n->0<=bP b k:=by
 intro k
 induction k with
 | zero=>intro hk;have:=(h 0 hk).up;unfold kJ at this;rw[if_pos rfl] at this;omega
 | succ k ih=>intro hk;have h1:=ih (by omega);have:=(h (k+1) hk).up;unfold kJ at this;rw[if_neg (by omega)] at this;simp only[aBo] at this;omega
theorem kU {r:aS} {b:List bO} (hr:bX r):dL r b=true↔(∀ k,k < b.length->vL r b k)/\(if r.aJ=2 then b.length=1 else b.length=r.aF.length/\∀ k,0 < k->k < b.length->oZ r b k):=by
 rw[gH];constructor
 ·rintro⟨_,hs,hc⟩;have h0:=xA hs;have hup:∀ k,0 < k->k < b.length->bP b (k - 1) < bP b k:=fun k h1 h2=>by
   have:=(hs k h2).up;unfold kJ at this;rw[if_neg (by omega)] at this;exact this
  refine⟨fun k hk=>⟨h0 k hk,by have:=(hs k hk).is;omega,fun h=>hup k h hk,(hs k hk).from_,(hs k hk).until_,by have:=(hs k hk).fits;omega⟩,?_⟩;unfold jM at hc;split
  ·rename_i h2;rw[if_pos h2] at hc;exact hc
  ·rename_i h2
   rw[if_neg h2] at hc;have hid:=Za h0 hup (fun k hk=>by have:=(hs k hk).is;omega);refine⟨hc,fun k h1 hk=>?_⟩;have e:pC r b k=bA b (k - 1)+pL r (k - 1):=by
    unfold pC;rw[if_neg (by omega),hid (k - 1) (by omega),aBQ]
   exact⟨fun h3=>by have:=(hs k hk).order h1 h3;omega,fun h4=>by have:=(hs k hk).tight h1 h4;omega⟩
 ·rintro⟨hs,hc⟩;refine⟨hr,fun k hk=>?_,?_⟩
  ·have h:=hs k hk;have link:0 < k->r.aJ≠2->pC r b k=bA b (k - 1)+pL r (k - 1)/\oZ r b k:=fun h1 h2=>by
    rw[if_neg h2] at hc;have hid:=Za (fun k hk=>(hs k hk).low) (fun k h1 hk=>(hs k hk).up h1) (fun k hk=>by have:=(hs k hk).is;omega);exact⟨by unfold pC;rw[if_neg (by omega),hid (k - 1) (by omega),aBQ],hc.2 k h1 hk⟩
   refine⟨?_,by have:=h.is;omega,h.from_,h.until_,by have:=h.fits;omega,fun h1 h3=>?_,fun h1 h4=>?_⟩
   ·unfold kJ;split
    ·have:=h.low;omega
    ·exact h.up (by omega)
   ·obtain⟨e,hl⟩:=link h1 (by omega);rw[e];exact hl.order h3
   ·obtain⟨e,hl⟩:=link h1 (by omega);rw[e];exact hl.tight h4
  ·unfold jM;split
   ·rename_i h2;rw[if_pos h2] at hc;exact hc
   ·rename_i h2;rw[if_neg h2] at hc;exact hc.1
theorem Re {r:aS} {b:List bO} (hr:bX r) (h:∀ k,k < b.length->lT r b k):dL r b=decide (jM r b):=by
 by_cases hc:jM r b
 ·rw[decide_eq_true hc];exact gH.2 ⟨hr,h,hc⟩
 ·rw[decide_eq_false hc];exact zU (fun h'=>hc h'.2.2)
end Go.Proofs.YtdcndkojmflhnaaGreat
