/- places, requests; each theorem names its own conditions. -/
import Derived.Test.YtdcndkojmflhnaaGreatPFind
import Derived.Test.YtdcndkojmflhnaaGreatPSeekS
import Derived.Test.YtdcndkojmflhnaaGreatPReqL
import Derived.Test.YtdcndkojmflhnaaGreatPUp
import Derived.Test.YtdcndkojmflhnaaGreatPCore
import Derived.WalkSpells
import Derived.StillTactics
import Derived.Tactics2
import Derived.Deep.RegionHeld3
import Derived.Deep.AppendLies
/- Places, plainly: what is found meets the request, and there is room for it; no program in sight. -/
set_option linter.unusedVariables false
set_option maxRecDepth 100000
set_option maxHeartbeats 8000000
set_option linter.unusedSimpArgs false
set_option linter.unusedVariables false
namespace Go.Proofs.YtdcndkojmflhnaaGreat
open Go.RowKit
open List renaming getElem_toArray→zA,getElem_cons_zero→zB,getElem_cons_succ→zC,setIfInBounds_toArray→zD,set_cons_zero→zE,set_cons_succ→zF
def Path (r:Request) (nx:(Nat→Int)→Nat→Nat→Nat→Int) (na:Nat→Nat→Nat):Nat→(Nat→Int)→Nat→List Nat→Prop
 | _,_,_,[]=>True
 | k,x,a,t::ts=>pieceT x r a k=some t∧Path r nx na (k+1) (nx x k t) (na k t) ts
def bitesOf:Nat→List Nat→List Bite
 | _,[]=>[]
 | k,t::ts=>⟨(k:Int),(t:Int)⟩::bitesOf (k+1) ts
theorem bitesOf_len:∀ (k:Nat) (ts:List Nat),(bitesOf k ts).length=ts.length
 | _,[]=>rfl
 | k,t::ts=>by simp [bitesOf,bitesOf_len (k+1) ts]
theorem bitesOf_get:∀ (ts:List Nat) (k j:Nat),j < ts.length→(bitesOf k ts)[j]?=some ⟨((k+j:Nat):Int),((ts.getD j 0:Nat):Int)⟩
 | [],k,j,h=>by simp at h
 | t::ts,k,0,_=>by simp [bitesOf]
 | t::ts,k,j+1,h=>by
  have:=bitesOf_get ts (k+1) j (by simpa using h)
  simp only [bitesOf,List.getElem?_cons_succ,this]
  simp [Nat.add_assoc,Nat.add_comm 1 j]
theorem eachGo_path {r:Request} {nx:(Nat→Int)→Nat→Nat→Nat→Int} {na:Nat→Nat→Nat}:∀ (m k:Nat) (x:Nat→Int) (a:Nat) (out:List Bite),
  eachGo r nx na m k x a out=[]∨∃ ts,ts.length=m∧Path r nx na k x a ts∧eachGo r nx na m k x a out=out++bitesOf k ts
 | 0,k,x,a,out=>.inr ⟨[],rfl,trivial,by simp [eachGo,bitesOf]⟩
 | m+1,k,x,a,out=>by
  rw [eachGo]
  cases h:pieceT x r a k with
  | none=>exact .inl rfl
  | some t =>
   rcases eachGo_path (r:=r) (nx:=nx) (na:=na) m (k+1) (nx x k t) (na k t) (out++[⟨(k:Int),(t:Int)⟩]) with h1 | ⟨ts,h1,h2,h3⟩
   ·exact .inl h1
   ·exact .inr ⟨t::ts,by simp [h1],⟨h,h2⟩,by show eachGo r nx na m (k+1) (nx x k t) (na k t) (out++[⟨(k:Int),(t:Int)⟩])=_;rw [h3];simp [bitesOf]⟩
theorem path_at {r:Request} {nx:(Nat→Int)→Nat→Nat→Nat→Int} {na:Nat→Nat→Nat}:∀ (ts:List Nat) (k:Nat) (x:Nat→Int) (a:Nat),Path r nx na k x a ts→∀ j,j < ts.length →
  ∃ (x':Nat→Int) (a':Nat),pieceT x' r a' (k+j)=some (ts.getD j 0)∧(j=0→a'=a)∧(0 < j→a'=na (k+j - 1) (ts.getD (j - 1) 0))
 | [],k,x,a,_,j,h=>by simp at h
 | t::ts,k,x,a,⟨h1,h2⟩,0,_=>⟨x,a,by simpa using h1,fun _=>rfl,fun h=>by omega⟩
 | t::ts,k,x,a,⟨h1,h2⟩,j+1,h=>by
  obtain ⟨x',a',h3,h4,h5⟩:=path_at ts (k+1) (nx x k t) (na k t) h2 j (by simpa using h)
  refine ⟨x',a',by rw [show k+(j+1)=k+1+j by omega];simpa using h3,fun h=>by omega,fun _=>?_⟩
  by_cases e:j=0
  ·subst e;rw [h4 rfl];simp
  ·rw [h5 (by omega),show k+1+j - 1=k+(j+1) - 1 by omega]
   obtain ⟨i,rfl⟩:∃ i,j=i+1:=⟨j - 1,by omega⟩
   simp
theorem bP_of {ts:List Nat} {j:Nat} (h:j < ts.length):bP (bitesOf 0 ts) j=j∧bA (bitesOf 0 ts) j=(ts.getD j 0:Nat):=by
 have:=bite_at (bitesOf_get ts 0 j h)
 simpa using this
def HasTl (r:Request) (j t:Nat):Prop:=t+(pL r j).toNat≤r.Until.toNat
theorem each_meets {r:Request} {nx:(Nat→Int)→Nat→Nat→Nat→Int} {na:Nat→Nat→Nat} {x:Nat→Int} {ts:List Nat} (hr:ReqOk r) (hk2:r.Kind≠2) (hk4:r.Kind≠4) (hl:ts.length=r.Pieces.length) (h:Path r nx na 0 x r.From.toNat ts)
  (hf:∀ k t,r.From.toNat≤t→r.From.toNat≤na k t) (ho:r.Kind=3→∀ k t,na k t=behindA r k t):meetsR r (bitesOf 0 ts)=true:=by
 obtain ⟨⟨q1,q2,q3⟩,q4⟩:=req_range hr
 have hin:∀ j,j < ts.length→r.From.toNat≤ts.getD j 0∧HasTl r j (ts.getD j 0):=by
  intro j
  induction j with
  | zero =>
   intro hj
   obtain ⟨x',a',h1,h2,_⟩:=path_at ts 0 x _ h 0 hj
   have h3:=pieceT_in h1
   have h4:=h3.2.2.1
   rw [h2 rfl] at h3
   simp only [Nat.zero_add] at h4
   exact ⟨h3.1,h4⟩
  | succ j ih =>
   intro hj
   obtain ⟨x',a',h1,_,h2⟩:=path_at ts 0 x _ h (j+1) hj
   have h3:=pieceT_in h1
   have h4:=h3.2.2.1
   have h5:=hf (0+(j+1) - 1) (ts.getD (j+1 - 1) 0) (ih (by omega)).1
   rw [h2 (by omega)] at h3
   simp only [Nat.zero_add] at h4
   exact ⟨by omega,h4⟩
 rw [meetsR_iff]
 refine ⟨hr,fun k hk=>?_,?_⟩
 ·rw [bitesOf_len] at hk
  obtain ⟨e1,e2⟩:=bP_of hk
  obtain ⟨h1,h2⟩:=hin k hk
  unfold HasTl at h2
  obtain ⟨⟨p1,p2⟩,_⟩:=q4 k (by omega)
  refine ⟨?_,by rw [e1];omega,by rw [e2];omega,by rw [e2];omega,by rw [e1,e2,Int.toNat_natCast];omega,fun h0 h3=>?_,fun _ h4=>absurd h4 hk4⟩
  ·unfold lastP
   split
   ·rw [e1];omega
   ·rw [(bP_of (ts:=ts) (j:=k - 1) (by omega)).1,e1];omega
  ·unfold endA
   rw [if_neg (by omega),(bP_of (ts:=ts) (j:=k - 1) (by omega)).1,(bP_of (ts:=ts) (j:=k - 1) (by omega)).2,e2,Int.toNat_natCast]
   obtain ⟨x',a',h5,_,h6⟩:=path_at ts 0 x _ h k hk
   have h7:=(pieceT_in h5).1
   rw [h6 h0,ho h3] at h7
   unfold behindA at h7
   simp only [Nat.zero_add] at h7
   obtain ⟨⟨p3,_⟩,_⟩:=q4 (k - 1) (by omega)
   omega
 ·unfold CountOk
  rw [if_neg hk2,bitesOf_len,hl]
theorem tightGo_at {x:Nat→Int} {r:Request}:∀ (m t:Nat),tightGo x r m t=[]∨∃ s,t≤s∧s < t+m∧TightAt x r s∧tightGo x r m t=rowB r s r.Pieces.length∧∀ q,t≤q→q < s→¬ TightAt x r q
 | 0,t=>.inl rfl
 | m+1,t=>by
  rw [tightGo]
  by_cases h:TightAt x r t
  ·rw [if_pos h];exact .inr ⟨t,by omega,by omega,h,rfl,fun q h1 h2=>by omega⟩
  ·rw [if_neg h]
   rcases tightGo_at (x:=x) (r:=r) m (t+1) with h1 | ⟨s,h1,h2,h3,h4,h5⟩
   ·exact .inl h1
   ·refine .inr ⟨s,by omega,by omega,h3,h4,fun q k1 k2=>?_⟩
    by_cases e:q=t
    ·subst e;exact h
    ·exact h5 q (by omega) k2
theorem anyGo_at {x:Nat→Int} {r:Request}:∀ (m k:Nat),(anyGo x r m k=[]∧∀ j,k≤j→j < k+m→pieceT x r r.From.toNat j=none)∨∃ j t,k≤j∧j < k+m∧pieceT x r r.From.toNat j=some t∧anyGo x r m k=[⟨(j:Int),(t:Int)⟩]∧∀ i,k≤i→i < j→pieceT x r r.From.toNat i=none
 | 0,k=>.inl ⟨rfl,fun j h1 h2=>by omega⟩
 | m+1,k=>by
  rw [anyGo]
  cases h:pieceT x r r.From.toNat k with
  | some t=>exact .inr ⟨k,t,by omega,by omega,h,rfl,fun i h1 h2=>by omega⟩
  | none =>
   rcases anyGo_at (x:=x) (r:=r) m (k+1) with ⟨h1,h2⟩ | ⟨j,t,h1,h2,h3,h4,h5⟩
   ·refine .inl ⟨h1,fun j k1 k2=>?_⟩
    by_cases e:j=k
    ·subst e;exact h
    ·exact h2 j (by omega) (by omega)
   ·refine .inr ⟨j,t,by omega,by omega,h3,h4,fun i k1 k2=>?_⟩
    by_cases e:i=k
    ·subst e;exact h
    ·exact h5 i (by omega) k2
theorem startT_ge (r:Request) (s:Nat):∀ k,s≤startT r s k
 | 0=>Nat.le_refl _
 | k+1=>by have:=startT_ge r s k;rw [startT_next];omega
theorem rowB_get {r:Request} {t n j:Nat} (h:j < n):bP (rowB r t n) j=j∧bA (rowB r t n) j=(startT r t j:Nat):=by
 have:(rowB r t n)[j]?=some ⟨(j:Int),(startT r t j:Int)⟩:=by simp [rowB,h]
 exact bite_at this
theorem found_meets {r:Request} {x:Nat→Int} (hr:ReqOk r) (h:placeL x r≠[]):meetsR r (placeL x r)=true:=by
 obtain ⟨⟨q1,q2,q3⟩,q4⟩:=req_range hr
 obtain ⟨m1,m3⟩:=hr.many
 obtain ⟨k1,k2⟩:=hr.kind
 rcases (by omega:r.Kind=1∨r.Kind=2∨r.Kind=3∨r.Kind=4) with hk | hk | hk | hk
 ·rw [placeL_all hk] at h ⊢
  rcases eachGo_path (r:=r) (nx:=takeX r) (na:=fromA r) r.Pieces.length 0 x r.From.toNat [] with h1 | ⟨ts,h1,h2,h3⟩
  ·exact absurd h1 h
  ·rw [h3,List.nil_append]
   exact each_meets hr (by omega) (by omega) h1 h2 (fun k t ht=>Nat.le_refl _) (fun h=>by omega)
 ·rw [placeL_any hk] at h ⊢
  rcases anyGo_at (x:=x) (r:=r) r.Pieces.length 0 with ⟨h1,_⟩ | ⟨j,t,h1,h2,h3,h4,_⟩
  ·exact absurd h1 h
  ·rw [h4,meetsR_iff]
   obtain ⟨p1,p2,p3⟩:=pieceT_in h3
   have p4:=p3.1
   obtain ⟨⟨p5,p6⟩,_⟩:=q4 j (by omega)
   refine ⟨hr,fun k hk'=>?_,?_⟩
   ·obtain rfl:k=0:=by simp at hk';omega
    have e1:bP [(⟨(j:Int),(t:Int)⟩:Bite)] 0=j:=rfl
    have e2:bA [(⟨(j:Int),(t:Int)⟩:Bite)] 0=t:=rfl
    refine ⟨?_,by rw [e1];omega,by rw [e2];omega,by rw [e2];omega,by rw [e1,e2,Int.toNat_natCast];omega,fun h0=>by omega,fun h0=>by omega⟩
    unfold lastP;rw [if_pos rfl,e1];omega
   ·unfold CountOk;rw [if_pos hk];rfl
 ·rw [placeL_order hk] at h ⊢
  rcases eachGo_path (r:=r) (nx:=keepX) (na:=behindA r) r.Pieces.length 0 x r.From.toNat [] with h1 | ⟨ts,h1,h2,h3⟩
  ·exact absurd h1 h
  ·rw [h3,List.nil_append]
   exact each_meets hr (by omega) (by omega) h1 h2 (fun k t ht=>by unfold behindA;omega) (fun h k t=>rfl)
 ·rw [placeL_tight hk] at h ⊢
  rcases tightGo_at (x:=x) (r:=r) (r.Until.toNat - r.From.toNat) r.From.toNat with h1 | ⟨s,h1,h2,h3,h4,_⟩
  ·exact absurd h1 h
  ·rw [h4,meetsR_iff]
   refine ⟨hr,fun k hk'=>?_,?_⟩
   ·rw [rowB_len] at hk'
    obtain ⟨e1,e2⟩:=rowB_get (r:=r) (t:=s) hk'
    have h5:=(h3 k hk').1
    obtain ⟨⟨p5,p6⟩,_⟩:=q4 k hk'
    have h6:=startT_ge r s k
    refine ⟨?_,by rw [e1];omega,by rw [e2];omega,by rw [e2];omega,by rw [e1,e2,Int.toNat_natCast];omega,fun h0 h3=>by omega,fun h0 _=>?_⟩
    ·unfold lastP
     split
     ·rw [e1];omega
     ·rw [(rowB_get (r:=r) (t:=s) (n:=r.Pieces.length) (j:=k - 1) (by omega)).1,e1];omega
    ·unfold endA
     obtain ⟨e3,e4⟩:=rowB_get (r:=r) (t:=s) (n:=r.Pieces.length) (j:=k - 1) (by omega)
     obtain ⟨⟨p7,p8⟩,_⟩:=q4 (k - 1) (by omega)
     rw [if_neg (by omega),e3,e4,e2,Int.toNat_natCast]
     obtain ⟨i,rfl⟩:∃ i,k=i+1:=⟨k - 1,by omega⟩
     rw [startT_next,Nat.add_sub_cancel]
     rw [Nat.add_sub_cancel] at p7
     omega
   ·unfold CountOk
    rw [if_neg (by omega),rowB_len]
noncomputable def heldGo (r:Request):List Run→List Bite→Bool
 | _,[]=>true
 | f,x::b=>if (bumpR f x.At (x.At+pL r x.Piece.toNat) (-(pN r x.Piece.toNat))).2=0∧(leastR (bumpR f x.At (x.At+pL r x.Piece.toNat) (-(pN r x.Piece.toNat))).1 x.At (x.At+pL r x.Piece.toNat)).2=0∧0≤(leastR (bumpR f x.At (x.At+pL r x.Piece.toNat) (-(pN r x.Piece.toNat))).1 x.At (x.At+pL r x.Piece.toNat)).1
  then heldGo r (bumpR f x.At (x.At+pL r x.Piece.toNat) (-(pN r x.Piece.toNat))).1 b else false
def HeldAt (r:Request):(Nat→Int)→List Bite→Prop
 | _,[]=>True
 | y,x::b=>(0≤x.Piece∧x.Piece < r.Pieces.length∧0≤x.At)∧HasT y x.At.toNat r.Until.toNat (pL r x.Piece.toNat).toNat (pN r x.Piece.toNat)∧HeldAt r (takeX r y x.Piece.toNat x.At.toNat) b
theorem take_one {r:Request} (hr:ReqOk r) {f:List Run} {y:Nat→Int} {k t:Nat} (hf:Fine f) (hy:∀ i,i < 48→sp f i=y i) (hk:k < r.Pieces.length) (h:HasT y t r.Until.toNat (pL r k).toNat (pN r k)) :
  ∃ g low,bumpR f (t:Int) ((t:Int)+pL r k) (-(pN r k))=(g,0)∧Fine g∧(∀ i,i < 48→sp g i=takeX r y k t i)∧leastR g (t:Int) ((t:Int)+pL r k)=(low,0)∧0≤low:=by
 obtain ⟨⟨q1,q2,q3⟩,q4⟩:=req_range hr
 obtain ⟨⟨p1,p2⟩,p3,p4⟩:=q4 k hk
 obtain ⟨h1,h2⟩:=h
 have hz:∀ i,i < 48→sp f i+hillT t (t+(pL r k).toNat) (-(pN r k)) i=takeX r y k t i:=fun i hi=>by unfold takeX;rw [hy i hi]
 have hn:∀ i,i < 48→NumOk (sp f i+hillT t (t+(pL r k).toNat) (-(pN r k)) i):=fun i hi=>by
  have h3:=fine_sp hf hi
  have h4:=h3.1
  have h5:=h3.2
  by_cases hin:t≤i∧i < t+(pL r k).toNat
  ·rw [hillT_in hin.1 hin.2]
   have h6:=h2 i hin.1 hin.2
   rw [← hy i hi] at h6
   exact ⟨by omega,by omega⟩
  ·rw [hillT_out hin,Int.add_zero];exact h3
 have e1:((t:Int)+pL r k).toNat=t+(pL r k).toNat:=by omega
 have hb:bumpR f (t:Int) ((t:Int)+pL r k) (-(pN r k))=(fold (fun i=>sp f i+hillT t (t+(pL r k).toNat) (-(pN r k)) i),0):=by
  unfold bumpR
  rw [if_pos hf,if_pos ⟨⟨by omega,by omega,by omega⟩,⟨by omega,by omega⟩⟩,e1,Int.toNat_natCast]
  exact toldT_yes hn
 have hfine:=fine_fold hn
 refine ⟨_,lowT (sp (fold (fun i=>sp f i+hillT t (t+(pL r k).toNat) (-(pN r k)) i))) t (t+(pL r k).toNat),hb,hfine,fun i hi=>by rw [sp_fold hi];exact hz i hi,?_,?_⟩
 ·unfold leastR
  rw [if_pos hfine,if_pos ⟨by omega,by omega,by omega⟩,e1,Int.toNat_natCast]
 ·rw [le_lowT (by omega)]
  intro i k1 k2
  rw [sp_fold (by omega),hillT_in k1 k2]
  have h6:=h2 i k1 k2
  rw [← hy i (by omega)] at h6
  omega
theorem held_of {r:Request} (hr:ReqOk r):∀ (b:List Bite) (f:List Run) (y:Nat→Int),Fine f→(∀ i,i < 48→sp f i=y i)→HeldAt r y b→heldGo r f b=true
 | [],_,_,_,_,_=>rfl
 | x::b,f,y,hf,hy,⟨⟨h1,h2,h3⟩,h4,h5⟩=>by
  obtain ⟨g,low,e1,e2,e3,e4,e5⟩:=take_one hr hf hy (k:=x.Piece.toNat) (t:=x.At.toNat) (by omega) h4
  rw [Int.toNat_of_nonneg h3] at e1 e4
  rw [heldGo,e1]
  simp only [e4]
  rw [if_pos ⟨trivial,trivial,e5⟩]
  exact held_of hr b g _ e2 e3 h5
theorem held_all {r:Request}:∀ (ts:List Nat) (k:Nat) (x:Nat→Int) (a:Nat),k+ts.length=r.Pieces.length→Path r (takeX r) (fromA r) k x a ts→HeldAt r x (bitesOf k ts)
 | [],_,_,_,_,_=>trivial
 | t::ts,k,x,a,hl,⟨h1,h2⟩=>by
  have h3:=(pieceT_in h1).2.2
  simp only [List.length_cons] at hl
  exact ⟨⟨Int.natCast_nonneg _,by show (k:Int) < _;omega,Int.natCast_nonneg _⟩,h3,held_all ts (k+1) _ _ (by omega) h2⟩
theorem held_order {r:Request} (hr:ReqOk r):∀ (ts:List Nat) (k:Nat) (x y:Nat→Int) (a:Nat),k+ts.length=r.Pieces.length→Path r keepX (behindA r) k x a ts→(∀ i,a≤i→y i=x i)→HeldAt r y (bitesOf k ts)
 | [],_,_,_,_,_,_,_=>trivial
 | t::ts,k,x,y,a,hl,⟨h1,h2⟩,hy=>by
  obtain ⟨h3,h4,h5⟩:=pieceT_in h1
  simp only [List.length_cons] at hl
  refine ⟨⟨Int.natCast_nonneg _,by show (k:Int) < _;omega,Int.natCast_nonneg _⟩,⟨h5.1,fun i k1 k2=>by rw [hy i (by show a≤i;simp at k1;omega)];exact h5.2 i k1 k2⟩,?_⟩
  refine held_order hr ts (k+1) x _ _ (by omega) h2 (fun i hi=>?_)
  unfold behindA at hi
  show y i+hillT t (t+(pL r k).toNat) (-(pN r k)) i=x i
  rw [hillT_out (by omega),hy i (by omega)];omega
theorem held_tight {r:Request} {x:Nat→Int} {s:Nat}:∀ (m k:Nat) (y:Nat→Int),k+m=r.Pieces.length→TightAt x r s→(∀ i,startT r s k≤i→y i=x i)→HeldAt r y (bitesOf k ((List.range' k m).map (startT r s)))
 | 0,_,_,_,_,_=>trivial
 | m+1,k,y,hl,ht,hy=>by
  have h5:=ht k (by omega)
  refine ⟨⟨Int.natCast_nonneg _,by show (k:Int) < _;omega,Int.natCast_nonneg _⟩,⟨h5.1,fun i k1 k2=>by rw [hy i k1];exact h5.2 i k1 k2⟩,?_⟩
  refine held_tight m (k+1) _ (by omega) ht (fun i hi=>?_)
  rw [startT_next] at hi
  show y i+hillT (startT r s k) (startT r s k+(pL r k).toNat) (-(pN r k)) i=x i
  rw [hillT_out (by omega),hy i (by omega)];omega
theorem bitesOf_row (r:Request) (s:Nat):∀ (m k:Nat),bitesOf k ((List.range' k m).map (startT r s))=(List.range' k m).map fun (i:Nat)=>(⟨(i:Int),(startT r s i:Int)⟩:Bite)
 | 0,_=>rfl
 | m+1,k=>by
  rw [List.range'_succ,List.map_cons,List.map_cons,bitesOf,bitesOf_row r s m (k+1)]
theorem found_held {r:Request} {f:List Run} (hf:Fine f) (hr:ReqOk r) (h:placeL (sp f) r≠[]):heldGo r f (placeL (sp f) r)=true:=by
 refine held_of hr _ f (sp f) hf (fun _ _=>rfl) ?_
 obtain ⟨k1,k2⟩:=hr.kind
 rcases (by omega:r.Kind=1∨r.Kind=2∨r.Kind=3∨r.Kind=4) with hk | hk | hk | hk
 ·rw [placeL_all hk] at h ⊢
  rcases eachGo_path (r:=r) (nx:=takeX r) (na:=fromA r) r.Pieces.length 0 (sp f) r.From.toNat [] with h1 | ⟨ts,h1,h2,h3⟩
  ·exact absurd h1 h
  ·rw [h3,List.nil_append];exact held_all ts 0 _ _ (by omega) h2
 ·rw [placeL_any hk] at h ⊢
  rcases anyGo_at (x:=sp f) (r:=r) r.Pieces.length 0 with ⟨h1,_⟩ | ⟨j,t,h1,h2,h3,h4,_⟩
  ·exact absurd h1 h
  ·rw [h4]
   exact ⟨⟨Int.natCast_nonneg _,by show (j:Int) < _;omega,Int.natCast_nonneg _⟩,(pieceT_in h3).2.2,trivial⟩
 ·rw [placeL_order hk] at h ⊢
  rcases eachGo_path (r:=r) (nx:=keepX) (na:=behindA r) r.Pieces.length 0 (sp f) r.From.toNat [] with h1 | ⟨ts,h1,h2,h3⟩
  ·exact absurd h1 h
  ·rw [h3,List.nil_append];exact held_order hr ts 0 _ _ _ (by omega) h2 (fun _ _=>rfl)
 ·rw [placeL_tight hk] at h ⊢
  rcases tightGo_at (x:=sp f) (r:=r) (r.Until.toNat - r.From.toNat) r.From.toNat with h1 | ⟨s,h1,h2,h3,h4,_⟩
  ·exact absurd h1 h
  ·rw [h4]
   have:=held_tight (r:=r) (x:=sp f) (s:=s) r.Pieces.length 0 (sp f) (by omega) h3 (fun _ _=>rfl)
   rw [bitesOf_row,← List.range_eq_range'] at this
   exact this
def maxTo (x:Nat→Int):Nat→Int
 | 0=>x 0
 | k+1=>max (maxTo x k) (x (k+1))
def numA (l:List Int) (k:Nat):Int:=l.getD k 0
theorem numA_at {l:List Int} {k:Nat} {x:Int} (h:l[k]?=some x):numA l k=x:=by unfold numA;simp [List.getD_eq_getElem?_getD,h]
theorem Max_any (w:World) (v:Value) (l:List Int) (hv:IntsV w v l) (h1:1≤l.length) :
  Calls Tryz.prog 170 #[v] w fun e w'=>e=.returned (.int .i64 (maxTo (numA l) (l.length - 1)))∧Ext w w':=by
 rcases hv with ⟨rfl,_⟩ | ⟨b,off,cap,rfl,h2,h3,h4,h5,h6⟩
 ·simp at h1
 ·have HE:=hid (show ∀ (k:Nat),k < l.length→w.cell? ⟨b,off+k,none⟩=some (.int .i64 (numA l k)) from fun k hk=>by
   obtain ⟨x,hx⟩:=getA hk
   have:=(h6 k x hx).1
   rw [Nat.mul_one] at this
   rw [numA_at hx];exact this)
  clear h6
  generalize l.length=n at *
  have c0:=HE.out 0 (by omega)
  rw [Nat.add_zero] at c0
  generalize numA l=f at *
  have hm0:=hid (show maxTo f 0=f 0 from rfl)
  have hms:=hid (show ∀ k,maxTo f (k+1)=max (maxTo f k) (f (k+1)) from fun _=>rfl)
  go_enter Tryz.func170,Tryz.ntmps170
  go_wp2_with fail
  go_loopw [3,4] (fun m c wr=>∃ k:Nat,c=.int .i64 k∧1≤k∧k≤n∧Hid (m=.int .i64 (maxTo f (k - 1)))∧wr=w) (fun _ c _=>n - (intOf c).toNat)
  case atStart=>exact ⟨1,rfl,by omega,by omega,hid (by rw [hm0.out]),rfl⟩
  case round =>
   obtain ⟨k,rfl,hk1,hk,hm,rfl⟩:=hrel
   obtain ⟨q,hq⟩:∃ q,maxTo f (k - 1)=q:=⟨_,rfl⟩
   have hm':=hm.out
   rw [hq] at hm'
   subst hm'
   have HQ:=hid hq
   clear hm hq
   by_cases hlt:k < n
   ·have hlt':(k:Int) < (n:Int):=by omega
    have c1:=HE.out k hlt
    have HS:=hid (show maxTo f (k+1 - 1)=max q (f k) from by rw [show k+1 - 1=(k - 1)+1 by omega,hms.out,HQ.out,show k - 1+1=k by omega])
    generalize f k=z at *
    go_wp2_with fail
    go_roundw
    case rel=>exact ⟨k+1,by go_num,by omega,by omega,hid (by rw [HS.out,maxw]),trivial⟩
    case measure=>simp [intOf];omega
   ·have hlt':¬ (k:Int) < (n:Int):=by omega
    obtain rfl:k=n:=by omega
    go_wp2_with fail
    go_ret
    exact ⟨ret_int HQ.out.symm,Ext.rf _⟩
structure BiteIn (r:Request) (b:List Bite) (k:Nat):Prop where
 low:0≤bP b k
 is:bP b k < r.Pieces.length
 at0:0≤bA b k
 at48:bA b k≤48
def overA (r:Request) (b:List Bite) (k:Nat):Int:=bA b k+pL r (bP b k).toNat
@[irreducible] noncomputable def overR (r:Request) (b:List Bite):Int × Int:=open Classical in if ReqOk r∧1≤b.length∧∀ k,k < b.length→BiteIn r b k then (maxTo (overA r b) (b.length - 1),0) else (0,1)
theorem overR_yes {r:Request} {b:List Bite} (h:ReqOk r) (h1:1≤b.length) (h2:∀ k,k < b.length→BiteIn r b k):overR r b=(maxTo (overA r b) (b.length - 1),0):=by unfold overR;rw [if_pos ⟨h,h1,h2⟩]
theorem overR_no {r:Request} {b:List Bite} (h:¬ (ReqOk r∧1≤b.length∧∀ k,k < b.length→BiteIn r b k)):overR r b=(0,1):=by unfold overR;rw [if_neg h]
def RetInt2 (w:World) (r:Int × Int) (e:Ending) (w':World):Prop:=e=.returned (.tuple #[.int .i64 r.1,.int .i64 r.2])∧Ext w w'
theorem retInt2_of {w w':World} {r:Int × Int} {n m:Int} (h:r=(n,m)) (hx:Ext w w'):RetInt2 w r (.returned (.tuple #[.int .i64 n,.int .i64 m])) w':=by
 subst h;exact ⟨rfl,hx⟩
def intsV (l:List Int):List Value:=l.map (Value.int .i64)
theorem intsV_snoc (l:List Int) (k:Int):intsV (l++[k])=intsV l++[.int .i64 k]:=by simp [intsV]
theorem intsV_own {w:World} {base e:Nat} {v:Value} {xs:List Int} (h:w.ownsRow base e 1 v xs.length (intsV xs)) (hi:∀ x∈xs,I64 x) (hl:xs.length≤17592186044416):IntsV w v xs:=by
 obtain ⟨h1,h2⟩:=h
 rcases h2 with ⟨rfl,h2⟩ | ⟨b,cap,cur,rfl,hb,hg,hn,hm,hs,ht⟩
 ·obtain rfl:=List.eq_nil_of_length_eq_zero h2
  exact .inl ⟨rfl,none,0,rfl,by omega⟩
 ·refine .inr ⟨b,0,cap,rfl,hn,hm,hl,(Array.getElem?_eq_some_iff.1 hg).1,fun k x hk=>⟨?_,hi x (List.mem_of_getElem? hk)⟩⟩
  have hkl:k < xs.length:=(List.getElem?_eq_some_iff.1 hk).1
  have h3:(intsV xs)[k]?=some (.int .i64 x):=by simp [intsV,hk]
  rw [← ht,List.getElem?_take] at h3
  simp only [World.cell?,hg,Option.isSome_none,Bool.false_eq_true,if_false]
  split at h3
  ·simpa using h3
  ·cases h3
def endsL (r:Request) (b:List Bite) (k:Nat):List Int:=(List.range k).map (overA r b)
theorem endsL_snoc (r:Request) (b:List Bite) (k:Nat):endsL r b (k+1)=endsL r b k++[overA r b k]:=by simp [endsL,List.range_succ]
theorem endsL_len (r:Request) (b:List Bite) (k:Nat):(endsL r b k).length=k:=by simp [endsL]
theorem maxTo_congr {f g:Nat→Int}:∀ n,(∀ k,k≤n→f k=g k)→maxTo f n=maxTo g n
 | 0,h=>h 0 (Nat.le_refl _)
 | n+1,h=>by simp only [maxTo];rw [maxTo_congr n (fun k hk=>h k (by omega)),h (n+1) (Nat.le_refl _)]
theorem endsL_max (r:Request) (b:List Bite) {k:Nat} (h:1≤k):maxTo (numA (endsL r b k)) (k - 1)=maxTo (overA r b) (k - 1) :=
 maxTo_congr _ (fun j hj=>numA_at (by rw [endsL,List.getElem?_map,List.getElem?_range (by omega)];rfl))
theorem over_num {r:Request} {b:List Bite} (hr:ReqOk r) {k:Nat} (h:BiteIn r b k):1≤overA r b k∧overA r b k≤72∧1≤pL r (bP b k).toNat∧pL r (bP b k).toNat≤24:=by
 have hl:=h.low
 have hi:=h.is
 obtain ⟨y,hy⟩:=getA (f:=r.Pieces) (k:=(bP b k).toNat) (by omega)
 have h1:=hr.range.2 y (List.mem_of_getElem? hy)
 have h2:=(piece_at hy).1
 have h3:=h.at0
 have h4:=h.at48
 have h5:=h1.1.1
 have h6:=h1.1.2
 unfold overA
 rw [h2]
 exact ⟨by omega,by omega,h5,h6⟩
theorem Over_ok (w:World) (pv bv:Value) (r:Request) (b:List Bite) (hr:ReqOk r) (h1z:1≤b.length) (hv:PiecesV w pv r.Pieces) (hb:BitesV w bv b) :
   Calls Tryz.prog 137 #[.agg #[.int .i64 r.Queue,.int .i64 r.From,.int .i64 r.Until,.int .i64 r.Kind,pv],bv] w (RetInt2 w (overR r b)):=by
 obtain ⟨ii,ii1,ii2,ii3,ii4⟩:=info_parts Tryz.info3
 have F:=hid (fun (W:World) (h:Ext w W)=>Form_any W pv r (hv.mono h))
 rw [formR_ok hr] at F
 obtain ⟨m1,m3⟩:=hr.many
 have HN:=hid (fun (k:Nat) (h:BiteIn r b k)=>over_num hr h)
 have HY:=hid (fun (h:∀ k,k < b.length→BiteIn r b k)=>overR_yes hr h1z h)
 have HB:=hid (fun (k:Nat) (hk:k < b.length) (h:¬ BiteIn r b k)=>overR_no (r:=r) (fun h'=>h (h'.2.2 k hk)))
 obtain ⟨pb,po,pc,rfl,hpc,hpc9,hpb,hpE⟩:=pieces_at hv m1
 obtain ⟨bb,bo,bc,rfl,hbc,hbc9,hbl,hbb,hbE⟩:∃ bb bo bc,bv=.slice (some ⟨bb,bo,none⟩) b.length bc∧b.length≤bc∧bc≤9223372036854775807∧b.length≤17592186044416∧bb < w.heap.size∧∀ k x,b[k]?=some x→EBite w bb (bo+k*2) x:=by
   rcases hb with ⟨rfl,_⟩ | ⟨b',off,cap,rfl,h1,h2,h3,h4,h5⟩
   · simp at h1z
   · exact ⟨b',off,cap,rfl,h1,h2,h3,h4,h5⟩
 have HPE:=hid hpE
 have HBE:=hid hbE
 clear hv hb hpE hbE hr
 generalize hn:r.Pieces.length=n at *
 have Hn:=hid hn
 generalize hz:b.length=z at *
 have Hz:=hid hz
 clear hn hz
 have hz0:=eqF (a:=(z:Int)) (b:=0) (by omega)
 go_enter Tryz.func137,Tryz.ntmps137
 go_wp2_with fail
 refine (F.out _ ((Ext.rf w).al _)).mono ?_
 rintro e w1 ⟨rfl,hx1⟩
 have hal:=hid (((Ext.rf w).al _).tr hx1)
 have Hbox:=hid (fun (W:World) (h:Ext w1 W)=>reqCells (hx1.tr h))
 have hBw:w.heap.size < w1.heap.size:=by have:=hx1.size;simp at this;omega
 clear hx1
 go_wp2_with fail
 go_loopw [8,25] (fun v c wr=>∃ (k:Nat) (ov:Value),ov=v∧c=.int .i64 k∧k≤z∧Hid (wr.ownsRow w1.heap.size 3 1 ov k (intsV (endsL r b k)))∧Hid (∀ j,j < k→BiteIn r b j)∧Ext w1 wr) (fun _ c _=>z - (intOf c).toNat)
 case atStart=>exact ⟨0,_,rfl,rfl,by omega,World.ownsRow_nil _ _ _ _,hid (fun j hj=>absurd hj (Nat.not_lt_zero _)),Ext.rf _⟩
 case round =>
   obtain ⟨k,ov,rfl,rfl,hk,Hown,Hall,hx⟩:=hrel
   have hxw:=hal.out.tr hx
   have hsz:=hx.size
   have hBr:w.heap.size < wr.heap.size:=by omega
   have hpr:pb < wr.heap.size:=by omega
   obtain ⟨z0,z1,z2,z3,z4⟩:=Hbox.out wr hx
   by_cases hlt:k < z
   · have hlt':(k:Int) < (z:Int):=by omega
     obtain ⟨x,hxk⟩:=getA (f:=b) (k:=k) (by rw [Hz.out];exact hlt)
     obtain ⟨e1,e2⟩:=bite_at hxk
     obtain ⟨c1,c2,_,_⟩:=E2.mono w wr bb _ x hxw (HBE.out k x hxk)
     have hbr:bb < wr.heap.size:=by omega
     by_cases t1:x.Piece < 0
     · have t1d:=deT t1
       have Hr:=hid (HB.out k hlt (fun h=>by have:=h.low;rw [e1] at this;omega))
       clear hxk e1 e2
       go_wp2_with fail
       go_ret2
       exact retInt2_of Hr.out (hal.out.tr (hx.al _))
     · have t1d:=deF t1
       by_cases t2:(n:Int)≤x.Piece
       · have t2d:=deT t2
         have Hr:=hid (HB.out k hlt (fun h=>by have:=h.is;rw [e1,Hn.out] at this;omega))
         clear hxk e1 e2
         go_wp2_with fail
         go_ret2
         exact retInt2_of Hr.out (hal.out.tr (hx.al _))
       · have t2d:=deF t2
         by_cases t3:x.At < 0
         · have t3d:=deT t3
           have Hr:=hid (HB.out k hlt (fun h=>by have:=h.at0;rw [e2] at this;omega))
           clear hxk e1 e2
           go_wp2_with fail
           go_ret2
           exact retInt2_of Hr.out (hal.out.tr (hx.al _))
         · have t3d:=deF t3
           by_cases t4:48 < x.At
           · have t4d:=deT t4
             have Hr:=hid (HB.out k hlt (fun h=>by have:=h.at48;rw [e2] at this;omega))
             clear hxk e1 e2
             go_wp2_with fail
             go_ret2
             exact retInt2_of Hr.out (hal.out.tr (hx.al _))
           · have t4d:=deF t4
             have hin:BiteIn r b k:=⟨by rw [e1];omega,by rw [e1,Hn.out];omega,by rw [e2];omega,by rw [e2];omega⟩
             have Hs:=hid (show ∀ j,j < k+1→BiteIn r b j from fun j hj=>by
               by_cases e:j=k
               · subst e;exact hin
               · exact Hall.out j (by omega))
             obtain ⟨j,hpj⟩:∃ j:Nat,x.Piece=j:=⟨x.Piece.toNat,by omega⟩
             have hjn:j < n:=by omega
             obtain ⟨y,hyk⟩:=getA (f:=r.Pieces) (k:=j) (by rw [Hn.out];exact hjn)
             obtain ⟨ey,_⟩:=piece_at hyk
             obtain ⟨d1,_,_,_⟩:=E2.mono w wr pb _ y hxw (HPE.out j y hyk)
             obtain ⟨_,_,l1,l2⟩:=HN.out k hin
             rw [e1,hpj,Int.toNat_natCast,ey] at l1 l2
             rw [hpj] at c1
             have t1j:=deF (show ¬ (j:Int) < 0 by omega)
             have t2j:=deF (show ¬ n≤j by omega)
             have ho2:=hid (show overA r b k=x.At+y.Len from by unfold overA;rw [e1,e2,hpj,Int.toNat_natCast,ey])
             have hwr:(IntKind.i64.wrap (x.At+y.Len))=x.At+y.Len:=by rw [IntKind.wrap_i64];omega
             clear hxk e1 e2 Hall hyk ey hin hpj
             go_wp2_with fail
             obtain ⟨V,hV⟩:∃ V,wr.alloc (.cells #[.int .i64 (j:Int),.int .i64 x.At] 42)=V:=⟨_,rfl⟩
             rw [hV]
             have hVx:Ext wr V:=by rw [← hV];exact (Ext.rf wr).al _
             have hVb:wr.heap.size < V.heap.size:=by rw [← hV];simp
             have hVr:=heap_alloc_new wr (.cells #[.int .i64 (j:Int),.int .i64 x.At] 42)
             rw [hV] at hVr
             have k0:V.cell? ⟨wr.heap.size,0,none⟩=some (.int .i64 (j:Int)):=by rw [cell_of_row _ _ _ _ _ _ hVr];rfl
             have k1:V.cell? ⟨wr.heap.size,1,none⟩=some (.int .i64 x.At):=by rw [cell_of_row _ _ _ _ _ _ hVr];rfl
             have k2:=hVx.ce' z4
             have k3:=hVx.ce' d1
             have hown:=ownsRow_ext Hown.out hVx
             have hlt3:∀ g,ov.ownBlock=some g→w1.heap.size≤g∧g < wr.heap.size:=fun g hg=>Hown.out.lt g hg
             have n1:ov.ownBlock≠some wr.heap.size:=fun e=>by have:=(hlt3 _ e).2;omega
             have n2:ov.ownBlock≠some w.heap.size:=fun e=>by have:=(hlt3 _ e).1;omega
             have n3:ov.ownBlock≠some pb:=fun e=>by have:=(hlt3 _ e).1;omega
             have HVx:=hid hVx
             have hmv:w1.heap.size≤V.heap.size:=by omega
             clear hV hVr hlt3 hVx z0 z1 z2 z3 z4 c1 c2 d1
             obtain ⟨BX,hBX⟩:∃ BX,wr.heap.size=BX:=⟨_,rfl⟩
             rw [hBX] at k0 k1 n1 hVb ⊢
             clear hBX
             go_region_held3 (fun w'=>w'.cell? ⟨BX,0,none⟩=some (.int .i64 (j:Int))∧w'.cell? ⟨BX,1,none⟩=some (.int .i64 x.At)∧w'.cell? ⟨w.heap.size,4,none⟩=some (.slice (some ⟨pb,po,none⟩) n pc)∧w'.cell? ⟨pb,po+j*2,none⟩=some (.int .i64 y.Len))
               (first
                 | go_keep
                 | (
                    go_split_ands
                    refine ⟨?_,?_,?_,?_⟩
                    · (rw [hgrow.cell_far _ (by simp;omega) (Ne.symm n1)];assumption)
                    · (rw [hgrow.cell_far _ (by simp;omega) (Ne.symm n1)];assumption)
                    · (rw [hgrow.cell_far _ (by simp;omega) (Ne.symm n2)];assumption)
                    · (rw [hgrow.cell_far _ (by simp;omega) (Ne.symm n3)];assumption)))
               ((refine step_append_lies _ (by rfl) _ _ _ (by rfl) w1.heap.size 3 ii _ 1 8 Tryz.underlying67 ii1 ii2 ii3 ii4 rfl (by omega) ov k (intsV (endsL r b k)) (by rfl) ((hown.alloc _).drew)
                   ⟨V.heap.size,0,none⟩ 1 1 [.int .i64 (x.At+y.Len)] (by rfl) (by rfl) (World.news_of_block (cs:=#[.int .i64 (x.At+y.Len)]) (t:=3) (fr:=(0,0)) (heap_alloc_new V _)) (by simp [Value.oneCell'])
                   (by omega) (by unfold maxLen;omega) (by omega) (by simp;omega) (V.heap.size+1) (by simp) ?_;intro gg cap W2 hown2 hgrow hat hlt4))
             go_wp2_with fail
             go_roundw
             case rel=>exact ⟨k+1,_,rfl,by go_num,by omega,hid (by rw [endsL_snoc,intsV_snoc,ho2.out];exact hown2),Hs,(((hx.tr HVx.out).al _).dr).gr hgrow (fun k hk=>own_lt hown k hk)⟩
             case measure=>simp [intOf];omega
   · have hlt':¬ (k:Int) < (z:Int):=by omega
     obtain rfl:k=z:=by omega
     have Hr:=hid (HY.out (fun j hj=>Hall.out j hj))
     have HM:=hid (endsL_max r b (k:=k) (by omega))
     have hi:IntsV wr _ (endsL r b k):=intsV_own (by rw [endsL_len];exact Hown.out) (fun x hx=>by
       obtain ⟨j,hj,rfl⟩:=List.mem_map.1 hx
       have:=HN.out j (Hall.out j (List.mem_range.1 hj))
       exact I64.of (by omega) (by omega)) (by rw [endsL_len];omega)
     have C:=hid (Max_any wr _ _ hi (by rw [endsL_len];omega))
     rw [endsL_len] at C
     clear hi Hown
     go_wp2_with fail
     refine C.out.mono ?_
     rintro e w2 ⟨rfl,hx2⟩
     rw [HM.out]
     generalize maxTo (overA r b) (k - 1)=mm at *
     go_wp2_with fail
     go_ret2
     exact retInt2_of Hr.out (hal.out.tr (hx.tr hx2))
theorem Over_any (w:World) (pv bv:Value) (r:Request) (b:List Bite) (hv:PiecesV w pv r.Pieces) (hb:BitesV w bv b) :
  Calls Tryz.prog 137 #[.agg #[.int .i64 r.Queue,.int .i64 r.From,.int .i64 r.Until,.int .i64 r.Kind,pv],bv] w (RetInt2 w (overR r b)):=by
 by_cases hr:ReqOk r
 ·by_cases h1:1≤b.length
  ·exact Over_ok w pv bv r b hr h1 hv hb
  ·have F:=hid (fun (W:World) (h:Ext w W)=>Form_any W pv r (hv.mono h))
   rw [formR_ok hr] at F
   have Hr:=hid (overR_no (r:=r) (b:=b) (fun h=>h1 h.2.1))
   obtain ⟨pa,pc,rfl,hpc,_,hpl⟩:=hv.form
   obtain ⟨ba,bc,rfl,hbc,_,hbl⟩:=hb.form
   have h0:b.length=0:=by omega
   rw [h0]
   clear hv hb hr h1 h0
   generalize r.Pieces.length=n at *
   go_enter Tryz.func137,Tryz.ntmps137
   go_wp2_with fail
   refine (F.out _ ((Ext.rf w).al _)).mono ?_
   rintro e w1 ⟨rfl,hx1⟩
   go_wp2_with fail
   go_ret2
   exact retInt2_of Hr.out (((Ext.rf w).al _).tr hx1)
 ·have F:=hid (fun (W:World) (h:Ext w W)=>Form_any W pv r (hv.mono h))
  obtain ⟨fe,fb,hf,hne⟩:=formR_bad hr
  rw [hf] at F
  have Hr:=hid (overR_no (r:=r) (b:=b) (fun h=>hr h.1))
  have hne':=neT hne
  obtain ⟨pa,pc,rfl,hpc,_,hpl⟩:=hv.form
  obtain ⟨ba,bc,rfl,hbc,_,hbl⟩:=hb.form
  clear hv hb hf hr hne
  generalize r.Pieces.length=n at *
  generalize b.length=z at *
  go_enter Tryz.func137,Tryz.ntmps137
  go_wp2_with fail
  refine (F.out _ ((Ext.rf w).al _)).mono ?_
  rintro e w1 ⟨rfl,hx1⟩
  go_wp2_with fail
  go_ret2
  exact retInt2_of Hr.out (((Ext.rf w).al _).tr hx1)
theorem bites_at {w:World} {v:Value} {l:List Bite} (hv:BitesV w v l):∃ a cap,v=.slice a l.length cap∧l.length≤cap∧cap≤9223372036854775807∧l.length≤17592186044416 ∧
  (1≤l.length→∃ b off,a=some ⟨b,off,none⟩∧b < w.heap.size∧∀ k x,l[k]?=some x→EBite w b (off+k*2) x):=by
 rcases hv with ⟨rfl,a,cap,rfl,h⟩ | ⟨b,off,cap,rfl,h1,h2,h3,h4,h5⟩
 ·exact ⟨a,cap,rfl,by simp,h,by simp,fun h=>by simp at h⟩
 ·exact ⟨_,cap,rfl,h1,h2,h3,fun _=>⟨b,off,rfl,h4,h5⟩⟩
theorem Meets_ok (w:World) (pv bv:Value) (r:Request) (b:List Bite) (hr:ReqOk r) (hv:PiecesV w pv r.Pieces) (hb:BitesV w bv b) :
  Calls Tryz.prog 163 #[.agg #[.int .i64 r.Queue,.int .i64 r.From,.int .i64 r.Until,.int .i64 r.Kind,pv],bv] w fun e w'=>e=.returned (.bool (meetsR r b))∧Ext w w':=by
 have F:=hid (fun (W:World) (h:Ext w W)=>Form_any W pv r (hv.mono h))
 rw [formR_ok hr] at F
 obtain ⟨s1,s2,s3⟩:=hr.range.1
 obtain ⟨m1,m3⟩:=hr.many
 have HPk:=hid hr.range.2
 have HB:=hid (fun (k:Nat) (hk:k < b.length) (h:¬ StepOk r b k)=>meetsR_step (r:=r) hk h)
 have HY:=hid (fun (h:∀ k,k < b.length→StepOk r b k)=>meetsR_yes hr h)
 have hcnt:=hid (show CountOk r b↔if r.Kind=2 then b.length=1 else b.length=r.Pieces.length from Iff.rfl)
 obtain ⟨pb,po,pc,rfl,hpc,hpc9,hpb,hpE⟩:=pieces_at hv m1
 obtain ⟨ba,bc,rfl,hbc,hbc9,hbl,hbE⟩:=bites_at hb
 have HPE:=hid hpE
 have HBE:=hid hbE
 have hk1:=hr.kind.1
 have hk4:=hr.kind.2
 clear hv hb hpE hbE hr
 generalize hn:r.Pieces.length=n at *
 have Hn:=hid hn
 generalize hz:b.length=z at *
 have Hz:=hid hz
 have HL0:=hid (show lastP b 0=-1 from rfl)
 have HA0:=hid (show endA r b 0=-1 from rfl)
 clear hn hz
 go_enter Tryz.func163,Tryz.ntmps163
 go_wp2_with fail
 refine (F.out _ ((Ext.rf w).al _)).mono ?_
 rintro e w1 ⟨rfl,hx1⟩
 have hal:=hid (((Ext.rf w).al _).tr hx1)
 have Hbox:=hid (fun (W:World) (h:Ext w1 W)=>reqCells (hx1.tr h))
 have hBw:w.heap.size < w1.heap.size:=by have:=hx1.size;simp at this;omega
 clear hx1
 go_wp2_with fail
 go_loopw [7,8,21] (fun lv av c wr=>∃ k:Nat,c=.int .i64 k∧k≤z∧Hid (lv=.int .i64 (lastP b k))∧Hid (av=.int .i64 (endA r b k))∧Hid (∀ j,j < k→StepOk r b j)∧Ext w1 wr) (fun _ _ c _=>z - (intOf c).toNat)
 case atStart=>exact ⟨0,rfl,by omega,hid (by rw [HL0.out]),hid (by rw [HA0.out]),hid (fun j hj=>absurd hj (Nat.not_lt_zero _)),Ext.rf _⟩
 case round =>
  obtain ⟨k,rfl,hk,hlv,hav,Hall,hx⟩:=hrel
  obtain ⟨q,hq⟩:∃ q,lastP b k=q:=⟨_,rfl⟩
  obtain ⟨a,ha⟩:∃ a,endA r b k=a:=⟨_,rfl⟩
  have hlv':=hlv.out
  have hav':=hav.out
  rw [hq] at hlv'
  rw [ha] at hav'
  subst hlv' hav'
  have HLs:=hid hq
  have HAs:=hid ha
  clear hlv hav hq ha
  have hxw:=hal.out.tr hx
  have hBr:w.heap.size < wr.heap.size:=by have:=hx.size;omega
  have hpr:pb < wr.heap.size:=by omega
  obtain ⟨z0,z1,z2,z3,z4⟩:=Hbox.out wr hx
  by_cases hlt:k < z
  ·have hlt':(k:Int) < (z:Int):=by omega
   obtain ⟨bb,bo,rfl,hbb,hbE⟩:=HBE.out (by omega)
   obtain ⟨x,hxk⟩:=getA (f:=b) (k:=k) (by rw [Hz.out];exact hlt)
   obtain ⟨e1,e2⟩:=bite_at hxk
   obtain ⟨c1,c2,_,_⟩:=E2.mono w wr bb _ x hxw (hbE k x hxk)
   have hbr:bb < wr.heap.size:=by omega
   clear hbE
   by_cases t1:x.Piece≤q
   ·have t1d:=deT t1
    have Hr:=hid (HB.out k hlt (fun h=>by have:=h.up;rw [HLs.out,e1] at this;omega))
    clear HLs HAs hxk e1 e2
    go_wp2_with fail
    go_ret
    exact ⟨(congrArg (fun b=>Ending.returned (.bool b)) Hr.out).symm,hal.out.tr (hx.al _)⟩
   ·have t1d:=deF t1
    by_cases t2:(n:Int)≤x.Piece
    ·have t2d:=deT t2
     have Hr:=hid (HB.out k hlt (fun h=>by have:=h.is;rw [e1,Hn.out] at this;omega))
     clear HLs HAs hxk e1 e2
     go_wp2_with fail
     go_ret
     exact ⟨(congrArg (fun b=>Ending.returned (.bool b)) Hr.out).symm,hal.out.tr (hx.al _)⟩
    ·have t2d:=deF t2
     by_cases t3:x.At < r.From
     ·have t3d:=deT t3
      have Hr:=hid (HB.out k hlt (fun h=>by have:=h.from_;rw [e2] at this;omega))
      clear HLs HAs hxk e1 e2
      go_wp2_with fail
      go_ret
      exact ⟨(congrArg (fun b=>Ending.returned (.bool b)) Hr.out).symm,hal.out.tr (hx.al _)⟩
     ·have t3d:=deF t3
      by_cases t4:r.Until < x.At
      ·have t4d:=deT t4
       have Hr:=hid (HB.out k hlt (fun h=>by have:=h.until_;rw [e2] at this;omega))
       clear HLs HAs hxk e1 e2
       go_wp2_with fail
       go_ret
       exact ⟨(congrArg (fun b=>Ending.returned (.bool b)) Hr.out).symm,hal.out.tr (hx.al _)⟩
      ·have t4d:=deF t4
       have hq0:-1≤q:=by
        rw [← HLs.out]
        unfold lastP
        split
        ·exact Int.le_refl _
        ·have:=step_low Hall.out (k - 1) (by omega);omega
       obtain ⟨j,hpj⟩:∃ j:Nat,x.Piece=j:=⟨x.Piece.toNat,by omega⟩
       have hjn:j < n:=by omega
       obtain ⟨y,hyk⟩:=getA (f:=r.Pieces) (k:=j) (by rw [Hn.out];exact hjn)
       obtain ⟨ey,_⟩:=piece_at hyk
       obtain ⟨d1,_,_,_⟩:=E2.mono w wr pb _ y hxw (HPE.out j y hyk)
       have hpo:=HPk.out y (List.mem_of_getElem? hyk)
       obtain ⟨⟨l1,l2⟩,_⟩:=hpo
       rw [hpj] at c1
       by_cases t5:r.Until - x.At < y.Len
       ·have t5d:=deT t5
        have Hr:=hid (HB.out k hlt (fun h=>by have:=h.fits;rw [e1,e2,hpj,Int.toNat_natCast,ey] at this;omega))
        clear HLs HAs hxk e1 e2
        go_wp2_with fail
        go_ret
        exact ⟨(congrArg (fun b=>Ending.returned (.bool b)) Hr.out).symm,hal.out.tr (hx.al _)⟩
       ·have t5d:=deF t5
        by_cases hk0:k=0
        ·have haq:a=-1:=by rw [← HAs.out,hk0,HA0.out]
         subst haq
         have Hs:=hid (show ∀ j,j < k+1→StepOk r b j from fun j hj=>by
          by_cases e:j=k
          ·subst e
           exact ⟨by rw [HLs.out,e1];omega,by rw [e1,Hn.out];omega,by rw [e2];omega,by rw [e2];omega,by rw [e1,e2,hpj,Int.toNat_natCast,ey];omega,fun h=>by omega,fun h=>by omega⟩
          ·exact Hall.out j (by omega))
         have hl2:=hid (show lastP b (k+1)=(j:Int) from by unfold lastP;rw [if_neg (by omega),Nat.add_sub_cancel,e1,hpj])
         have ha2:=hid (show endA r b (k+1)=x.At+y.Len from by unfold endA;rw [if_neg (by omega),Nat.add_sub_cancel,e1,e2,hpj,Int.toNat_natCast,ey])
         clear HLs HAs hxk e1 e2 Hall hyk ey hk0
         go_wp2_with fail
         go_quiet (fail)
         go_wp2_with fail
         go_roundw
         case rel=>exact ⟨k+1,by go_num,by omega,hid (congrArg (Value.int .i64) hl2.out.symm),hid (congrArg (Value.int .i64) ha2.out.symm),Hs,(hx.al _).dn _⟩
         case measure=>simp [intOf];omega
        ·have ha0:1≤a:=by
          rw [← HAs.out]
          unfold endA
          rw [if_neg hk0]
          have h1:=Hall.out (k - 1) (by omega)
          have h2:=h1.from_
          have h3:=step_low Hall.out (k - 1) (by omega)
          obtain ⟨y',hy'⟩:=getA (f:=r.Pieces) (k:=(bP b (k - 1)).toNat) (by have:=h1.is;omega)
          have h4:=(HPk.out y' (List.mem_of_getElem? hy')).1.1
          rw [(piece_at hy').1]
          omega
         have a0d:=deF (show ¬ a < 0 by omega)
         have hapx:=Hall.out (k - 1) (by omega)
         by_cases k3:r.Kind=3
         ·have k3t:=eqT k3
          have k4f:=eqF (show ¬ r.Kind=4 by omega)
          by_cases t6:x.At < a
          ·have t6d:=deT t6
           have Hr:=hid (HB.out k hlt (fun h=>by have:=h.order (by omega) k3;rw [HAs.out,e2] at this;omega))
           clear HLs HAs hxk e1 e2
           go_wp2_with fail
           go_ret
           exact ⟨(congrArg (fun b=>Ending.returned (.bool b)) Hr.out).symm,hal.out.tr (hx.al _)⟩
          ·have t6d:=deF t6
           have Hs:=hid (show ∀ j,j < k+1→StepOk r b j from fun j hj=>by
            by_cases e:j=k
            ·subst e
             exact ⟨by rw [HLs.out,e1];omega,by rw [e1,Hn.out];omega,by rw [e2];omega,by rw [e2];omega,by rw [e1,e2,hpj,Int.toNat_natCast,ey];omega,fun _ _=>by rw [HAs.out,e2];omega,fun _ h4=>by omega⟩
            ·exact Hall.out j (by omega))
           have hl2:=hid (show lastP b (k+1)=(j:Int) from by unfold lastP;rw [if_neg (by omega),Nat.add_sub_cancel,e1,hpj])
           have ha2:=hid (show endA r b (k+1)=x.At+y.Len from by unfold endA;rw [if_neg (by omega),Nat.add_sub_cancel,e1,e2,hpj,Int.toNat_natCast,ey])
           clear HLs HAs hxk e1 e2 Hall hyk ey hk0 k3
           go_wp2_with fail
           go_quiet (fail)
           go_wp2_with fail
           go_roundw
           case rel=>exact ⟨k+1,by go_num,by omega,hid (congrArg (Value.int .i64) hl2.out.symm),hid (congrArg (Value.int .i64) ha2.out.symm),Hs,(hx.al _).dn _⟩
           case measure=>simp [intOf];omega
         ·have k3f:=eqF k3
          by_cases k4:r.Kind=4
          ·have k4t:=eqT k4
           by_cases t7:x.At=a
           ·have t7d:=neF t7
            have Hs:=hid (show ∀ j,j < k+1→StepOk r b j from fun j hj=>by
             by_cases e:j=k
             ·subst e
              exact ⟨by rw [HLs.out,e1];omega,by rw [e1,Hn.out];omega,by rw [e2];omega,by rw [e2];omega,by rw [e1,e2,hpj,Int.toNat_natCast,ey];omega,fun _ h3=>by omega,fun _ _=>by rw [HAs.out,e2];exact t7⟩
             ·exact Hall.out j (by omega))
            have hl2:=hid (show lastP b (k+1)=(j:Int) from by unfold lastP;rw [if_neg (by omega),Nat.add_sub_cancel,e1,hpj])
            have ha2:=hid (show endA r b (k+1)=x.At+y.Len from by unfold endA;rw [if_neg (by omega),Nat.add_sub_cancel,e1,e2,hpj,Int.toNat_natCast,ey])
            clear HLs HAs hxk e1 e2 Hall hyk ey hk0 k4 t7
            go_wp2_with fail
            go_quiet (fail)
            go_wp2_with fail
            go_roundw
            case rel=>exact ⟨k+1,by go_num,by omega,hid (congrArg (Value.int .i64) hl2.out.symm),hid (congrArg (Value.int .i64) ha2.out.symm),Hs,(hx.al _).dn _⟩
            case measure=>simp [intOf];omega
           ·have t7d:=neT t7
            have Hr:=hid (HB.out k hlt (fun h=>by have:=h.tight (by omega) k4;rw [HAs.out,e2] at this;exact t7 this))
            clear HLs HAs hxk e1 e2
            go_wp2_with fail
            go_ret
            exact ⟨(congrArg (fun b=>Ending.returned (.bool b)) Hr.out).symm,hal.out.tr (hx.al _)⟩
          ·have k4f:=eqF k4
           have Hs:=hid (show ∀ j,j < k+1→StepOk r b j from fun j hj=>by
            by_cases e:j=k
            ·subst e
             exact ⟨by rw [HLs.out,e1];omega,by rw [e1,Hn.out];omega,by rw [e2];omega,by rw [e2];omega,by rw [e1,e2,hpj,Int.toNat_natCast,ey];omega,fun _ h3=>absurd h3 k3,fun _ h4=>absurd h4 k4⟩
            ·exact Hall.out j (by omega))
           have hl2:=hid (show lastP b (k+1)=(j:Int) from by unfold lastP;rw [if_neg (by omega),Nat.add_sub_cancel,e1,hpj])
           have ha2:=hid (show endA r b (k+1)=x.At+y.Len from by unfold endA;rw [if_neg (by omega),Nat.add_sub_cancel,e1,e2,hpj,Int.toNat_natCast,ey])
           clear HLs HAs hxk e1 e2 Hall hyk ey hk0
           go_wp2_with fail
           go_quiet (fail)
           go_wp2_with fail
           go_roundw
           case rel=>exact ⟨k+1,by go_num,by omega,hid (congrArg (Value.int .i64) hl2.out.symm),hid (congrArg (Value.int .i64) ha2.out.symm),Hs,(hx.al _).dn _⟩
           case measure=>simp [intOf];omega
  ·have hlt':¬ (k:Int) < (z:Int):=by omega
   obtain rfl:k=z:=by omega
   have HR:=hid (HY.out (fun j hj=>Hall.out j hj))
   by_cases k2:r.Kind=2
   ·have k2t:=eqT k2
    by_cases hz1:(k:Int)=1
    ·have hzt:=eqT hz1
     have Hr:=hid (show meetsR r b=true from by rw [HR.out];exact decide_eq_true (hcnt.out.2 (by rw [if_pos k2];omega)))
     clear HLs HAs Hall k2 hz1
     go_wp2_with fail
     go_ret
     exact ⟨(congrArg (fun b=>Ending.returned (.bool b)) Hr.out).symm,hal.out.tr hx⟩
    ·have hzt:=eqF hz1
     have Hr:=hid (show meetsR r b=false from by rw [HR.out];exact decide_eq_false (fun h=>by have:=hcnt.out.1 h;rw [if_pos k2] at this;omega))
     clear HLs HAs Hall k2 hz1
     go_wp2_with fail
     go_ret
     exact ⟨(congrArg (fun b=>Ending.returned (.bool b)) Hr.out).symm,hal.out.tr hx⟩
   ·have k2f:=eqF k2
    by_cases hz1:(k:Int)=(n:Int)
    ·have hzt:=eqT hz1
     have Hr:=hid (show meetsR r b=true from by rw [HR.out];exact decide_eq_true (hcnt.out.2 (by rw [if_neg k2];omega)))
     clear HLs HAs Hall k2 hz1
     go_wp2_with fail
     go_ret
     exact ⟨(congrArg (fun b=>Ending.returned (.bool b)) Hr.out).symm,hal.out.tr hx⟩
    ·have hzt:=eqF hz1
     have Hr:=hid (show meetsR r b=false from by rw [HR.out];exact decide_eq_false (fun h=>by have:=hcnt.out.1 h;rw [if_neg k2] at this;omega))
     clear HLs HAs Hall k2 hz1
     go_wp2_with fail
     go_ret
     exact ⟨(congrArg (fun b=>Ending.returned (.bool b)) Hr.out).symm,hal.out.tr hx⟩
theorem Meets_any (w:World) (pv bv:Value) (r:Request) (b:List Bite) (hv:PiecesV w pv r.Pieces) (hb:BitesV w bv b) :
  Calls Tryz.prog 163 #[.agg #[.int .i64 r.Queue,.int .i64 r.From,.int .i64 r.Until,.int .i64 r.Kind,pv],bv] w fun e w'=>e=.returned (.bool (meetsR r b))∧Ext w w':=by
 by_cases hr:ReqOk r
 ·exact Meets_ok w pv bv r b hr hv hb
 ·have F:=hid (fun (W:World) (h:Ext w W)=>Form_any W pv r (hv.mono h))
  obtain ⟨fe,fb,hf,hne⟩:=formR_bad hr
  rw [hf] at F
  rw [meetsR_form hr]
  have hne':=neT hne
  obtain ⟨pa,pc,rfl,hpc,_,hpl⟩:=hv.form
  obtain ⟨ba,bc,rfl,hbc,_,hbl⟩:=hb.form
  clear hv hb hf hr hne
  generalize r.Pieces.length=n at *
  generalize b.length=z at *
  go_enter Tryz.func163,Tryz.ntmps163
  go_wp2_with fail
  refine (F.out _ ((Ext.rf w).al _)).mono ?_
  rintro e w1 ⟨rfl,hx1⟩
  go_wp2_with fail
  go_ret
  exact ⟨rfl,((Ext.rf w).al _).tr hx1⟩
end Go.Proofs.YtdcndkojmflhnaaGreat
