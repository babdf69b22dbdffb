/- Runs, what memory says, drawn regions; each theorem names its own conditions. -/
import Derived.WalkKit
import Derived.Deep.Draws
import Derived.WalkSmall
import Derived.Deep.Quiet
import Derived.StillTail
import Derived.Tactics
/- Plain mathematics of runs: what runs say at each time, the one way to say it (fold), and what the Go text's loops come to. No program in sight. -/
set_option linter.unusedVariables false
set_option maxRecDepth 100000
set_option maxHeartbeats 8000000
set_option linter.unusedSimpArgs false
set_option linter.unusedVariables false
namespace Go.Proofs.YtdcndkojmflhnaaGreat
open Go.RowKit
open List renaming getElem_toArray→zA,getElem_cons_zero→zB,getElem_cons_succ→zC,setIfInBounds_toArray→zD,set_cons_zero→zE,set_cons_succ→zF
structure Run where
 At:Int
 N:Int
deriving DecidableEq
instance:Inhabited Run:=⟨⟨0,0⟩⟩
def foldTo (x:Nat→Int):Nat→List Run
 | 0=>[]
 | t+1=>foldTo x t++(if t=0∨x (t - 1)≠x t then [⟨(t:Int),x t⟩] else [])
@[irreducible] def fold (x:Nat→Int):List Run:=foldTo x 48
def sp:List Run→Nat→Int
 | [],_=>0
 | [x],_=>x.N
 | x::y::l,t=>if y.At≤(t:Int) then sp (y::l) t else x.N
def ShapeTail:Run→List Run→Prop
 | _,[]=>True
 | x,y::l=>x.At < y.At∧y.At < 48∧x.N≠y.N∧ShapeTail y l
def Shape:List Run→Prop
 | []=>False
 | x::l=>x.At=0∧ShapeTail x l
def NumOk (n:Int):Prop:=-1048576≤n∧n≤1048576
instance (n:Int):Decidable (NumOk n):=inferInstanceAs (Decidable (_∧_))
def Fine (f:List Run):Prop:=Shape f∧∀ x∈f,NumOk x.N
theorem foldTo_congr {x y:Nat→Int}:∀ n,(∀ t,t < n→x t=y t)→foldTo x n=foldTo y n
 | 0,_=>rfl
 | n+1,h=>by
  simp only [foldTo]
  rw [foldTo_congr n (fun t ht=>h t (by omega)),h n (by omega)]
  by_cases h0:n=0
  ·subst h0;simp
  ·rw [h (n - 1) (by omega)]
theorem fold_congr {x y:Nat→Int} (h:∀ t,t < 48→x t=y t):fold x=fold y:=by unfold fold;exact foldTo_congr 48 h
theorem foldTo_flat {x:Nat→Int} (n:Nat) (hn:0 < n):∀ m,(∀ t,n≤t→t < n+m→x t=x (n - 1))→foldTo x (n+m)=foldTo x n
 | 0,_=>rfl
 | m+1,h=>by
  have e:n+(m+1)=(n+m)+1:=by omega
  rw [e]
  simp only [foldTo]
  rw [foldTo_flat n hn m (fun t h1 h2=>h t h1 (by omega))]
  have h1:=h (n+m) (by omega) (by omega)
  have h2:x (n+m - 1)=x (n - 1):=by
   by_cases hm:m=0
   ·subst hm;rfl
   ·exact h (n+m - 1) (by omega) (by omega)
  have hz:¬ (n+m=0):=by omega
  rw [if_neg (by rw [h1,h2];simp;omega),List.append_nil]
theorem foldTo_ne_nil {x:Nat→Int}:∀ n,0 < n→foldTo x n≠[]
 | 0,h=>absurd h (Nat.lt_irrefl _)
 | 1,_=>by simp [foldTo]
 | n+2,_=>by
  have:=foldTo_ne_nil (x:=x) (n+1) (by omega)
  rw [foldTo]
  simp [this]
theorem foldTo_le {x:Nat→Int}:∀ n,(foldTo x n).length≤n
 | 0=>by simp [foldTo]
 | n+1=>by
  have:=foldTo_le (x:=x) n
  simp only [foldTo,List.length_append]
  split <;> simp <;> omega
theorem foldTo_last {x:Nat→Int}:∀ n,0 < n→∃ r,(foldTo x n).getLast?=some r∧r.N=x (n - 1)∧0≤r.At∧r.At≤(n:Int) - 1
 | 0,h=>absurd h (Nat.lt_irrefl _)
 | 1,_=>⟨⟨0,x 0⟩,by simp [foldTo],rfl,by simp,by simp⟩
 | n+2,_=>by
  obtain ⟨r,h1,h2,h3,h4⟩:=foldTo_last (x:=x) (n+1) (by omega)
  rw [foldTo]
  by_cases h:n+1=0∨x (n+1 - 1)≠x (n+1)
  ·rw [if_pos h]
   exact ⟨⟨((n+1:Nat):Int),x (n+1)⟩,by simp,rfl,by simp only [];omega,by simp only [];omega⟩
  ·rw [if_neg h,List.append_nil]
   refine ⟨r,h1,?_,h3,by omega⟩
   rw [h2]
   have:¬ (x (n+1 - 1)≠x (n+1)):=fun h'=>h (.inr h')
   exact Classical.not_not.1 this
theorem sp_snoc:∀ (l:List Run) (r:Run) (t:Nat),l≠[]→(∀ x∈l,x.At≤r.At)→sp (l++[r]) t=if r.At≤(t:Int) then r.N else sp l t
 | [],_,_,h,_=>absurd rfl h
 | [x],r,t,_,_=>by simp [sp]
 | x::y::l,r,t,_,ha=>by
  have ih:=sp_snoc (y::l) r t (by simp) (fun z hz=>ha z (List.mem_cons_of_mem _ hz))
  simp only [List.cons_append] at ih ⊢
  rw [sp,ih]
  have hy:=ha y (by simp)
  by_cases h1:y.At≤(t:Int)
  ·simp only [if_pos h1,sp]
  ·simp only [if_neg h1]
   rw [if_neg (by omega)]
   simp [sp,h1]
theorem foldTo_at {x:Nat→Int}:∀ n r,r∈foldTo x n→0≤r.At∧r.At < (n:Int)
 | 0,_,h=>by simp [foldTo] at h
 | n+1,r,h=>by
  simp only [foldTo,List.mem_append] at h
  rcases h with h | h
  ·have:=foldTo_at n r h;omega
  ·split at h
   ·simp at h;subst h;simp only [];omega
   ·simp at h
theorem sp_foldTo {x:Nat→Int}:∀ n t,t < n→sp (foldTo x n) t=x t
 | 0,_,h=>absurd h (Nat.not_lt_zero _)
 | 1,t,h=>by
  have:t=0:=by omega
  subst this;simp [foldTo,sp]
 | n+2,t,h=>by
  have ih:=sp_foldTo (x:=x) (n+1)
  rw [foldTo]
  by_cases hc:n+1=0∨x (n+1 - 1)≠x (n+1)
  ·rw [if_pos hc,sp_snoc _ _ _ (foldTo_ne_nil _ (by omega)) (fun r hr=>by have:=foldTo_at _ _ hr;simp only [];omega)]
   simp only []
   by_cases ht:t=n+1
   ·subst ht;rw [if_pos (by omega)]
   ·rw [if_neg (by omega),ih t (by omega)]
  ·rw [if_neg hc,List.append_nil]
   by_cases ht:t=n+1
   ·subst ht
    have hx:x n=x (n+1):=by
     have h2:¬ (x (n+1 - 1)≠x (n+1)):=fun h'=>hc (.inr h')
     exact Classical.not_not.1 h2
    rw [← hx,← ih n (by omega)]
    obtain ⟨r,h1,h2,h3,h4⟩:=foldTo_last (x:=x) (n+1) (by omega)
    have key:∀ (l:List Run),(∀ z∈l,z.At≤(n:Int))→sp l (n+1)=sp l n:=by
     intro l
     induction l with
     | nil=>intro _;rfl
     | cons a l ihl =>
      intro hz
      cases l with
      | nil=>rfl
      | cons b l =>
       have hb:=hz b (by simp)
       rw [sp,sp,if_pos (by omega),if_pos hb,ihl (fun z hz'=>hz z (List.mem_cons_of_mem _ hz'))]
    exact key _ (fun z hz=>by have:=foldTo_at _ _ hz;omega)
   ·exact ih t (by omega)
theorem sp_fold {x:Nat→Int} {t:Nat} (h:t < 48):sp (fold x) t=x t:=by unfold fold;exact sp_foldTo 48 t h
theorem shapeTail_snoc:∀ (l:List Run) (x r:Run),ShapeTail x l→(∀ z,(x::l).getLast?=some z→z.At < r.At∧z.N≠r.N)→r.At < 48→ShapeTail x (l++[r])
 | [],x,r,_,h,hr=>by
  have:=h x (by simp)
  exact ⟨this.1,hr,this.2,trivial⟩
 | y::l,x,r,hs,h,hr=>by
  obtain ⟨h1,h2,h3,h4⟩:=hs
  refine ⟨h1,h2,h3,shapeTail_snoc l y r h4 (fun z hz=>h z (by simpa [List.getLast?_cons_cons] using hz)) hr⟩
theorem shape_foldTo {x:Nat→Int}:∀ n,0 < n→n≤48→Shape (foldTo x n)
 | 0,h,_=>absurd h (Nat.lt_irrefl _)
 | 1,_,_=>by simp [foldTo,Shape,ShapeTail]
 | n+2,_,h=>by
  have ih:=shape_foldTo (x:=x) (n+1) (by omega) (by omega)
  rw [foldTo]
  by_cases hc:n+1=0∨x (n+1 - 1)≠x (n+1)
  ·rw [if_pos hc]
   obtain ⟨r,h1,h2,h3,h4⟩:=foldTo_last (x:=x) (n+1) (by omega)
   cases hf:foldTo x (n+1) with
   | nil=>exact absurd hf (foldTo_ne_nil _ (by omega))
   | cons a l =>
    rw [hf] at ih h1
    refine ⟨ih.1,shapeTail_snoc l a _ ih.2 (fun z hz=>?_) (by simp only [];omega)⟩
    rw [h1] at hz
    obtain rfl:=Option.some.inj hz
    refine ⟨by simp only [];omega,?_⟩
    rw [h2]
    rcases hc with hc | hc
    ·omega
    ·exact hc
  ·rw [if_neg hc,List.append_nil];exact ih
theorem fold_eq (x:Nat→Int):fold x=foldTo x 48:=by unfold fold;rfl
theorem shape_of_eq {l:List Run} {x:Nat→Int} {n:Nat} (h:l=foldTo x n) (h1:0 < n) (h2:n≤48):Shape l:=by subst h;exact shape_foldTo n h1 h2
theorem shape_fold (x:Nat→Int):Shape (fold x):=shape_of_eq (fold_eq x) (by omega) (by omega)
theorem shapeTail_unique:∀ (l m:List Run) (x y:Run),ShapeTail x l→ShapeTail y m→x.At=y.At→0≤x.At→x.At < 48 →
  (∀ t:Nat,x.At≤(t:Int)→t < 48→sp (x::l) t=sp (y::m) t)→x::l=y::m
 | [],[],x,y,_,_,ha,h0,h48,h=>by
  have:=h x.At.toNat (by omega) (by omega)
  simp only [sp] at this
  cases x;cases y;simp_all
 | [],b::m,x,y,_,hm,ha,h0,h48,h=>by
  obtain ⟨h1,h2,h3,h4⟩:=hm
  have e1:=h x.At.toNat (by omega) (by omega)
  have e2:=h b.At.toNat (by omega) (by omega)
  simp only [sp] at e1 e2
  rw [if_neg (by omega)] at e1
  rw [if_pos (by omega)] at e2
  exfalso
  have:sp (b::m) b.At.toNat=b.N:=by
   cases m with
   | nil=>rfl
   | cons c m=>rw [sp,if_neg (by have:=h4.1;omega)]
  rw [this] at e2
  exact h3 (by rw [← e1,e2])
 | a::l,[],x,y,hl,_,ha,h0,h48,h=>by
  obtain ⟨h1,h2,h3,h4⟩:=hl
  have e1:=h x.At.toNat (by omega) (by omega)
  have e2:=h a.At.toNat (by omega) (by omega)
  simp only [sp] at e1 e2
  rw [if_neg (by omega)] at e1
  rw [if_pos (by omega)] at e2
  exfalso
  have:sp (a::l) a.At.toNat=a.N:=by
   cases l with
   | nil=>rfl
   | cons c m=>rw [sp,if_neg (by have:=h4.1;omega)]
  rw [this] at e2
  exact h3 (by rw [e1,e2])
 | a::l,b::m,x,y,hl,hm,ha,h0,h48,h=>by
  obtain ⟨h1,h2,h3,h4⟩:=hl
  obtain ⟨k1,k2,k3,k4⟩:=hm
  have hd:∀ (r:Run) (q:List Run),ShapeTail r q→sp (r::q) r.At.toNat=r.N∨r.At < 0:=by
   intro r q hq
   cases q with
   | nil=>exact .inl rfl
   | cons c q =>
    by_cases hr:r.At < 0
    ·exact .inr hr
    ·left;rw [sp,if_neg (by have:=hq.1;omega)]
  have e1:=h x.At.toNat (by omega) (by omega)
  simp only [sp] at e1
  rw [if_neg (by omega),if_neg (by omega)] at e1
  have hab:a.At=b.At:=by
   rcases Int.lt_trichotomy a.At b.At with hlt | heq | hgt
   ·exfalso
    have e2:=h a.At.toNat (by omega) (by omega)
    rw [sp,sp,if_pos (by omega),if_neg (by omega)] at e2
    rcases hd a l h4 with hh | hh
    ·rw [hh] at e2;exact h3 (by rw [e1,← e2])
    ·omega
   ·exact heq
   ·exfalso
    have e2:=h b.At.toNat (by omega) (by omega)
    rw [sp,sp,if_neg (by omega),if_pos (by omega)] at e2
    rcases hd b m k4 with hh | hh
    ·rw [hh] at e2;exact k3 (by rw [← e1,e2])
    ·omega
  have ih:=shapeTail_unique l m a b h4 k4 hab (by omega) h2 (fun t ht1 ht2=>by
   have:=h t (by omega) ht2
   rw [sp,sp,if_pos ht1,if_pos (by omega)] at this
   exact this)
  rw [ih]
  cases x;cases y;simp_all
theorem shape_unique {f g:List Run} (hf:Shape f) (hg:Shape g) (h:∀ t,t < 48→sp f t=sp g t):f=g:=by
 cases f with
 | nil=>exact hf.elim
 | cons x l =>
  cases g with
  | nil=>exact hg.elim
  | cons y m =>
   exact shapeTail_unique l m x y hf.2 hg.2 (by rw [hf.1,hg.1]) (by rw [hf.1];omega) (by rw [hf.1];omega) (fun t _ ht=>h t ht)
theorem fold_sp {f:List Run} (hf:Shape f):fold (sp f)=f:=shape_unique (shape_fold _) hf (fun t ht=>sp_fold ht)
def curAt (f:List Run) (i:Nat):Int:=(f.getD i default).At
def curN (f:List Run) (i:Nat):Int:=(f.getD i default).N
def nextAt (f:List Run) (i:Nat):Int:=if i+1 < f.length then curAt f (i+1) else 48
theorem shapeTail_idx:∀ (l:List Run) (x:Run),ShapeTail x l→0≤x.At→x.At < 48→∀ i,i < (x::l).length →
  x.At≤curAt (x::l) i∧curAt (x::l) i < nextAt (x::l) i∧nextAt (x::l) i≤48∧(∀ t:Nat,curAt (x::l) i≤(t:Int)→(t:Int) < nextAt (x::l) i→sp (x::l) t=curN (x::l) i)
 | [],x,_,h0,h48,i,hi=>by
  have:i=0:=by simp at hi;omega
  subst this
  simp [curAt,nextAt,curN,sp];omega
 | y::l,x,h,h0,h48,i,hi=>by
  obtain ⟨h1,h2,h3,h4⟩:=h
  have ih:=shapeTail_idx l y h4 (by omega) h2
  cases i with
  | zero =>
   have hn:nextAt (x::y::l) 0=y.At:=by simp [nextAt,curAt]
   have hc:curAt (x::y::l) 0=x.At:=by simp [curAt]
   refine ⟨by omega,by omega,by omega,fun t ht1 ht2=>?_⟩
   rw [hn] at ht2
   rw [sp,if_neg (by omega)];simp [curN]
  | succ i =>
   obtain ⟨k1,k2,k3,k4⟩:=ih i (by simpa using hi)
   have hn:nextAt (x::y::l) (i+1)=nextAt (y::l) i:=by simp [nextAt,curAt]
   have hc:curAt (x::y::l) (i+1)=curAt (y::l) i:=by simp [curAt]
   have hN:curN (x::y::l) (i+1)=curN (y::l) i:=by simp [curN]
   rw [hn,hc,hN]
   refine ⟨by omega,k2,k3,fun t ht1 ht2=>?_⟩
   rw [sp,if_pos (by omega)]
   exact k4 t ht1 ht2
theorem shape_idx {f:List Run} (h:Shape f) {i:Nat} (hi:i < f.length) :
  0≤curAt f i∧curAt f i < nextAt f i∧nextAt f i≤48∧(∀ t:Nat,curAt f i≤(t:Int)→(t:Int) < nextAt f i→sp f t=curN f i):=by
 cases f with
 | nil=>exact h.elim
 | cons x l =>
  have:=shapeTail_idx l x h.2 (by rw [h.1];omega) (by rw [h.1];omega) i hi
  rw [h.1] at this
  exact this
theorem shape_zero {f:List Run} (h:Shape f):0 < f.length∧curAt f 0=0:=by
 cases f with
 | nil=>exact h.elim
 | cons x l=>exact ⟨by simp,by simpa [curAt] using h.1⟩
theorem shape_len {f:List Run} (h:Shape f):f.length≤48:=by
 rw [← fold_sp h,fold_eq];exact foldTo_le 48
theorem nextAt_lt {f:List Run} {i:Nat} (h:i+1 < f.length):nextAt f i=curAt f (i+1):=by simp [nextAt,h]
theorem nextAt_end {f:List Run} {i:Nat} (h:¬ i+1 < f.length):nextAt f i=48:=by simp [nextAt,h]
def ZipAt (f g:List Run) (z:Nat→Int) (i k:Nat) (out:List Run):Prop :=
 (i < f.length∧k < g.length∧∃ T:Nat,(T:Int)=max (curAt f i) (curAt g k)∧(T:Int) < nextAt f i∧(T:Int) < nextAt g k∧out=foldTo z T) ∨
 ((f.length≤i∨g.length≤k)∧out=fold z)
theorem zipAt_start {f g:List Run} (hf:Shape f) (hg:Shape g) (z:Nat→Int):ZipAt f g z 0 0 []:=by
 have h1:=shape_zero hf
 have h2:=shape_zero hg
 have h3:=shape_idx hf h1.1
 have h4:=shape_idx hg h2.1
 exact .inl ⟨h1.1,h2.1,0,by omega,by omega,by omega,rfl⟩
def putRun (out:List Run) (x:Run):List Run :=
 match out.getLast? with
 | some r=>if r.N=x.N then out else out++[x]
 | none=>out++[x]
theorem putRun_ne (out:List Run) (x:Run):putRun out x≠[]:=by
 unfold putRun
 split
 ·rename_i r h
  split
  ·intro e;rw [e] at h;simp at h
  ·simp
 ·simp
theorem putRun_same {out:List Run} {x r:Run} (h:out.getLast?=some r) (he:r.N=x.N):putRun out x=out:=by
 unfold putRun;rw [h];simp only [he,if_true]
theorem putRun_new {out:List Run} {x r:Run} (h:out.getLast?=some r) (he:r.N≠x.N):putRun out x=out++[x]:=by
 unfold putRun;rw [h];simp only [if_neg he]
theorem putRun_nil (x:Run):putRun [] x=[x]:=rfl
theorem putRun_foldTo {z:Nat→Int} {T:Nat}:putRun (foldTo z T) ⟨(T:Int),z T⟩=foldTo z (T+1):=by
 unfold putRun
 by_cases h0:T=0
 ·subst h0;simp [foldTo]
 ·obtain ⟨r,h1,h2,_,_⟩:=foldTo_last (x:=z) T (by omega)
  rw [h1]
  simp only [foldTo]
  by_cases h:z (T - 1)=z T
  ·rw [if_pos (by rw [h2,h]),if_neg (by simp [h0,h]),List.append_nil]
  ·rw [if_neg (by rw [h2];exact h),if_pos (.inr h)]
theorem zipAt_step {f g:List Run} (hf:Shape f) (hg:Shape g) {of:Int→Int→Int} {i k:Nat} {out:List Run} (hi:i < f.length) (hk:k < g.length)
  (h:ZipAt f g (fun t=>of (sp f t) (sp g t)) i k out) :
  ZipAt f g (fun t=>of (sp f t) (sp g t)) (if nextAt f i≤nextAt g k then i+1 else i) (if nextAt g k≤nextAt f i then k+1 else k)
   (putRun out ⟨max (curAt f i) (curAt g k),of (curN f i) (curN g k)⟩):=by
 rcases h with ⟨_,_,T,hT,hTf,hTg,rfl⟩ | ⟨h,_⟩
 case inr=>omega
 obtain ⟨f1,f2,f3,f4⟩:=shape_idx hf hi
 obtain ⟨g1,g2,g3,g4⟩:=shape_idx hg hk
 have eT:(⟨max (curAt f i) (curAt g k),of (curN f i) (curN g k)⟩:Run)=⟨(T:Int),of (sp f T) (sp g T)⟩:=by
  rw [← hT,f4 T (by omega) hTf,g4 T (by omega) hTg]
 rw [eT,putRun_foldTo (z:=fun t=>of (sp f t) (sp g t))]
 have flat:∀ M:Nat,(M:Int)≤nextAt f i→(M:Int)≤nextAt g k→T < M→foldTo (fun t=>of (sp f t) (sp g t)) (T+1)=foldTo (fun t=>of (sp f t) (sp g t)) M:=by
  intro M h1 h2 h3
  have e:M=(T+1)+(M - (T+1)):=by omega
  rw [e,foldTo_flat (T+1) (by omega) (M - (T+1)) (fun t ht1 ht2=>?_)]
  simp only [Nat.add_sub_cancel]
  rw [f4 t (by omega) (by omega),g4 t (by omega) (by omega),f4 T (by omega) hTf,g4 T (by omega) hTg]
 by_cases hab:nextAt f i≤nextAt g k
 ·rw [if_pos hab]
  have hM:=flat (nextAt f i).toNat (by omega) (by omega) (by omega)
  rw [hM]
  by_cases hfe:i+1 < f.length
  ·obtain ⟨p1,p2,p3,p4⟩:=shape_idx hf hfe
   have hn:=nextAt_lt hfe
   by_cases hba:nextAt g k≤nextAt f i
   ·rw [if_pos hba]
    by_cases hge:k+1 < g.length
    ·obtain ⟨q1,q2,q3,q4⟩:=shape_idx hg hge
     have hm:=nextAt_lt hge
     exact .inl ⟨hfe,hge,(nextAt f i).toNat,by omega,by omega,by omega,rfl⟩
    ·exfalso;have:=nextAt_end hge;omega
   ·rw [if_neg hba]
    exact .inl ⟨hfe,hk,(nextAt f i).toNat,by omega,by omega,by omega,rfl⟩
  ·have hn:=nextAt_end hfe
   exact .inr ⟨.inl (by omega),by rw [hn,fold_eq];rfl⟩
 ·rw [if_neg hab,if_pos (by omega)]
  have hM:=flat (nextAt g k).toNat (by omega) (by omega) (by omega)
  rw [hM]
  by_cases hge:k+1 < g.length
  ·obtain ⟨q1,q2,q3,q4⟩:=shape_idx hg hge
   have hm:=nextAt_lt hge
   exact .inl ⟨hi,hge,(nextAt g k).toNat,by omega,by omega,by omega,rfl⟩
  ·exfalso;have:=nextAt_end hge;omega
theorem zipAt_len {f g:List Run} (hf:Shape f) {z:Nat→Int} {i k:Nat} {out:List Run} (h:ZipAt f g z i k out):out.length≤48:=by
 rcases h with ⟨h1,_,T,_,h3,_,rfl⟩ | ⟨_,rfl⟩
 ·have:=foldTo_le (x:=z) T
  have:=shape_idx hf h1
  omega
 ·rw [fold_eq];exact foldTo_le 48
theorem zipAt_done {f g:List Run} {z:Nat→Int} {i k:Nat} {out:List Run} (h:ZipAt f g z i k out) (hd:f.length≤i∨g.length≤k):out=fold z:=by
 rcases h with ⟨_,_,_⟩ | ⟨_,h⟩
 ·omega
 ·exact h
def hillT (a b:Nat) (n:Int) (t:Nat):Int:=if a≤t∧t < b then n else 0
def hillL (a b:Int) (n:Int):List Run :=
 let o1:=if 0 < a then putRun [] ⟨0,0⟩ else []
 let o2:=putRun o1 ⟨a,n⟩
 if b < 48 then putRun o2 ⟨b,0⟩ else o2
theorem hillL_eq {a b:Nat} {n:Int} (hab:a < b) (hb:b≤48):hillL a b n=fold (hillT a b n):=by
 have h1:(if (0:Int) < (a:Int) then putRun [] ⟨0,0⟩ else [])=foldTo (hillT a b n) a:=by
  by_cases h0:a=0
  ·subst h0;simp [foldTo]
  ·rw [if_pos (by omega)]
   have e:a=1+(a - 1):=by omega
   have hf:=foldTo_flat (x:=hillT a b n) 1 (by omega) (a - 1) (fun t ht1 ht2=>by
    unfold hillT;rw [if_neg (by omega),if_neg (by omega)])
   rw [← e] at hf
   rw [hf]
   have:hillT a b n 0=0:=by unfold hillT;rw [if_neg (by omega)]
   simp [foldTo,putRun,this]
 have h2:putRun (foldTo (hillT a b n) a) ⟨(a:Int),n⟩=foldTo (hillT a b n) b:=by
  have hz:hillT a b n a=n:=by unfold hillT;rw [if_pos (by omega)]
  have:=putRun_foldTo (z:=hillT a b n) (T:=a)
  rw [hz] at this
  rw [this]
  have e:b=(a+1)+(b - (a+1)):=by omega
  have hf:=foldTo_flat (x:=hillT a b n) (a+1) (by omega) (b - (a+1)) (fun t ht1 ht2=>by
   unfold hillT;rw [if_pos (by omega),if_pos (by omega)])
  rw [← e] at hf
  exact hf.symm
 unfold hillL
 simp only [h1,h2]
 by_cases h48:b=48
 ·subst h48;rw [if_neg (by omega),fold_eq]
 ·rw [if_pos (by omega)]
  have hz:hillT a b n b=0:=by unfold hillT;rw [if_neg (by omega)]
  have:=putRun_foldTo (z:=hillT a b n) (T:=b)
  rw [hz] at this
  rw [this,fold_eq]
  have e:48=(b+1)+(48 - (b+1)):=by omega
  have hf:=foldTo_flat (x:=hillT a b n) (b+1) (by omega) (48 - (b+1)) (fun t ht1 ht2=>by
   unfold hillT;rw [if_neg (by omega),if_neg (by omega)])
  rw [← e] at hf
  exact hf.symm
def lo (x:Nat→Int) (a:Nat):Nat→Int
 | 0=>x a
 | m+1=>min (lo x a m) (x (a+m+1))
def lowT (x:Nat→Int) (a b:Nat):Int:=lo x a (b - a - 1)
theorem lo_flat {x:Nat→Int} {a:Nat} (m:Nat):∀ d,(∀ t,a+m < t→t≤a+m+d→x t=x (a+m))→lo x a (m+d)=lo x a m
 | 0,_=>rfl
 | d+1,h=>by
  have ih:=lo_flat m d (fun t h1 h2=>h t h1 (by omega))
  show min (lo x a (m+d)) (x (a+(m+d)+1))=_
  have e:=h (a+(m+d)+1) (by omega) (by omega)
  rw [ih,e]
  cases m with
  | zero=>simp [lo]
  | succ m =>
        simp only [lo];have:a+(m+1)=a+m+1:=by omega
        rw [this];omega
def lowAt (f:List Run) (x:Nat→Int) (a b:Nat) (k:Nat):Int:=lo x a (max (a+1) (min b (if k < f.length then (curAt f k).toNat else 48)) - a - 1)
theorem lowAt_start {f:List Run} (hf:Shape f) (x:Nat→Int) (a b:Nat):lowAt f x a b 0=x a:=by
 have h:=shape_zero hf
 unfold lowAt
 rw [if_pos h.1,h.2]
 have:max (a+1) (min b (Int.toNat 0)) - a - 1=0:=by simp
 rw [this];rfl
theorem lowAt_end {f:List Run} (x:Nat→Int) {a b:Nat} (hab:a < b) (hb:b≤48):lowAt f x a b f.length=lowT x a b:=by
 unfold lowAt lowT
 rw [if_neg (by omega)]
 congr 1
 omega
theorem lowAt_step {f:List Run} (hf:Shape f) {a b k:Nat} (hab:a < b) (hb:b≤48) (hk:k < f.length) :
  lowAt f (sp f) a b (k+1)=if (a:Int) < curAt f k∧curAt f k < (b:Int) then min (lowAt f (sp f) a b k) (curN f k) else lowAt f (sp f) a b k:=by
 obtain ⟨h1,h2,h3,h4⟩:=shape_idx hf hk
 have hn:(if k+1 < f.length then (curAt f (k+1)).toNat else 48)=(nextAt f k).toNat:=by
  by_cases hk1:k+1 < f.length
  ·rw [if_pos hk1,nextAt_lt hk1]
  ·rw [if_neg hk1,nextAt_end hk1];rfl
 unfold lowAt
 rw [hn,if_pos hk]
 generalize he:curAt f k=e at *
 generalize he':nextAt f k=e' at *
 by_cases hc:(a:Int) < e∧e < (b:Int)
 ·rw [if_pos hc]
  have hm:max (a+1) (min b e.toNat) - a - 1=e.toNat - a - 1:=by omega
  rw [hm]
  have hN:sp f e.toNat=curN f k:=h4 e.toNat (by omega) (by omega)
  have step:lo (sp f) a (e.toNat - a - 1+1)=min (lo (sp f) a (e.toNat - a - 1)) (curN f k):=by
   show min _ (sp f (a+(e.toNat - a - 1)+1))=_
   rw [show a+(e.toNat - a - 1)+1=e.toNat by omega,hN]
  rw [← step]
  have hd:max (a+1) (min b e'.toNat) - a - 1=(e.toNat - a - 1+1)+(min b e'.toNat - 1 - e.toNat):=by omega
  rw [hd]
  exact lo_flat _ _ (fun t ht1 ht2=>by
   rw [h4 t (by omega) (by omega),show a+(e.toNat - a - 1+1)=e.toNat by omega,hN])
 ·rw [if_neg hc]
  by_cases hge:(b:Int)≤e
  ·congr 1;omega
  ·have hle:e≤(a:Int):=by omega
   have hm:max (a+1) (min b e.toNat) - a - 1=0:=by omega
   rw [hm]
   by_cases hle':e'≤(a:Int)
   ·have:max (a+1) (min b e'.toNat) - a - 1=0:=by omega
    rw [this]
   ·have hd:max (a+1) (min b e'.toNat) - a - 1=0+(min b e'.toNat - a - 1):=by omega
    rw [hd]
    exact lo_flat 0 _ (fun t ht1 ht2=>by
     rw [h4 t (by omega) (by omega),h4 (a+0) (by omega) (by omega)])
theorem lo_le {x:Nat→Int} {a:Nat}:∀ m i,i≤m→lo x a m≤x (a+i)
 | 0,i,h=>by
         have:i=0:=by omega
         subst this;exact Int.le_refl _
 | m+1,i,h=>by
  simp only [lo]
  by_cases hi:i=m+1
  ·subst hi;rw [show a+(m+1)=a+m+1 by omega];omega
  ·have:=lo_le (x:=x) (a:=a) m i (by omega);omega
theorem lo_mem {x:Nat→Int} {a:Nat}:∀ m,∃ i,i≤m∧lo x a m=x (a+i)
 | 0=>⟨0,Nat.le_refl _,rfl⟩
 | m+1=>by
  obtain ⟨i,h1,h2⟩:=lo_mem (x:=x) (a:=a) m
  simp only [lo]
  by_cases h:lo x a m≤x (a+m+1)
  ·exact ⟨i,by omega,by rw [← h2];omega⟩
  ·exact ⟨m+1,Nat.le_refl _,by rw [show a+(m+1)=a+m+1 by omega];omega⟩
theorem lowT_le {x:Nat→Int} {a b t:Nat} (h1:a≤t) (h2:t < b):lowT x a b≤x t:=by
 have:=lo_le (x:=x) (a:=a) (b - a - 1) (t - a) (by omega)
 rwa [show a+(t - a)=t by omega] at this
theorem lowT_mem {x:Nat→Int} {a b:Nat} (h:a < b):∃ t,a≤t∧t < b∧lowT x a b=x t:=by
 obtain ⟨i,h1,h2⟩:=lo_mem (x:=x) (a:=a) (b - a - 1)
 exact ⟨a+i,by omega,by omega,h2⟩
theorem le_lowT {x:Nat→Int} {a b:Nat} {n:Int} (h:a < b):n≤lowT x a b↔∀ t,a≤t→t < b→n≤x t:=by
 constructor
 ·intro hn t h1 h2;have:=lowT_le (x:=x) h1 h2;omega
 ·intro hn;obtain ⟨t,h1,h2,h3⟩:=lowT_mem (x:=x) h;rw [h3];exact hn t h1 h2
def HasT (x:Nat→Int) (t until_ size:Nat) (n:Int):Prop:=t+size≤until_∧∀ i,t≤i→i < t+size→n≤x i
instance (x:Nat→Int) (t until_ size:Nat) (n:Int):Decidable (HasT x t until_ size n) :=
 decidable_of_iff (t+size≤until_∧∀ j,j < size→n≤x (t+j))
  ⟨fun ⟨h1,h2⟩=>⟨h1,fun i hi1 hi2=>by have:=h2 (i - t) (by omega);rwa [show t+(i - t)=i by omega] at this⟩,fun ⟨h1,h2⟩=>⟨h1,fun j hj=>h2 _ (by omega) (by omega)⟩⟩
def firstGo (x:Nat→Int) (until_ size:Nat) (n:Int):Nat→Nat→Option Nat
 | 0,_=>none
 | m+1,t=>if HasT x t until_ size n then some t else firstGo x until_ size n m (t+1)
def firstT (x:Nat→Int) (from_ until_ size:Nat) (n:Int):Option Nat:=firstGo x until_ size n (until_ - from_) from_
def IsFirst (x:Nat→Int) (from_ until_ size:Nat) (n:Int):Option Nat→Prop
 | some t=>from_≤t∧t < until_∧HasT x t until_ size n∧∀ s,from_≤s→s < t→¬ HasT x s until_ size n
 | none=>∀ s,from_≤s→s < until_→¬ HasT x s until_ size n
theorem firstGo_is {x:Nat→Int} {until_ size:Nat} {n:Int}:∀ m t,t+m=until_∨(m=0∧until_≤t)→IsFirst x t until_ size n (firstGo x until_ size n m t)
 | 0,t,h=>fun s h1 h2=>by omega
 | m+1,t,h=>by
  unfold firstGo
  by_cases hh:HasT x t until_ size n
  ·rw [if_pos hh];exact ⟨Nat.le_refl _,by omega,hh,fun s h1 h2=>by omega⟩
  ·rw [if_neg hh]
   have ih:=firstGo_is (x:=x) (until_:=until_) (size:=size) (n:=n) m (t+1) (by omega)
   cases hr:firstGo x until_ size n m (t+1) with
   | none =>
    rw [hr] at ih
    intro s h1 h2
    by_cases hs:s=t
    ·subst hs;exact hh
    ·exact ih s (by omega) h2
   | some q =>
    rw [hr] at ih
    obtain ⟨k1,k2,k3,k4⟩:=ih
    refine ⟨by omega,k2,k3,fun s h1 h2=>?_⟩
    by_cases hs:s=t
    ·subst hs;exact hh
    ·exact k4 s (by omega) h2
theorem firstT_is (x:Nat→Int) (from_ until_ size:Nat) (n:Int):IsFirst x from_ until_ size n (firstT x from_ until_ size n):=by
 unfold firstT
 exact firstGo_is _ _ (by omega)
theorem isFirst_unique {x:Nat→Int} {from_ until_ size:Nat} {n:Int} {a b:Option Nat} (ha:IsFirst x from_ until_ size n a) (hb:IsFirst x from_ until_ size n b):a=b:=by
 cases a with
 | none =>
  cases b with
  | none=>rfl
  | some q=>exact absurd hb.2.2.1 (ha q hb.1 hb.2.1)
 | some p =>
  cases b with
  | none=>exact absurd ha.2.2.1 (hb p ha.1 ha.2.1)
  | some q =>
   rcases Nat.lt_trichotomy p q with h | h | h
   ·exact absurd ha.2.2.1 (hb.2.2.2 p ha.1 h)
   ·rw [h]
   ·exact absurd hb.2.2.1 (ha.2.2.2 q hb.1 h)
theorem isFirst_eq {x:Nat→Int} {from_ until_ size:Nat} {n:Int} {r:Option Nat} (h:IsFirst x from_ until_ size n r):r=firstT x from_ until_ size n:=isFirst_unique h (firstT_is ..)
theorem hasT_congr {x y:Nat→Int} {t until_ size:Nat} {n:Int} (h:∀ i,i < until_→x i=y i):HasT x t until_ size n↔HasT y t until_ size n:=by
 constructor
 ·rintro ⟨h1,h2⟩
  refine ⟨h1,fun i k1 k2=>?_⟩
  rw [← h i (by omega)];exact h2 i k1 k2
 ·rintro ⟨h1,h2⟩
  refine ⟨h1,fun i k1 k2=>?_⟩
  rw [h i (by omega)];exact h2 i k1 k2
theorem firstT_congr {x y:Nat→Int} {from_ until_ size:Nat} {n:Int} (h:∀ i,i < until_→x i=y i):firstT x from_ until_ size n=firstT y from_ until_ size n:=by
 refine isFirst_eq ?_
 have:=firstT_is x from_ until_ size n
 cases hr:firstT x from_ until_ size n with
 | none=>rw [hr] at this;exact fun s h1 h2 hh=>this s h1 h2 ((hasT_congr h).2 hh)
 | some t =>
  rw [hr] at this
  obtain ⟨h1,h2,h3,h4⟩:=this
  exact ⟨h1,h2,(hasT_congr h).1 h3,fun s k1 k2 hh=>h4 s k1 k2 ((hasT_congr h).2 hh)⟩
def SeekAt (f:List Run) (from_ until_ size:Nat) (n:Int) (k:Nat) (at_:Nat):Prop :=
 ∃ E:Nat,E=min until_ (if k < f.length then (curAt f k).toNat else 48)∧from_≤at_∧at_≤max from_ E∧(∀ i,at_≤i→i < E→n≤sp f i)∧(∀ t,from_≤t→t < at_→¬ HasT (sp f) t until_ size n)∧E < at_+size
theorem seekAt_start {f:List Run} (hf:Shape f) {from_ until_ size:Nat} {n:Int} (hs:0 < size):SeekAt f from_ until_ size n 0 from_:=by
 have h:=shape_zero hf
 refine ⟨0,?_,Nat.le_refl _,by omega,fun i _ h=>by omega,fun t _ _=>by omega,by omega⟩
 rw [if_pos h.1,h.2];simp
def seekEnd (f:List Run) (until_:Nat) (k:Nat):Int:=min (until_:Int) (nextAt f k)
theorem seek_next {f:List Run} (k:Nat):(if k+1 < f.length then (curAt f (k+1)).toNat else 48)=(nextAt f k).toNat:=by
 by_cases hk1:k+1 < f.length
 ·rw [if_pos hk1,nextAt_lt hk1]
 ·rw [if_neg hk1,nextAt_end hk1];rfl
theorem seekAt_pass {f:List Run} (hf:Shape f) {from_ until_ size:Nat} {n:Int} {k at_:Nat} (hs:0 < size) (hk:k < f.length) (h:SeekAt f from_ until_ size n k at_) (he:seekEnd f until_ k≤(at_:Int)) :
  SeekAt f from_ until_ size n (k+1) at_:=by
 obtain ⟨h1,h2,h3,h4⟩:=shape_idx hf hk
 obtain ⟨E,hE,a1,a2,a3,a4,a5⟩:=h
 rw [if_pos hk] at hE
 unfold seekEnd at he
 exact ⟨min until_ (nextAt f k).toNat,by rw [seek_next],a1,by omega,fun i k1 k2=>by omega,a4,by omega⟩
theorem seekAt_low {f:List Run} (hf:Shape f) {from_ until_ size:Nat} {n:Int} {k at_:Nat} (hs:0 < size) (hk:k < f.length) (h:SeekAt f from_ until_ size n k at_) (he:(at_:Int) < seekEnd f until_ k)
  (hn:curN f k < n):SeekAt f from_ until_ size n (k+1) (seekEnd f until_ k).toNat:=by
 obtain ⟨h1,h2,h3,h4⟩:=shape_idx hf hk
 obtain ⟨E,hE,a1,a2,a3,a4,a5⟩:=h
 rw [if_pos hk] at hE
 unfold seekEnd at *
 refine ⟨min until_ (nextAt f k).toNat,by rw [seek_next],by omega,by omega,fun i k1 k2=>by omega,fun t k1 k2=>?_,by omega⟩
 by_cases ht:t < at_
 ·exact a4 t k1 ht
 ·rintro ⟨b1,b2⟩
  by_cases hx:t < (curAt f k).toNat
  ·have:=b2 (curAt f k).toNat (by omega) (by omega)
   rw [h4 _ (by omega) (by omega)] at this;omega
  ·have:=b2 t (by omega) (by omega)
   rw [h4 _ (by omega) (by omega)] at this;omega
theorem seekAt_high {f:List Run} (hf:Shape f) {from_ until_ size:Nat} {n:Int} {k at_:Nat} (hk:k < f.length) (h:SeekAt f from_ until_ size n k at_) (he:(at_:Int) < seekEnd f until_ k)
  (hn:n≤curN f k) (hsz:seekEnd f until_ k - (at_:Int) < (size:Int)):SeekAt f from_ until_ size n (k+1) at_:=by
 obtain ⟨h1,h2,h3,h4⟩:=shape_idx hf hk
 obtain ⟨E,hE,a1,a2,a3,a4,a5⟩:=h
 rw [if_pos hk] at hE
 unfold seekEnd at *
 refine ⟨min until_ (nextAt f k).toNat,by rw [seek_next],a1,by omega,fun i k1 k2=>?_,a4,by omega⟩
 by_cases hi:i < E
 ·exact a3 i k1 hi
 ·rw [h4 i (by omega) (by omega)];exact hn
theorem seekAt_found {f:List Run} (hf:Shape f) {from_ until_ size:Nat} {n:Int} {k at_:Nat} (hs:0 < size) (hk:k < f.length) (h:SeekAt f from_ until_ size n k at_) (he:(at_:Int) < seekEnd f until_ k)
  (hn:n≤curN f k) (hsz:(size:Int)≤seekEnd f until_ k - (at_:Int)):firstT (sp f) from_ until_ size n=some at_:=by
 obtain ⟨h1,h2,h3,h4⟩:=shape_idx hf hk
 obtain ⟨E,hE,a1,a2,a3,a4,a5⟩:=h
 rw [if_pos hk] at hE
 unfold seekEnd at *
 have key:∀ i,at_≤i→i < at_+size→n≤sp f i:=fun i k1 k2=>by
  by_cases hi:i < E
  ·exact a3 i k1 hi
  ·rw [h4 i (by omega) (by omega)];exact hn
 have hI:IsFirst (sp f) from_ until_ size n (some at_):=⟨a1,by omega,⟨by omega,key⟩,a4⟩
 exact (isFirst_eq hI).symm
theorem seekAt_none {f:List Run} {from_ until_ size:Nat} {n:Int} {at_:Nat} (hu:until_≤48) (h:SeekAt f from_ until_ size n f.length at_):firstT (sp f) from_ until_ size n=none:=by
 obtain ⟨E,hE,a1,a2,a3,a4,a5⟩:=h
 rw [if_neg (by omega)] at hE
 refine (isFirst_eq (r:=none) fun s k1 k2 hh=>?_).symm
 by_cases hs:s < at_
 ·exact a4 s k1 hs hh
 ·have:=hh.1;omega
def okAt (f:List Run) (j:Nat):Prop:=curAt f j < 48∧NumOk (curN f j)∧(0 < j→curAt f (j - 1) < curAt f j∧curN f j≠curN f (j - 1))
instance (f:List Run) (j:Nat):Decidable (okAt f j):=inferInstanceAs (Decidable (_∧_∧(_→_)))
theorem shapeTail_of:∀ (l:List Run) (x:Run),(∀ j,j < l.length→curAt (x::l) (j+1) < 48∧curAt (x::l) j < curAt (x::l) (j+1)∧curN (x::l) (j+1)≠curN (x::l) j)→ShapeTail x l
 | [],_,_=>trivial
 | y::l,x,h=>by
  have h0:=h 0 (by simp)
  simp only [curAt,curN,List.getD_cons_zero,List.getD_cons_succ] at h0
  refine ⟨h0.2.1,h0.1,fun e=>h0.2.2 e.symm,shapeTail_of l y (fun j hj=>?_)⟩
  have:=h (j+1) (by simp;omega)
  simpa only [curAt,curN,List.getD_cons_succ] using this
theorem shapeTail_to:∀ (l:List Run) (x:Run),ShapeTail x l→∀ j,j < l.length→curAt (x::l) (j+1) < 48∧curAt (x::l) j < curAt (x::l) (j+1)∧curN (x::l) (j+1)≠curN (x::l) j
 | [],_,_,j,hj=>absurd hj (Nat.not_lt_zero _)
 | y::l,x,⟨h1,h2,h3,h4⟩,j,hj=>by
  cases j with
  | zero=>simp only [curAt,curN,List.getD_cons_zero,List.getD_cons_succ];exact ⟨h2,h1,fun e=>h3 e.symm⟩
  | succ j =>
   have:=shapeTail_to l y h4 j (by simpa using hj)
   simpa only [curAt,curN,List.getD_cons_succ] using this
theorem fine_iff {f:List Run}:Fine f↔0 < f.length∧curAt f 0=0∧∀ j,j < f.length→okAt f j:=by
 cases f with
 | nil=>simp [Fine,Shape]
 | cons x l =>
  have mem:(∀ y∈x::l,NumOk y.N)↔∀ j,j < (x::l).length→NumOk (curN (x::l) j):=by
   constructor
   ·intro h j hj
    have:curN (x::l) j=((x::l)[j]'hj).N:=by simp only [curN,List.getD];rw [List.getElem?_eq_getElem hj];rfl
    rw [this];exact h _ (List.getElem_mem _)
   ·intro h y hy
    obtain ⟨j,hj,rfl⟩:=List.mem_iff_getElem.1 hy
    have:=h j hj
    have e:curN (x::l) j=((x::l)[j]'hj).N:=by simp only [curN,List.getD];rw [List.getElem?_eq_getElem hj];rfl
    rwa [e] at this
  constructor
  ·rintro ⟨⟨h0,hs⟩,hn⟩
   have h0':curAt (x::l) 0=0:=by simpa [curAt] using h0
   refine ⟨by simp,h0',fun j hj=>⟨?_,mem.1 hn j hj,fun hj0=>?_⟩⟩
   ·cases j with
    | zero=>omega
    | succ j=>exact (shapeTail_to l x hs j (by simpa using hj)).1
   ·have:=shapeTail_to l x hs (j - 1) (by simp at hj;omega)
    rw [show j - 1+1=j by omega] at this
    exact this.2
  ·rintro ⟨_,h0,h⟩
   refine ⟨⟨by simpa [curAt] using h0,shapeTail_of l x (fun j hj=>?_)⟩,mem.2 fun j hj=>(h j hj).2.1⟩
   have:=h (j+1) (by simp;omega)
   have h3:=this.2.2 (by omega)
   rw [Nat.add_sub_cancel] at h3
   exact ⟨this.1,h3.1,h3.2⟩
instance (f:List Run):Decidable (Fine f):=decidable_of_iff _ fine_iff.symm
theorem fine_fold {x:Nat→Int} (h:∀ t,t < 48→NumOk (x t)):Fine (fold x):=by
 refine ⟨shape_fold x,fun r hr=>?_⟩
 obtain ⟨j,hj,rfl⟩:=List.mem_iff_getElem.1 hr
 obtain ⟨h1,h2,h3,h4⟩:=shape_idx (shape_fold x) hj
 have:=h4 (curAt (fold x) j).toNat (by omega) (by omega)
 rw [sp_fold (by omega)] at this
 have e:curN (fold x) j=((fold x)[j]'hj).N:=by simp only [curN,List.getD];rw [List.getElem?_eq_getElem hj];rfl
 rw [← e,← this];exact h _ (by omega)
theorem fold_fine {x:Nat→Int} (h:∀ r∈fold x,NumOk r.N):∀ t,t < 48→NumOk (x t):=by
 intro t ht
 have key:∀ (l:List Run),l≠[]→∃ r∈l,sp l t=r.N:=by
  intro l
  induction l with
  | nil=>intro h;exact absurd rfl h
  | cons a l ih =>
   intro _
   cases l with
   | nil=>exact ⟨a,by simp,rfl⟩
   | cons b l =>
    rw [sp]
    split
    ·obtain ⟨r,h1,h2⟩:=ih (by simp)
     exact ⟨r,List.mem_cons_of_mem _ h1,h2⟩
    ·exact ⟨a,by simp,rfl⟩
 obtain ⟨r,h1,h2⟩:=key (fold x) (by rw [fold_eq];exact foldTo_ne_nil 48 (by omega))
 rw [sp_fold ht] at h2
 rw [h2];exact h r h1
theorem fine_sp {f:List Run} (h:Fine f) {t:Nat} (ht:t < 48):NumOk (sp f t):=by
 have:=fold_fine (x:=sp f) (by rw [fold_sp h.1];exact h.2) t ht
 exact this
abbrev Ext (w w':World):Prop:=Below w.heap.size w w'
theorem Ext.rf (w:World):Ext w w:=Below.refl _ _
theorem Ext.tr {a b c:World} (h:Ext a b) (k:Ext b c):Ext a c:=h.trans (k.mono h.size)
theorem Ext.ce {w w':World} (h:Ext w w') {b o:Nat} (hb:b < w.heap.size):w'.cell? ⟨b,o,none⟩=w.cell? ⟨b,o,none⟩:=h.cell (p:=⟨b,o,none⟩) hb
theorem Ext.ce' {w w':World} (h:Ext w w') {b o:Nat} {v:Value} (hc:w.cell? ⟨b,o,none⟩=some v):w'.cell? ⟨b,o,none⟩=some v:=by
 rw [h.ce (World.block_lt_of_cell? w ⟨b,o,none⟩ hc)];exact hc
theorem hid {p:Prop} (h:p):Hid p:=h
theorem Ext.al {a w:World} (h:Ext a w) (o:Obj):Ext a (w.alloc o):=Below.alloc h h.size o
theorem Ext.dr {a w:World} (h:Ext a w):Ext a w.drew:=Below.drew h
theorem Ext.dn {a w:World} (h:Ext a w) (n:Nat):Ext a (w.drewN n):=h.trans ⟨rfl,rfl,rfl,Nat.le_refl _,fun _ _=>rfl⟩
theorem Ext.se {a w:World} (h:Ext a w) {b o:Nat} (hb:a.heap.size≤b) (v:Value):Ext a (w.setCell ⟨b,o,none⟩ v):=Below.setCell (p:=⟨b,o,none⟩) h hb v
theorem ownsRow_ext {w w':World} {base e sz n:Nat} {v:Value} {xs:List Value} (h:w.ownsRow base e sz v n xs) (hx:Ext w w'):w'.ownsRow base e sz v n xs:=by
 obtain ⟨h1,h2⟩:=h
 refine ⟨h1,?_⟩
 rcases h2 with h2 | ⟨g,cap,cur,hv,hb,hg,r⟩
 ·exact .inl h2
 ·exact .inr ⟨g,cap,cur,hv,hb,by rw [hx.block g (Array.getElem?_eq_some_iff.1 hg).1];exact hg,r⟩
theorem Ext.gr {a w w':World} (h:Ext a w) {v:Value} (hg:w.grownBy w' v.ownBlock) (hv:∀ k,v.ownBlock=some k→a.heap.size≤k):Ext a w':=Below.grown h hg h.size hv
theorem own_lt {w:World} {base e sz n:Nat} {v:Value} {xs:List Value} (h:w.ownsRow base e sz v n xs):∀ k,v.ownBlock=some k→base≤k:=fun k hk=>(h.lt k hk).1
theorem new2 (W:World) {B:Nat} (hB:B=W.heap.size) (a b:Value) (t:TypeId):∀ (j:Nat) u,[a,b][j]?=some u→(W.alloc (.cells #[a,b] t)).cell? ((⟨B,0,none⟩:Addr).add j)=some u:=by
 subst hB;exact cell_two_new W a b t
theorem one2 (k l:IntKind) (a b:Int):∀ u∈[Value.int k a,Value.int l b],u.oneCell'=true:=by simp [Value.oneCell']
theorem minw (a b:Int):(if b < a then b else a)=min a b:=by
 by_cases h:b < a
 ·rw [if_pos h];omega
 ·rw [if_neg h];omega
theorem maxw (a b:Int):(if a < b then b else a)=max a b:=by
 by_cases h:a < b
 ·rw [if_pos h];omega
 ·rw [if_neg h];omega
theorem eqF {a b:Int} (h:a≠b):(a == b)=false:=beq_eq_false_iff_ne.2 h
theorem eqT {a b:Int} (h:a=b):(a == b)=true:=beq_iff_eq.2 h
theorem neF {a b:Int} (h:a=b):(a != b)=false:=by rw [bne_eq_false_iff_eq];exact h
theorem neT {a b:Int} (h:a≠b):(a != b)=true:=bne_iff_ne.2 h
theorem deF {p:Prop} [Decidable p] (h:¬ p):decide p=false:=decide_eq_false h
theorem deT {p:Prop} [Decidable p] (h:p):decide p=true:=decide_eq_true h
theorem ret_int {a b:Int} (h:a=b):Ending.returned (.int .i64 a)=.returned (.int .i64 b):=by rw [h]
theorem ret_bool {a b:Bool} (h:a=b):Ending.returned (.bool a)=.returned (.bool b):=by rw [h]
def I64 (n:Int):Prop:=-9223372036854775808≤n∧n≤9223372036854775807
theorem I64.wf {n:Int} (h:I64 n):(Lit.int .i64 n).wf=true:=WalkArith.wf_i64 h
theorem I64.of_wf {n:Int} (h:(Lit.int .i64 n).wf=true):I64 n:=by
 simpa [I64,Lit.wf,IntKind.min,IntKind.max,IntKind.signed,IntKind.bits] using h
theorem I64.of {n:Int} (h1:-9223372036854775808≤n) (h2:n≤9223372036854775807):I64 n:=⟨h1,h2⟩
structure Queue where
 Name:ByteArray
 Parent:Int
 Cap:List Run
structure Piece where
 Len:Int
 N:Int
deriving DecidableEq
structure Bite where
 Piece:Int
 At:Int
deriving DecidableEq
structure Request where
 Queue:Int
 From:Int
 Until:Int
 Kind:Int
 Pieces:List Piece
structure Book where
 Id:Int
 Req:Request
 Bites:List Bite
structure State where
 Clock:Int
 Next:Int
 Tree:List Queue
 Books:List Book
instance:Inhabited Queue:=⟨⟨ByteArray.empty,0,[]⟩⟩
instance:Inhabited Piece:=⟨⟨0,0⟩⟩
instance:Inhabited Bite:=⟨⟨0,0⟩⟩
instance:Inhabited Request:=⟨⟨0,0,0,0,[]⟩⟩
instance:Inhabited Book:=⟨⟨0,default,[]⟩⟩
instance:Inhabited State:=⟨⟨0,0,[],[]⟩⟩
def SV {α:Type} (sz:Nat) (E:World→Nat→Nat→α→Prop) (w:World) (v:Value) (xs:List α):Prop :=
 (xs=[]∧∃ a cap,v=.slice a 0 cap∧cap≤9223372036854775807) ∨
 ∃ b off cap,v=.slice (some ⟨b,off,none⟩) xs.length cap∧xs.length≤cap∧cap≤9223372036854775807∧xs.length≤17592186044416∧b < w.heap.size∧∀ k x,xs[k]?=some x→E w b (off+k*sz) x
theorem SV.nil {α:Type} {sz:Nat} {E:World→Nat→Nat→α→Prop} {w:World}:SV sz E w (.slice none 0 0) []:=.inl ⟨rfl,none,0,rfl,by omega⟩
theorem SV.mono {α:Type} {sz:Nat} {E:World→Nat→Nat→α→Prop} (hE:∀ (w w':World) b o x,Ext w w'→E w b o x→E w' b o x) {w w':World} {v:Value} {xs:List α} (h:SV sz E w v xs) (hx:Ext w w'):SV sz E w' v xs:=by
 rcases h with h | ⟨b,off,cap,rfl,h1,h2,hl,h3,h4⟩
 ·exact .inl h
 ·exact .inr ⟨b,off,cap,rfl,h1,h2,hl,Nat.lt_of_lt_of_le h3 hx.size,fun k x hk=>hE w w' _ _ _ hx (h4 k x hk)⟩
theorem SV.form {α:Type} {sz:Nat} {E:World→Nat→Nat→α→Prop} {w:World} {v:Value} {xs:List α} (h:SV sz E w v xs) :
  ∃ a cap,v=.slice a xs.length cap∧xs.length≤cap∧cap≤9223372036854775807∧xs.length≤17592186044416:=by
 rcases h with ⟨rfl,a,cap,rfl,h1⟩ | ⟨b,off,cap,rfl,h1,h2,h3,_⟩
 ·exact ⟨a,cap,rfl,by simp,h1,by simp⟩
 ·exact ⟨_,cap,rfl,h1,h2,h3⟩
def E2 {α:Type} (f g:α→Int) (w:World) (b o:Nat) (x:α):Prop :=
 w.cell? ⟨b,o,none⟩=some (.int .i64 (f x))∧w.cell? ⟨b,o+1,none⟩=some (.int .i64 (g x))∧I64 (f x)∧I64 (g x)
theorem E2.mono {α:Type} {f g:α→Int} (w w':World) (b o:Nat) (x:α) (hx:Ext w w') (h:E2 f g w b o x):E2 f g w' b o x :=
 ⟨hx.ce' h.1,hx.ce' h.2.1,h.2.2⟩
def ERun:=E2 Run.At Run.N
def EPiece:=E2 Piece.Len Piece.N
def EBite:=E2 Bite.Piece Bite.At
abbrev RunsV:=SV 2 ERun
abbrev PiecesV:=SV 2 EPiece
abbrev BitesV:=SV 2 EBite
theorem RunsV.mono {w w':World} {v:Value} {xs:List Run} (h:RunsV w v xs) (hx:Ext w w'):RunsV w' v xs:=SV.mono E2.mono h hx
theorem PiecesV.mono {w w':World} {v:Value} {xs:List Piece} (h:PiecesV w v xs) (hx:Ext w w'):PiecesV w' v xs:=SV.mono E2.mono h hx
theorem BitesV.mono {w w':World} {v:Value} {xs:List Bite} (h:BitesV w v xs) (hx:Ext w w'):BitesV w' v xs:=SV.mono E2.mono h hx
def EQueue (w:World) (b o:Nat) (x:Queue):Prop :=
 w.cell? ⟨b,o,none⟩=some (.string x.Name)∧x.Name.size≤9223372036854775807∧w.cell? ⟨b,o+1,none⟩=some (.int .i64 x.Parent)∧I64 x.Parent ∧
 ∃ v,w.cell? ⟨b,o+2,none⟩=some v∧RunsV w v x.Cap
theorem EQueue.mono (w w':World) (b o:Nat) (x:Queue) (hx:Ext w w') (h:EQueue w b o x):EQueue w' b o x:=by
 obtain ⟨h1,h2,h3,h4,v,h5,h6⟩:=h
 exact ⟨hx.ce' h1,h2,hx.ce' h3,h4,v,hx.ce' h5,h6.mono hx⟩
abbrev QueuesV:=SV 3 EQueue
theorem QueuesV.mono {w w':World} {v:Value} {xs:List Queue} (h:QueuesV w v xs) (hx:Ext w w'):QueuesV w' v xs:=SV.mono EQueue.mono h hx
def ReqC (w:World) (cs:List Value) (r:Request):Prop :=
 ∃ pv,cs=[.int .i64 r.Queue,.int .i64 r.From,.int .i64 r.Until,.int .i64 r.Kind,pv]∧PiecesV w pv r.Pieces∧I64 r.Queue∧I64 r.From∧I64 r.Until∧I64 r.Kind
theorem ReqC.mono {w w':World} {cs:List Value} {r:Request} (h:ReqC w cs r) (hx:Ext w w'):ReqC w' cs r:=by
 obtain ⟨pv,h1,h2,h3⟩:=h
 exact ⟨pv,h1,h2.mono hx,h3⟩
def ReqV (w:World) (v:Value) (r:Request):Prop:=∃ cs,v=.agg cs.toArray∧ReqC w cs r
theorem ReqV.mono {w w':World} {v:Value} {r:Request} (h:ReqV w v r) (hx:Ext w w'):ReqV w' v r:=by
 obtain ⟨cs,h1,h2⟩:=h
 exact ⟨cs,h1,h2.mono hx⟩
def BookC (w:World) (cs:List Value) (x:Book):Prop :=
 ∃ qs bv,cs=.int .i64 x.Id::(qs++[bv])∧ReqC w qs x.Req∧BitesV w bv x.Bites∧I64 x.Id
theorem BookC.mono {w w':World} {cs:List Value} {x:Book} (h:BookC w cs x) (hx:Ext w w'):BookC w' cs x:=by
 obtain ⟨qs,bv,h1,h2,h3,h4⟩:=h
 exact ⟨qs,bv,h1,h2.mono hx,h3.mono hx,h4⟩
def EBook (w:World) (b o:Nat) (x:Book):Prop:=∃ cs,BookC w cs x∧∀ (j:Nat) u,cs[j]?=some u→w.cell? ⟨b,o+j,none⟩=some u
theorem EBook.mono (w w':World) (b o:Nat) (x:Book) (hx:Ext w w') (h:EBook w b o x):EBook w' b o x:=by
 obtain ⟨cs,h1,h2⟩:=h
 exact ⟨cs,h1.mono hx,fun j u hu=>hx.ce' (h2 j u hu)⟩
abbrev BooksV:=SV 7 EBook
theorem BooksV.mono {w w':World} {v:Value} {xs:List Book} (h:BooksV w v xs) (hx:Ext w w'):BooksV w' v xs:=SV.mono EBook.mono h hx
def BookV (w:World) (v:Value) (x:Book):Prop:=∃ cs,v=.agg cs.toArray∧BookC w cs x
theorem BookV.mono {w w':World} {v:Value} {x:Book} (h:BookV w v x) (hx:Ext w w'):BookV w' v x:=by
 obtain ⟨cs,h1,h2⟩:=h
 exact ⟨cs,h1,h2.mono hx⟩
def StateC (w:World) (cs:List Value) (s:State):Prop :=
 ∃ tv bv,cs=[.int .i64 s.Clock,.int .i64 s.Next,tv,bv]∧QueuesV w tv s.Tree∧BooksV w bv s.Books∧I64 s.Clock∧I64 s.Next
theorem StateC.mono {w w':World} {cs:List Value} {s:State} (h:StateC w cs s) (hx:Ext w w'):StateC w' cs s:=by
 obtain ⟨tv,bv,h1,h2,h3,h4⟩:=h
 exact ⟨tv,bv,h1,h2.mono hx,h3.mono hx,h4⟩
def StateV (w:World) (v:Value) (s:State):Prop:=∃ cs,v=.agg cs.toArray∧StateC w cs s
theorem StateV.mono {w w':World} {v:Value} {s:State} (h:StateV w v s) (hx:Ext w w'):StateV w' v s:=by
 obtain ⟨cs,h1,h2⟩:=h
 exact ⟨cs,h1,h2.mono hx⟩
def EInt (w:World) (b o:Nat) (x:Int):Prop:=w.cell? ⟨b,o,none⟩=some (.int .i64 x)∧I64 x
theorem EInt.mono (w w':World) (b o:Nat) (x:Int) (hx:Ext w w') (h:EInt w b o x):EInt w' b o x:=⟨hx.ce' h.1,h.2⟩
abbrev IntsV:=SV 1 EInt
theorem IntsV.mono {w w':World} {v:Value} {xs:List Int} (h:IntsV w v xs) (hx:Ext w w'):IntsV w' v xs:=SV.mono EInt.mono h hx
def EBool (w:World) (b o:Nat) (x:Bool):Prop:=w.cell? ⟨b,o,none⟩=some (.bool x)
theorem EBool.mono (w w':World) (b o:Nat) (x:Bool) (hx:Ext w w') (h:EBool w b o x):EBool w' b o x:=hx.ce' h
abbrev BoolsV:=SV 1 EBool
theorem BoolsV.mono {w w':World} {v:Value} {xs:List Bool} (h:BoolsV w v xs) (hx:Ext w w'):BoolsV w' v xs:=SV.mono EBool.mono h hx
def ERuns (w:World) (b o:Nat) (x:List Run):Prop:=∃ v,w.cell? ⟨b,o,none⟩=some v∧RunsV w v x
theorem ERuns.mono (w w':World) (b o:Nat) (x:List Run) (hx:Ext w w') (h:ERuns w b o x):ERuns w' b o x:=by
 obtain ⟨v,h1,h2⟩:=h
 exact ⟨v,hx.ce' h1,h2.mono hx⟩
abbrev LoadsV:=SV 1 ERuns
theorem LoadsV.mono {w w':World} {v:Value} {xs:List (List Run)} (h:LoadsV w v xs) (hx:Ext w w'):LoadsV w' v xs:=SV.mono ERuns.mono h hx
def cells2 {α:Type} (f g:α→Int) (xs:List α):List Value:=xs.flatMap fun x=>[.int .i64 (f x),.int .i64 (g x)]
theorem cells2_length {α:Type} (f g:α→Int) (xs:List α):(cells2 f g xs).length=xs.length*2:=by
 unfold cells2
 induction xs with
 | nil=>rfl
 | cons x xs ih=>simp only [List.flatMap_cons,List.length_append,List.length_cons,List.length_nil,ih];omega
theorem cells2_get {α:Type} (f g:α→Int):∀ (xs:List α) (k:Nat) (x:α),xs[k]?=some x→(cells2 f g xs)[k*2]?=some (.int .i64 (f x))∧(cells2 f g xs)[k*2+1]?=some (.int .i64 (g x))
 | [],k,x,h=>by simp at h
 | y::xs,0,x,h=>by simp at h;subst h;simp [cells2]
 | y::xs,k+1,x,h=>by
  have ih:=cells2_get f g xs k x (by simpa using h)
  have e:cells2 f g (y::xs)=.int .i64 (f y)::.int .i64 (g y)::cells2 f g xs:=by simp [cells2]
  rw [e,show (k+1)*2=k*2+1+1 by omega]
  simpa using ih
theorem cells2_snoc {α:Type} (f g:α→Int) (xs:List α) (x:α):cells2 f g (xs++[x])=cells2 f g xs++[.int .i64 (f x),.int .i64 (g x)]:=by simp [cells2]
theorem sv_of_owns2 {α:Type} {f g:α→Int} {w:World} {base e:Nat} {v:Value} {xs:List α} (h:w.ownsRow base e 2 v xs.length (cells2 f g xs)) (hi:∀ x∈xs,I64 (f x)∧I64 (g x)) (hl:xs.length≤17592186044416):SV 2 (E2 f g) w v xs:=by
 obtain ⟨h1,h2⟩:=h
 rcases h2 with ⟨rfl,h2⟩ | ⟨b,cap,cur,rfl,hb,hg,hn,hm,hs,ht⟩
 ·exact .inl ⟨List.eq_nil_of_length_eq_zero h2,none,0,rfl,by omega⟩
 ·refine .inr ⟨b,0,cap,rfl,hn,hm,hl,(Array.getElem?_eq_some_iff.1 hg).1,fun k x hk=>?_⟩
  have hkl:k < xs.length:=(List.getElem?_eq_some_iff.1 hk).1
  obtain ⟨k1,k2⟩:=cells2_get f g xs k x hk
  have cell:∀ j u,(cells2 f g xs)[j]?=some u→w.cell? ⟨b,0+j,none⟩=some u:=by
   intro j u hu
   rw [Nat.zero_add]
   simp only [World.cell?,hg,Option.isSome_none,Bool.false_eq_true,if_false]
   rw [← ht,List.getElem?_take] at hu
   split at hu
   ·simpa using hu
   ·cases hu
  exact ⟨cell _ _ k1,by simpa [Nat.add_assoc] using cell _ _ k2,hi x (List.mem_of_getElem? hk)⟩
section
variable {P:Program} {ops:Array Oper} {md:Region.Mode} {C:World→Prop}
def headAny (P:Program) (md:Region.Mode) (ops:Array Oper) (C:World→Prop) (n:Nat) (L:Array Bool→Act→Prop):Nat→Array Bool→Act→Prop
 | 0,listed,a=>L listed a
 | f+1,listed,a =>
  Region.ready md ops listed≠[]∧∀ i∈Region.ready md ops listed,i < n∧qOp P ops C i (headAny P md ops C n L f (listed.setIfInBounds i true)) a
theorem any_of_headAny {n g:Nat} {L:Array Bool→Act→Prop} {Q':Exit→Act→World→Prop} (hL:∀ listed a w,C w→L listed a→wpAny P md ops Q' g listed a w) :
  ∀ (f:Nat) (listed:Array Bool) (a:Act) (w:World),C w→headAny P md ops C n L f listed a→wpAny P md ops Q' (f+g) listed a w
 | 0,listed,a,w,hw,h=>by rw [Nat.zero_add];exact hL _ _ _ hw h
 | f+1,listed,a,w,hw,h=>by
  rw [show f+1+g=(f+g)+1 by omega]
  exact ⟨fun h0=>absurd h0 h.1,fun i hi=>wpOp_of_qOp hw (fun a' w' hw' h'=>any_of_headAny hL f _ a' w' hw' h') (h.2 i hi).2⟩
theorem headAny_first {n i:Nat} {oi:Oper} {v:Value} {L:Array Bool→Act→Prop} (hi:ops[i]?=some oi) (hsel:∀ (j:Nat) (o:Oper) cs b,ops[j]?=some o→o.op≠.select cs b)
  (hs:Region.sinkB md ops n=true) (hc:Region.chainB md ops n=true) (hn:n < ops.size) (hin:i < n)
  (hdone:∀ listed a,L listed a→∀ j∈Region.ready md ops listed,n≤j) :
  ∀ (f:Nat) (listed:Array Bool) (a:Act),HeadInv md ops n listed →
   (∀ j oj,ops[j]?=some oj→j≠i→listed.getD j true=false→(∀ e∈oj.after,Region.binds md e=true→e.on≠i)→oi.apart ops oj=true) →
   i∈Region.ready md ops listed→YieldsIn P ops C oi v a →
   headAny P md ops C n L f (listed.setIfInBounds i true) (a.put oi.dst v)→headAny P md ops C n L (f+1) listed a:=by
 intro f
 induction f with
 | zero =>
  intro listed a inv _ hr hy H
  have hun:=(mem_ready.1 hr).1
  refine ⟨fun h=>(by rw [h] at hr;cases hr),fun j hj=>?_⟩
  have hjn:j < n:=(Nat.lt_or_ge j n).elim id (fun h=>absurd hj (tail_waits hs hc hn inv _ i rfl hin hun j h))
  refine ⟨hjn,?_⟩
  by_cases hji:j=i
  ·subst hji;exact hy.qOp hi H
  ·have:=hdone _ _ H j (ready_mono hj hji)
   omega
 | succ f ih =>
  intro listed a inv hfree hr hy H
  have hun:=(mem_ready.1 hr).1
  refine ⟨fun h=>(by rw [h] at hr;cases hr),fun j hj=>?_⟩
  have hjn:j < n:=(Nat.lt_or_ge j n).elim id (fun h=>absurd hj (tail_waits hs hc hn inv _ i rfl hin hun j h))
  refine ⟨hjn,?_⟩
  by_cases hji:j=i
  ·subst hji;exact hy.qOp hi H
  ·obtain ⟨hjun,oj,hoj,hall⟩:=mem_ready.1 hj
   have hnot:∀ e∈oj.after,Region.binds md e=true→e.on≠i:=fun e he hb heq=>by
    have h1:=hall e he hb
    rw [heq,getD_both hun] at h1
    cases h1
   have h2:=qOp_put hoj (hfree j oj hoj hji hjun hnot) (fun cs b=>hsel i oi cs b hi) (fun cs b=>hsel j oj cs b hoj) hy (H.2 j (ready_mono hj hji)).2
   have hfree':∀ k ok,ops[k]?=some ok→k≠i→(listed.setIfInBounds j true).getD k true=false →
     (∀ e∈ok.after,Region.binds md e=true→e.on≠i)→oi.apart ops ok=true:=fun k ok hk hki hk2 hno=>by
    refine hfree k ok hk hki ?_ hno
    by_cases hjk:j=k
    ·subst hjk;exact hjun
    ·rwa [getD_set_ne true hjk] at hk2
   refine qOp_mono (fun a' h3=>ih (listed.setIfInBounds j true) a' (inv.set hj hjn) hfree' (ready_mono hr (Ne.symm hji)) h3.1 ?_) h2
   rw [Array.setIfInBounds_comm _ _ hji]
   exact h3.2
theorem headAny_lex {n g:Nat} {Lq:Act→Prop} (hsel:Region.noSelect ops=true) (hs:Region.sinkB md ops n=true) (hc:Region.chainB md ops n=true) (hn:n < ops.size) :
  ∀ (l:List Oper) (k:Nat) (listed:Array Bool) (a:Act),(∀ j,j < l.length→l[j]?=ops[k+j]?)→k+l.length=n→HeadInv md ops n listed →
  Region.lexHead md ops g l.length k listed=true→wpQuiet P ops C Lq l a →
  headAny P md ops C n (fun listed' a'=>Region.seqB md ops g n listed'=true∧Lq a') l.length listed a
 | [],k,listed,a,_,hk,_,hB,h=>by
  have:k=n:=by simpa using hk
  subst this
  exact ⟨by simpa [Region.lexHead] using hB,h⟩
 | o::l,k,listed,a,hl,hk,inv,hB,h=>by
  have h0:ops[k]?=some o:=by simpa using (hl 0 (by simp)).symm
  simp only [List.length_cons,Region.lexHead,Bool.and_eq_true] at hB
  obtain ⟨⟨hr,hf⟩,hB'⟩:=hB
  have hkn:k < n:=by simp only [List.length_cons] at hk;omega
  have hr':k∈Region.ready md ops listed:=by simpa using hr
  have hst:qOp P ops C k (wpQuiet P ops C Lq l) a:=by unfold qOp;simp only [h0];exact h
  obtain ⟨v,hy,hK⟩:=yieldsIn_of_qOp h0 hst
  exact headAny_first h0 (Region.noSelect_spec hsel) hs hc hn hkn (fun listed' a' hL=>seqB_ready hL.1) l.length listed a inv (Region.free_spec h0 hf) hr' hy
   (headAny_lex hsel hs hc hn l (k+1) _ _ (fun j hj=>by have:=hl (j+1) (by simp;omega);simpa [Nat.add_assoc,Nat.add_comm 1 j] using this) (by simp only [List.length_cons] at hk;omega) (inv.set hr' hkn) hB' hK)
theorem region_quiet_tail {id:Nat} {Q:Exit→Act→World→Prop} {a:Act} {w:World} {l:List Oper} (n:Nat) (hm:P.follows .mixedOrders=true) (hB:Region.lexTailB .any l.toArray n=true) (hC:C { w with drawn:=w.drawn+1 })
  (h:wpQuiet P l.toArray C (fun a'=>∀ w',C w'→wpList P l.toArray Q (l.drop n) a' w') (l.take n) a):(Code.region id l.toArray true).wp P Q a w:=by
 simp only [Region.lexTailB,Bool.and_eq_true,decide_eq_true_eq] at hB
 obtain ⟨⟨⟨⟨hsel,hn⟩,hs⟩,hc⟩,hlex⟩:=hB
 have hn':n < l.length:=by simpa using hn
 have htl:(l.take n).length=n:=by simp;omega
 have hdl:(l.drop n).length=l.toArray.size - n:=by simp
 have inv0:HeadInv .any l.toArray n (Array.replicate l.toArray.size false) :=
  ⟨by simp,fun j oj _ hl=>(by rw [getD_replicate_false] at hl;cases hl),fun t _ ht=>getD_in (by simpa using ht) (getD_replicate_false _ _)⟩
 have H:=headAny_lex (md:=.any) (C:=C) (g:=l.toArray.size - n) hsel hs hc hn (l.take n) 0 _ a (fun j hj=>by
  have hj':j < n:=by rw [htl] at hj;exact hj
  simp [hj']) (by simpa using htl) inv0 (by rw [htl];exact hlex) h
 refine wp_region_any hm ?_
 have:=any_of_headAny (Q':=Q) (g:=l.toArray.size - n) (fun listed a' w' hw' hL=>by
  have:=wpAny_of_seq (md:=.any) (Q':=Q) (l.drop n) n listed a' w' (fun j=>by simp [List.getElem?_drop]) (by rw [hdl];exact hL.1) (hL.2 w' hw')
  rwa [hdl] at this) _ _ _ _ hC H
 rw [htl,show n+(l.toArray.size - n)=l.toArray.size by omega] at this
 exact this
end
structure Later (w:World) where
 v:World
 h:Ext w v
instance (w:World):Nonempty (Later w):=⟨⟨w,Ext.rf w⟩⟩
theorem Later.cell {w:World} (p:Later w) {a:Addr} {u:Value} (h:w.cell? a=some u):p.v.cell? a=some u:=by
 rw [p.h.cell (World.block_lt_of_cell? w a h)];exact h
theorem region_later {P:Program} {id:Nat} {Q:Exit→Act→World→Prop} {a:Act} {w:World} {l:List Oper} (hm:P.follows .mixedOrders=true) (hB:Region.lexB .any l.toArray=true)
  (h:wpQuiet P l.toArray (fun w'=>∃ p:Later w,w'=p.v) (fun a'=>∀ w',(∃ p:Later w,w'=p.v)→Q .normal a' w') l a):(Code.region id l.toArray true).wp P Q a w :=
 wp_region_quiet (C:=fun w'=>∃ p:Later w,w'=p.v) hm hB ⟨⟨w.drew,Ext.dr (Ext.rf w)⟩,rfl⟩ (by simpa using h)
theorem region_later_tail {P:Program} {id:Nat} {Q:Exit→Act→World→Prop} {a:Act} {w:World} {l:List Oper} (n:Nat) (hm:P.follows .mixedOrders=true) (hB:Region.lexTailB .any l.toArray n=true)
  (h:wpQuiet P l.toArray (fun w'=>∃ p:Later w,w'=p.v) (fun a'=>∀ w',(∃ p:Later w,w'=p.v)→wpList P l.toArray Q (l.drop n) a' w') (l.take n) a):(Code.region id l.toArray true).wp P Q a w :=
 region_quiet_tail (C:=fun w'=>∃ p:Later w,w'=p.v) n hm hB ⟨⟨w.drew,Ext.dr (Ext.rf w)⟩,rfl⟩ h
theorem later_of {P:Program} {f:FuncId} {args:Array Value} {w:World} (p:Later w) {v:Value} (h:Calls P f args p.v fun e w'=>e=.returned v∧Ext p.v w') :
  Calls P f args p.v fun e w'=>e=.returned v∧∃ q:Later w,w'=q.v :=
 h.mono fun _ w' ⟨he,hx⟩=>⟨he,⟨w',p.h.tr hx⟩,rfl⟩
section
variable {P:Program} {ops:Array Oper} {md:Region.Mode} {D0 D1:World→Prop} {ia:Nat} {oa:Oper} {va:Value}
def quiet2 (P:Program) (D0 D1:World→Prop) (o:Oper) (a:Act) (next:Act→Prop):Prop :=
 ∃ v,((∀ w,D0 w→o.quietAt P a D0 w v)∧(∀ w,D1 w→o.quietAt P a D1 w v))∧next (a.put o.dst v)
def op2 (P:Program) (ops:Array Oper) (D0 D1:World→Prop) (ia:Nat) (va:Value) (i:Nat) (K:Act→Prop) (a:Act):Prop :=
 match ops[i]? with
 | none=>K a
 | some o=>if i=ia then K (a.put o.dst va) else if Region.wanted o (yielded ops a.tmps) then quiet2 P D0 D1 o a K else K (a.put o.dst undef)
theorem op2_mono {i:Nat} {K K':Act→Prop} {a:Act} (h:∀ a,K a→K' a) (hh:op2 P ops D0 D1 ia va i K a):op2 P ops D0 D1 ia va i K' a:=by
 unfold op2 at *
 cases ho:ops[i]? with
 | none=>simp only [ho] at hh ⊢;exact h _ hh
 | some o =>
  simp only [ho] at hh ⊢
  by_cases hi:i=ia
  ·rw [if_pos hi] at hh ⊢;exact h _ hh
  ·rw [if_neg hi] at hh ⊢
   by_cases hw:Region.wanted o (yielded ops a.tmps)=true
   ·rw [if_pos hw] at hh ⊢
    obtain ⟨v,h1,h2⟩:=hh
    exact ⟨v,h1,h _ h2⟩
   ·rw [if_neg hw] at hh ⊢;exact h _ hh
def Yields2 (P:Program) (ops:Array Oper) (D0 D1:World→Prop) (ia:Nat) (va:Value) (i:Nat) (o:Oper) (v:Value) (a:Act):Prop :=
 if i=ia then v=va else YieldsIn P ops D0 o v a∧YieldsIn P ops D1 o v a
theorem yields2_of {i:Nat} {o:Oper} {a:Act} {K:Act→Prop} (hi:ops[i]?=some o) (h:op2 P ops D0 D1 ia va i K a):∃ v,Yields2 P ops D0 D1 ia va i o v a∧K (a.put o.dst v):=by
 unfold op2 at h
 simp only [hi] at h
 unfold Yields2
 by_cases he:i=ia
 ·rw [if_pos he] at h;exact ⟨va,by rw [if_pos he],h⟩
 ·rw [if_neg he] at h
  by_cases hw:Region.wanted o (yielded ops a.tmps)=true
  ·rw [if_pos hw] at h
   obtain ⟨v,⟨h1,h2⟩,h3⟩:=h
   exact ⟨v,by rw [if_neg he];exact ⟨.inl ⟨hw,h1⟩,.inl ⟨hw,h2⟩⟩,h3⟩
  ·rw [if_neg hw] at h
   exact ⟨undef,by rw [if_neg he];exact ⟨.inr ⟨by simpa using hw,rfl⟩,.inr ⟨by simpa using hw,rfl⟩⟩,h⟩
theorem Yields2.op {i:Nat} {o:Oper} {v:Value} {a:Act} (hi:ops[i]?=some o) (hy:Yields2 P ops D0 D1 ia va i o v a) {K:Act→Prop} (h:K (a.put o.dst v)):op2 P ops D0 D1 ia va i K a:=by
 unfold op2
 simp only [hi]
 unfold Yields2 at hy
 by_cases he:i=ia
 ·rw [if_pos he] at hy ⊢;subst hy;exact h
 ·rw [if_neg he] at hy ⊢
  rcases hy.1 with ⟨hw,h1⟩ | ⟨hw,rfl⟩
  ·rw [if_pos hw]
   rcases hy.2 with ⟨_,h2⟩ | ⟨hw',_⟩
   ·exact ⟨v,⟨h1,h2⟩,h⟩
   ·rw [hw] at hw';cases hw'
  ·rw [if_neg (by rw [hw];exact Bool.false_ne_true)];exact h
theorem Yields2.put {i:Nat} {oi:Oper} {v:Value} {a:Act} {oj:Oper} (hap:oi.apart ops oj=true) (hsi:∀ cs b,oi.op≠.select cs b) (hy:Yields2 P ops D0 D1 ia va i oi v a) (u:Value) :
  Yields2 P ops D0 D1 ia va i oi v (a.put oj.dst u):=by
 obtain ⟨h1,h2,h3⟩:=Oper.apart_spec hap
 unfold Yields2 at *
 by_cases he:i=ia
 ·rw [if_pos he] at hy ⊢;exact hy
 ·rw [if_neg he] at hy ⊢
  exact ⟨hy.1.of_same (execOp_put oi hsi a oj.dst u h3) (wanted_put oi a oj.dst u h3),hy.2.of_same (execOp_put oi hsi a oj.dst u h3) (wanted_put oi a oj.dst u h3)⟩
theorem op2_put {i j:Nat} {oi oj:Oper} {v:Value} (hj:ops[j]?=some oj) (hap:oi.apart ops oj=true)
  (hsi:∀ cs b,oi.op≠.select cs b) (hsj:∀ cs b,oj.op≠.select cs b) {K:Act→Prop} {a:Act}
  (hy:Yields2 P ops D0 D1 ia va i oi v a) (h:op2 P ops D0 D1 ia va j K (a.put oi.dst v)) :
  op2 P ops D0 D1 ia va j (fun a'=>Yields2 P ops D0 D1 ia va i oi v a'∧K (a'.put oi.dst v)) a:=by
 obtain ⟨h1,h2,h3⟩:=Oper.apart_spec hap
 unfold op2 at *
 simp only [hj] at *
 by_cases he:j=ia
 ·rw [if_pos he] at h ⊢
  exact ⟨hy.put hap hsi _,by rw [← Act.put_comm a v va h2];exact h⟩
 ·rw [if_neg he] at h ⊢
  rw [wanted_put oj a oi.dst v h1] at h
  by_cases hw:Region.wanted oj (yielded ops a.tmps)=true
  ·rw [if_pos hw] at h ⊢
   obtain ⟨u,⟨hu0,hu1⟩,hn⟩:=h
   refine ⟨u,⟨fun w hw'=>?_,fun w hw'=>?_⟩,hy.put hap hsi _,by rw [← Act.put_comm a v u h2];exact hn⟩
   ·have:=hu0 w hw'
    unfold Oper.quietAt at *
    rwa [execOp_put oj hsj a oi.dst v h1] at this
   ·have:=hu1 w hw'
    unfold Oper.quietAt at *
    rwa [execOp_put oj hsj a oi.dst v h1] at this
  ·rw [if_neg hw] at h ⊢
   exact ⟨hy.put hap hsi _,by rw [← Act.put_comm a v undef h2];exact h⟩
def head2 (P:Program) (md:Region.Mode) (ops:Array Oper) (D0 D1:World→Prop) (ia:Nat) (va:Value) (n:Nat) (L:Array Bool→Act→Prop):Nat→Array Bool→Act→Prop
 | 0,listed,a=>L listed a
 | f+1,listed,a =>
  Region.ready md ops listed≠[]∧∀ i∈Region.ready md ops listed,i < n∧op2 P ops D0 D1 ia va i (head2 P md ops D0 D1 ia va n L f (listed.setIfInBounds i true)) a
def D2 (D0 D1:World→Prop) (ia:Nat) (listed:Array Bool) (w:World):Prop:=if listed.getD ia false=true then D1 w else D0 w
theorem wp_of_op2 {i:Nat} {a:Act} {K:Act→Prop} {K':Act→World→Prop} {Q':Exit→Act→World→Prop} {w:World} {listed:Array Bool} (hia:ops[ia]?=some oa) (hga:oa.guard=none)
  (hrun:∀ (a:Act) (w:World),D0 w→∃ w',(execOp a.eval oa).run P w=.ok (.value va) w'∧D1 w') (hi:i∈Region.ready md ops listed) (hil:i < listed.size) (hw:D2 D0 D1 ia listed w)
  (h:∀ a w',D2 D0 D1 ia (listed.setIfInBounds i true) w'→K a→K' a w') (hh:op2 P ops D0 D1 ia va i K a):wpOp P ops Q' i K' a w:=by
 have hun:=(mem_ready.1 hi).1
 unfold op2 at hh
 unfold wpOp
 by_cases he:i=ia
 ·subst he
  simp only [hia,if_true] at hh ⊢
  have hwd:Region.wanted oa (yielded ops a.tmps)=true:=by simp [Region.wanted,hga]
  rw [if_pos hwd]
  have h0:D0 w:=by
   unfold D2 at hw
   rw [if_neg] at hw
   ·exact hw
   ·rw [getD_both hun];exact Bool.false_ne_true
  obtain ⟨w',hr,h1⟩:=hrun a w h0
  left
  unfold Oper.wp
  rw [hr]
  show K' (a.put oa.dst va) w'
  refine h _ _ ?_ hh
  unfold D2
  rw [if_pos]
  ·exact h1
  ·simp [hil]
 ·have hset:∀ w,D2 D0 D1 ia listed w→D2 D0 D1 ia (listed.setIfInBounds i true) w:=fun w hw=>by
   unfold D2 at *
   rw [getD_set_ne false he];exact hw
  cases ho:ops[i]? with
  | none=>simp only [ho] at hh ⊢;exact h _ _ (hset _ hw) hh
  | some o =>
   simp only [ho] at hh ⊢
   rw [if_neg he] at hh
   by_cases hwd:Region.wanted o (yielded ops a.tmps)=true
   ·rw [if_pos hwd] at hh ⊢
    obtain ⟨v,⟨h0,h1⟩,h2⟩:=hh
    left
    by_cases hb:listed.getD ia false=true
    ·have hw1:D1 w:=by unfold D2 at hw;rwa [if_pos hb] at hw
     refine Oper.wp_of_quiet (C:=D1) hw1 (K:=fun a'=>a'=a.put o.dst v) (fun a' w' hw' e=>?_) ⟨v,h1,rfl⟩
     subst e
     refine h _ _ (hset _ ?_) h2
     unfold D2;rw [if_pos hb];exact hw'
    ·have hw0:D0 w:=by unfold D2 at hw;rwa [if_neg hb] at hw
     refine Oper.wp_of_quiet (C:=D0) hw0 (K:=fun a'=>a'=a.put o.dst v) (fun a' w' hw' e=>?_) ⟨v,h0,rfl⟩
     subst e
     refine h _ _ (hset _ ?_) h2
     unfold D2;rw [if_neg hb];exact hw'
   ·rw [if_neg hwd] at hh ⊢;exact h _ _ (hset _ hw) hh
theorem any_of_head2 {n g:Nat} {L:Array Bool→Act→Prop} {Q':Exit→Act→World→Prop} (hia:ops[ia]?=some oa) (hga:oa.guard=none)
  (hrun:∀ (a:Act) (w:World),D0 w→∃ w',(execOp a.eval oa).run P w=.ok (.value va) w'∧D1 w') (hL:∀ listed a w,D2 D0 D1 ia listed w→L listed a→wpAny P md ops Q' g listed a w) :
  ∀ (f:Nat) (listed:Array Bool) (a:Act) (w:World),listed.size=ops.size→D2 D0 D1 ia listed w→head2 P md ops D0 D1 ia va n L f listed a→wpAny P md ops Q' (f+g) listed a w
 | 0,listed,a,w,_,hw,h=>by rw [Nat.zero_add];exact hL _ _ _ hw h
 | f+1,listed,a,w,hs,hw,h=>by
  rw [show f+1+g=(f+g)+1 by omega]
  refine ⟨fun h0=>absurd h0 h.1,fun i hi=>?_⟩
  have hil:i < listed.size:=by
   rcases Nat.lt_or_ge i listed.size with hh | hh
   ·exact hh
   ·have:=(mem_ready.1 hi).1;simp [Array.getElem?_eq_none hh] at this
  exact wp_of_op2 hia hga hrun hi hil hw (fun a' w' hw' h'=>any_of_head2 hia hga hrun hL f _ a' w' (by simp [hs]) hw' h') (h.2 i hi).2
theorem head2_first {n i:Nat} {oi:Oper} {v:Value} {L:Array Bool→Act→Prop} (hi:ops[i]?=some oi) (hsel:∀ (j:Nat) (o:Oper) cs b,ops[j]?=some o→o.op≠.select cs b)
  (hs:Region.sinkB md ops n=true) (hc:Region.chainB md ops n=true) (hn:n < ops.size) (hin:i < n)
  (hdone:∀ listed a,L listed a→∀ j∈Region.ready md ops listed,n≤j) :
  ∀ (f:Nat) (listed:Array Bool) (a:Act),HeadInv md ops n listed →
   (∀ j oj,ops[j]?=some oj→j≠i→listed.getD j true=false→(∀ e∈oj.after,Region.binds md e=true→e.on≠i)→oi.apart ops oj=true) →
   i∈Region.ready md ops listed→Yields2 P ops D0 D1 ia va i oi v a →
   head2 P md ops D0 D1 ia va n L f (listed.setIfInBounds i true) (a.put oi.dst v)→head2 P md ops D0 D1 ia va n L (f+1) listed a:=by
 intro f
 induction f with
 | zero =>
  intro listed a inv _ hr hy H
  have hun:=(mem_ready.1 hr).1
  refine ⟨fun h=>(by rw [h] at hr;cases hr),fun j hj=>?_⟩
  have hjn:j < n:=(Nat.lt_or_ge j n).elim id (fun h=>absurd hj (tail_waits hs hc hn inv _ i rfl hin hun j h))
  refine ⟨hjn,?_⟩
  by_cases hji:j=i
  ·subst hji;exact hy.op hi H
  ·have:=hdone _ _ H j (ready_mono hj hji)
   omega
 | succ f ih =>
  intro listed a inv hfree hr hy H
  have hun:=(mem_ready.1 hr).1
  refine ⟨fun h=>(by rw [h] at hr;cases hr),fun j hj=>?_⟩
  have hjn:j < n:=(Nat.lt_or_ge j n).elim id (fun h=>absurd hj (tail_waits hs hc hn inv _ i rfl hin hun j h))
  refine ⟨hjn,?_⟩
  by_cases hji:j=i
  ·subst hji;exact hy.op hi H
  ·obtain ⟨hjun,oj,hoj,hall⟩:=mem_ready.1 hj
   have hnot:∀ e∈oj.after,Region.binds md e=true→e.on≠i:=fun e he hb heq=>by
    have h1:=hall e he hb
    rw [heq,getD_both hun] at h1
    cases h1
   have h2:=op2_put hoj (hfree j oj hoj hji hjun hnot) (fun cs b=>hsel i oi cs b hi) (fun cs b=>hsel j oj cs b hoj) hy (H.2 j (ready_mono hj hji)).2
   have hfree':∀ k ok,ops[k]?=some ok→k≠i→(listed.setIfInBounds j true).getD k true=false →
     (∀ e∈ok.after,Region.binds md e=true→e.on≠i)→oi.apart ops ok=true:=fun k ok hk hki hk2 hno=>by
    refine hfree k ok hk hki ?_ hno
    by_cases hjk:j=k
    ·subst hjk;exact hjun
    ·rwa [getD_set_ne true hjk] at hk2
   refine op2_mono (fun a' h3=>ih (listed.setIfInBounds j true) a' (inv.set hj hjn) hfree' (ready_mono hr (Ne.symm hji)) h3.1 ?_) h2
   rw [Array.setIfInBounds_comm _ _ hji]
   exact h3.2
def wpQuiet2 (P:Program) (ops:Array Oper) (D0 D1:World→Prop) (ia:Nat) (va:Value) (Q:Act→Prop):Nat→List Oper→Act→Prop
 | _,[],a=>Q a
 | k,o::rest,a=>if k=ia then wpQuiet2 P ops D0 D1 ia va Q (k+1) rest (a.put o.dst va) else if Region.wanted o (yielded ops a.tmps) then quiet2 P D0 D1 o a (wpQuiet2 P ops D0 D1 ia va Q (k+1) rest) else wpQuiet2 P ops D0 D1 ia va Q (k+1) rest (a.put o.dst undef)
theorem head2_lex {n g:Nat} {Lq:Act→Prop} (hsel:Region.noSelect ops=true) (hs:Region.sinkB md ops n=true) (hc:Region.chainB md ops n=true) (hn:n < ops.size) :
  ∀ (l:List Oper) (k:Nat) (listed:Array Bool) (a:Act),(∀ j,j < l.length→l[j]?=ops[k+j]?)→k+l.length=n→HeadInv md ops n listed→(∀ j,j < k→listed.getD j false=true) →
  Region.lexHead md ops g l.length k listed=true→wpQuiet2 P ops D0 D1 ia va Lq k l a →
  head2 P md ops D0 D1 ia va n (fun listed' a'=>Region.seqB md ops g n listed'=true∧(∀ j,j < n→listed'.getD j false=true)∧Lq a') l.length listed a
 | [],k,listed,a,_,hk,_,hall,hB,h=>by
  have:k=n:=by simpa using hk
  subst this
  exact ⟨by simpa [Region.lexHead] using hB,hall,h⟩
 | o::l,k,listed,a,hl,hk,inv,hall,hB,h=>by
  have h0:ops[k]?=some o:=by simpa using (hl 0 (by simp)).symm
  simp only [List.length_cons,Region.lexHead,Bool.and_eq_true] at hB
  obtain ⟨⟨hr,hf⟩,hB'⟩:=hB
  have hkn:k < n:=by simp only [List.length_cons] at hk;omega
  have hr':k∈Region.ready md ops listed:=by simpa using hr
  have hst:op2 P ops D0 D1 ia va k (wpQuiet2 P ops D0 D1 ia va Lq (k+1) l) a:=by
   unfold op2;simp only [h0];exact h
  obtain ⟨v,hy,hK⟩:=yields2_of h0 hst
  have hall':∀ j,j < k+1→(listed.setIfInBounds k true).getD j false=true:=fun j hj=>by
   by_cases e:k=j
   ·subst e
    have:k < listed.size:=by rw [inv.size];omega
    simp [this]
   ·rw [getD_set_ne false e];exact hall j (by omega)
  exact head2_first h0 (Region.noSelect_spec hsel) hs hc hn hkn (fun listed' a' hL=>seqB_ready hL.1) l.length listed a inv (Region.free_spec h0 hf) hr' hy
   (head2_lex hsel hs hc hn l (k+1) _ _ (fun j hj=>by have:=hl (j+1) (by simp;omega);simpa [Nat.add_assoc,Nat.add_comm 1 j] using this) (by simp only [List.length_cons] at hk;omega) (inv.set hr' hkn) hall' hB' hK)
theorem region_alloc_tail {id:Nat} {Q:Exit→Act→World→Prop} {a:Act} {w:World} {l:List Oper} (n ia:Nat) {oa:Oper} {va:Value} {D0 D1:World→Prop} (hm:P.follows .mixedOrders=true) (hB:Region.lexTailB .any l.toArray n=true)
  (hia:l[ia]?=some oa) (han:ia < n) (hga:oa.guard=none) (hrun:∀ (a:Act) (w:World),D0 w→∃ w',(execOp a.eval oa).run P w=.ok (.value va) w'∧D1 w') (hC:D0 { w with drawn:=w.drawn+1 })
  (h:wpQuiet2 P l.toArray D0 D1 ia va (fun a'=>∀ w',D1 w'→wpList P l.toArray Q (l.drop n) a' w') 0 (l.take n) a):(Code.region id l.toArray true).wp P Q a w:=by
 simp only [Region.lexTailB,Bool.and_eq_true,decide_eq_true_eq] at hB
 obtain ⟨⟨⟨⟨hsel,hn⟩,hs⟩,hc⟩,hlex⟩:=hB
 have hn':n < l.length:=by simpa using hn
 have htl:(l.take n).length=n:=by simp;omega
 have hdl:(l.drop n).length=l.toArray.size - n:=by simp
 have inv0:HeadInv .any l.toArray n (Array.replicate l.toArray.size false) :=
  ⟨by simp,fun j oj _ hl=>(by rw [getD_replicate_false] at hl;cases hl),fun t _ ht=>getD_in (by simpa using ht) (getD_replicate_false _ _)⟩
 have H:=head2_lex (md:=.any) (g:=l.toArray.size - n) hsel hs hc hn (l.take n) 0 _ a (fun j hj=>by
  have hj':j < n:=by rw [htl] at hj;exact hj
  simp [hj']) (by simpa using htl) inv0 (fun j hj=>absurd hj (Nat.not_lt_zero _)) (by rw [htl];exact hlex) h
 refine wp_region_any hm ?_
 have:=any_of_head2 (Q':=Q) (g:=l.toArray.size - n) (oa:=oa) (by simpa using hia) hga hrun (fun listed a' w' hw' hL=>by
  have hw1:D1 w':=by unfold D2 at hw';rwa [if_pos (hL.2.1 ia han)] at hw'
  have:=wpAny_of_seq (md:=.any) (Q':=Q) (l.drop n) n listed a' w' (fun j=>by simp [List.getElem?_drop]) (by rw [hdl];exact hL.1) (hL.2.2 w' hw1)
  rwa [hdl] at this) _ _ _ _ (by simp) (by unfold D2;rw [if_neg (by rw [getD_replicate_false];exact Bool.false_ne_true)];exact hC) H
 rw [htl,show n+(l.toArray.size - n)=l.toArray.size by omega] at this
 exact this
theorem wpQuiet2_nil {k:Nat} {Q:Act→Prop} {a:Act} (h:Q a):wpQuiet2 P ops D0 D1 ia va Q k [] a:=h
theorem wpQuiet2_step {k:Nat} {Q:Act→Prop} {a:Act} {o:Oper} {rest:List Oper} (hk:(k == ia)=false)
  (h:∀ K:Act→Prop,(∀ a,wpQuiet2 P ops D0 D1 ia va Q (k+1) rest a→K a)→if Region.wanted o (yielded ops a.tmps) then quiet2 P D0 D1 o a K else K (a.put o.dst undef)):wpQuiet2 P ops D0 D1 ia va Q k (o::rest) a:=by
 unfold wpQuiet2
 rw [if_neg (by simpa using hk)]
 exact h _ (fun _ h=>h)
theorem wpQuiet2_alloc {k:Nat} {Q:Act→Prop} {a:Act} {o:Oper} {rest:List Oper} (hk:(k == ia)=true) (h:wpQuiet2 P ops D0 D1 ia va Q (k+1) rest (a.put o.dst va)):wpQuiet2 P ops D0 D1 ia va Q k (o::rest) a:=by
 unfold wpQuiet2
 rw [if_pos (by simpa using hk)]
 exact h
end
theorem region_box_tail {P:Program} {id:Nat} {Q:Exit→Act→World→Prop} {a:Act} {w:World} {l:List Oper} (n ia:Nat) {oa:Oper} (o:Obj) (hm:P.follows .mixedOrders=true) (hB:Region.lexTailB .any l.toArray n=true)
  (hia:l[ia]?=some oa) (han:(decide (ia < n))=true) (hga:oa.guard=none) (hrun:∀ (a:Act) (w:World),(execOp a.eval oa).run P w=.ok (.value (.pointer (some ⟨w.heap.size,0,none⟩))) (w.alloc o))
  (h:wpQuiet2 P l.toArray (fun w'=>∃ m,w'=w.drewN m) (fun w'=>∃ m,w'=(w.alloc o).drewN m) ia (.pointer (some ⟨w.heap.size,0,none⟩)) (fun a'=>∀ m,wpList P l.toArray Q (l.drop n) a' ((w.alloc o).drewN m)) 0 (l.take n) a):(Code.region id l.toArray true).wp P Q a w:=by
 refine region_alloc_tail (D0:=fun w'=>∃ m,w'=w.drewN m) (D1:=fun w'=>∃ m,w'=(w.alloc o).drewN m) (va:=.pointer (some ⟨w.heap.size,0,none⟩)) n ia hm hB hia (of_decide_eq_true han) hga ?_ ⟨1,rfl⟩ ?_
 ·rintro a _ ⟨m,rfl⟩
  refine ⟨_,hrun a _,m,?_⟩
  rfl
 ·have e:(fun a'=>∀ w',(∃ m,w'=(w.alloc o).drewN m)→wpList P l.toArray Q (l.drop n) a' w')=(fun a'=>∀ m,wpList P l.toArray Q (l.drop n) a' ((w.alloc o).drewN m)):=by
   funext a'
   exact propext ⟨fun h m=>h _ ⟨m,rfl⟩,fun h w' ⟨m,e⟩=>e▸h m⟩
  rw [e];exact h
end Go.Proofs.YtdcndkojmflhnaaGreat
