/- Plain laws of the log: what is done is right; a log that is cut; an act more; each theorem names its own conditions. -/
import Derived.Test.YtdcndkojmflhnaaGreatPLogK
set_option linter.unusedVariables false
set_option linter.unusedSimpArgs false
set_option maxRecDepth 100000
set_option maxHeartbeats 8000000
set_option linter.unusedSimpArgs false
set_option linter.unusedVariables false
namespace Go.Proofs.YtdcndkojmflhnaaGreat
open Go.RowKit
open List renaming getElem_toArray→zA,getElem_cons_zero→zB,getElem_cons_succ→zC,setIfInBounds_toArray→zD,set_cons_zero→zE,set_cons_succ→zF
theorem tickL_zero {s X:State} {t n:Int} (h:tickR s t=(X,n,0)):stateE s=0∧(0≤t∧t≤48)∧¬ t < s.Clock∧X=laterS s t:=by
 by_cases h0:stateE s=0
 ·by_cases h1:0≤t∧t≤48
  ·by_cases h2:t < s.Clock
   ·rw [tickR_late h0 h1 h2] at h
    exact absurd (show (9:Int)=0 from congrArg (fun p=>p.2.2) h) (by decide)
   ·rw [tickR_ok h0 h1 h2] at h
    exact ⟨h0,h1,h2,(congrArg (fun p=>p.1) h).symm⟩
  ·rw [tickR_range h0 h1] at h
   exact absurd (show (3:Int)=0 from congrArg (fun p=>p.2.2) h) (by decide)
 ·rw [tickR_bad h0] at h
  exact absurd (congrArg (fun p=>p.2.2) h) h0
theorem later_right {s:State} {t:Int} (h:stateE s=0) (h1:0≤t∧t≤48) (h2:¬ t < s.Clock):stateE (laterS s t)=0:=by
 refine right_sub h (b:=stayB t s.Books) List.filter_sublist (by omega) h1.2 ?_
 rw [List.any_eq_false]
 intro x hx
 have:=(List.mem_filter.1 hx).2
 simpa using this
theorem gone_right {s:State} (h:stateE s=0) (o:Nat):stateE (lessS s o)=0:=by
 obtain ⟨hf,_⟩:=stateE_zero h
 obtain ⟨_,⟨k1,k2,_,_⟩,_,h4⟩:=formE_zero hf
 have hsub:(s.Books.eraseIdx o).Sublist s.Books:=List.eraseIdx_sublist ..
 exact right_sub h hsub (Int.le_refl _) k2 (by
  rw [List.any_eq_false] at h4 ⊢
  exact fun x hx=>h4 x (hsub.subset hx))
theorem doR_right {s X:State} {x:Act1} (h:doR s x=(X,0)):stateE X=0∧stateE s=0∧(x.Kind=1∨x.Kind=2∨x.Kind=3∨x.Kind=4):=by
 by_cases k1:x.Kind=1
 ·rw [doR_1 k1] at h
  obtain ⟨⟨S,n,e⟩,hs⟩:∃ z,submitR s x.Req=z:=⟨_,rfl⟩
  rw [hs] at h
  obtain rfl:S=X:=congrArg Prod.fst h
  obtain rfl:e=0:=congrArg Prod.snd h
  have:=submit_right hs
  exact ⟨this.1,this.2.1,.inl k1⟩
 ·by_cases k2:x.Kind=2
  ·rw [doR_2 k2] at h
   rcases findB_cases s x.N with ⟨e,hf,he⟩ | ⟨h0,k,hk,hf⟩
   ·rw [cancelR_bad (by rw [hf];exact he),hf] at h
    exact absurd (congrArg Prod.snd h) he
   ·rw [cancelR_ok hf] at h
    obtain rfl:lessS s k=X:=congrArg Prod.fst h
    exact ⟨gone_right h0 k,h0,.inr (.inl k2)⟩
  ·by_cases k3:x.Kind=3
   ·rw [doR_3 k3] at h
    obtain ⟨⟨S,n,e⟩,hs⟩:∃ z,tickR s x.N=z:=⟨_,rfl⟩
    rw [hs] at h
    obtain rfl:S=X:=congrArg Prod.fst h
    obtain rfl:e=0:=congrArg Prod.snd h
    obtain ⟨a1,a2,a3,rfl⟩:=tickL_zero hs
    exact ⟨later_right a1 a2 a3,a1,.inr (.inr (.inl k3))⟩
   ·by_cases k4:x.Kind=4
    ·rw [doR_4 k4] at h
     obtain ⟨⟨S,m,d,e⟩,hs⟩:∃ z,changeR s x.N x.Cap=z:=⟨_,rfl⟩
     rw [hs] at h
     obtain rfl:S=X:=congrArg Prod.fst h
     obtain rfl:e=0:=congrArg Prod.snd h
     have:=change_right hs
     exact ⟨this.1,this.2.1,.inr (.inr (.inr k4))⟩
    ·rw [doR_no k1 k2 k3 k4] at h
     exact absurd (show (7:Int)=0 from congrArg Prod.snd h) (by decide)
theorem doneR_snoc (s:State) (l:List Act1) (x:Act1):doneR s (l++[x])=doneS (doneR s l) x:=by
 unfold doneR
 rw [List.foldl_append]
 rfl
theorem pieceOf_app:∀ (n:Nat) (t b:List UInt8),2*n≤t.length→pieceOf n (t++b)=pieceOf n t
 | 0,_,_,_=>rfl
 | n+1,[],_,h=>by simp at h
 | n+1,[a],_,h=>by simp at h;omega
 | n+1,a::c::t,b,h=>by
  show ⟨byI a,byI c⟩::pieceOf n (t++b)=⟨byI a,byI c⟩::pieceOf n t
  rw [pieceOf_app n t b (by simp at h;omega)]
theorem runOf_app:∀ (n:Nat) (t b:List UInt8),2*n≤t.length→runOf n (t++b)=runOf n t
 | 0,_,_,_=>rfl
 | n+1,[],_,h=>by simp at h
 | n+1,[a],_,h=>by simp at h;omega
 | n+1,a::c::t,b,h=>by
  show ⟨byI a,byI c⟩::runOf n (t++b)=⟨byI a,byI c⟩::runOf n t
  rw [runOf_app n t b (by simp at h;omega)]
theorem actT_app {t r b:List UInt8} {x:Act1} (h:actT t=some (x,r)):actT (t++b)=some (x,r++b):=by
 match t,h with
 | k::n::q::f::u::rk::n1::r1,h =>
  simp only [actT] at h
  split at h
  ·next h1 =>
   cases hd:r1.drop (2*n1.toNat) with
   | nil=>rw [hd] at h;simp at h
   | cons n2 r2 =>
    rw [hd] at h
    simp only at h
    split at h
    ·next h2 =>
     simp only [Option.some.injEq,Prod.mk.injEq] at h
     obtain ⟨rfl,rfl⟩:=h
     show actT (k::n::q::f::u::rk::n1::(r1++b))=_
     rw [actT_is (a:=n1.toNat) (n2:=n2) (r2:=r2++b) rfl h1.1 (by rw [List.drop_append_of_le_length h1.2,hd];rfl) h2.1 (by rw [List.length_append];omega),pieceOf_app _ _ _ h1.2,runOf_app _ _ _ h2.2,List.drop_append_of_le_length h2.2]
    ·cases h
  ·cases h
theorem actsF_app:∀ (n:Nat) {t b:List UInt8} {l:List Act1} {x:Act1},actsF n t=(l,[])→l.length < n→actT b=some (x,[])→actsF n (t++b)=(l++[x],[])
 | 0,_,_,_,_,_,h,_=>absurd h (Nat.not_lt_zero _)
 | n+1,t,b,l,x,h,hl,hb=>by
  cases ha:actT t with
  | none =>
   rw [actsF_none ha] at h
   obtain rfl:t=[]:=congrArg Prod.snd h
   obtain rfl:[]=l:=congrArg Prod.fst h
   rw [List.nil_append,actsF_some hb,actsF_none (show actT []=none from rfl)]
   rfl
  | some p =>
   obtain ⟨y,r⟩:=p
   rw [actsF_some ha] at h
   have h1:y::(actsF n r).1=l:=congrArg Prod.fst h
   have h2:(actsF n r).2=[]:=congrArg Prod.snd h
   subst h1
   have ih:=actsF_app n (t:=r) (b:=b) (l:=(actsF n r).1) (x:=x) (Prod.ext rfl h2) (by simpa using hl) hb
   rw [actsF_some (actT_app ha),ih]
   rfl
theorem replay_more {t b:List UInt8} {l:List Act1} {x:Act1} (h:replayR t=(l,(t.length:Int),0)) (h60:l.length < 60) (hb:actT b=some (x,[])) (h4:t.length+b.length≤4096) :
  replayR (t++b)=(l++[x],((t.length+b.length:Nat):Int),0):=by
 have hm:¬ 4096 < t.length:=by omega
 rw [replayR_ok hm] at h
 have h1:(actsF 60 t).1=l:=congrArg Prod.fst h
 have h2:(t.length:Int) - ((actsF 60 t).2.length:Int)=(t.length:Int):=congrArg (fun p=>p.2.1) h
 have h3:(actsF 60 t).2=[]:=List.eq_nil_of_length_eq_zero (by omega)
 rw [replayR_ok (by rw [List.length_append];omega),actsF_app 60 (Prod.ext h1 h3) h60 hb,List.length_append]
 simp
theorem bytesL_len (x:Act1):(bytesL x).length=8+2*x.Req.Pieces.length+2*x.Cap.length:=by
 unfold bytesL;rw [List.length_map,numsA_len]
end Go.Proofs.YtdcndkojmflhnaaGreat
