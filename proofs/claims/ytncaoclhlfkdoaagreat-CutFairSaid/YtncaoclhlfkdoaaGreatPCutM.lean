/- CutTrue, plainly. -/
import Derived.Test.YtncaoclhlfkdoaaGreatPCutP
set_option linter.unusedVariables false
set_option maxRecDepth 100000
set_option maxHeartbeats 8000000
set_option linter.unusedSimpArgs false
set_option linter.unusedVariables false
namespace Go.Proofs.YtncaoclhlfkdoaaGreat
open Go.RowKit
open List renaming getElem_toArray→zA,getElem_cons_zero→zB,getElem_cons_succ→zC,setIfInBounds_toArray→zD,set_cons_zero→zE,set_cons_succ→zF
theorem id_where {b:List Book} (hr:Rising b) {o i:Nat} {y z:Book} (ho:b[o]?=some y) (hi:b[i]?=some z) (he:z.Id=y.Id):i=o:=by
 obtain ⟨h1,e1⟩:=List.getElem?_eq_some_iff.1 ho
 obtain ⟨h2,e2⟩:=List.getElem?_eq_some_iff.1 hi
 have hp:=List.pairwise_iff_getElem.1 (ids_differ hr)
 rcases Nat.lt_trichotomy i o with h | h | h
 ·have:=hp i o h2 h1 h;rw [e1,e2] at this;exact absurd he this
 ·exact h
 ·have:=hp o i h1 h2 h;rw [e1,e2] at this;exact absurd he.symm this
theorem find_where {s:State} (h:stateE s=0) {o:Nat} {y:Book} (ho:s.Books[o]?=some y):findB s y.Id=((o:Int),0):=by
 obtain ⟨_,_,h3,_⟩:=formE_zero (stateE_zero h).1
 have hix:idxOf (isId y.Id) s.Books=o:=idxOf_at ho (by simp [isId]) (fun j z hj hz=>by
  refine decide_eq_false fun e=>?_
  have:=id_where (idsT_iff.1 h3).2 ho hz e
  omega)
 rw [findB_is h (by rw [hix];omega),hix]
theorem find_nowhere {s:State} (h:stateE s=0) {id:Int} (hn:∀ y∈s.Books,y.Id≠id):findB s id=(0,6):=by
 have hix:idxOf (isId id) s.Books=-1:=idxOf_none (fun j z _ hz=>decide_eq_false (hn z (List.mem_of_getElem? hz)))
 exact findB_no h (by rw [hix];omega)
theorem cut_book {s:State} {k:Nat} {f:List Run} (h:stateE s=0) (hf:CapOk f) {i:Nat} {x:Book} (hx:s.Books[i]?=some x) :
  ((endB s k f).2.1.count x.Id=0∧(endB s k f).2.2.count x.Id=1∧findB (cutS s k f) x.Id=(0,6)) ∨
  ∃ (n:Nat) (y:Book),(endB s k f).2.2.count x.Id=0∧findB (cutS s k f) x.Id=((n:Int),0)∧(endB s k f).1[n]?=some y∧y.Req=x.Req ∧
   ((endB s k f).2.1.count x.Id=0∧y.Bites=x.Bites∨(endB s k f).2.1.count x.Id=1∧∀ z∈y.Bites,s.Clock≤z.At):=by
 have R:=rel_is (q:=k) h hf
 have E:=end_is (q:=k) h hf
 obtain ⟨_,_,h3,_⟩:=formE_zero (stateE_zero h).1
 have hd:=ids_differ (idsT_iff.1 h3).2
 have hp:((relB s k f).1++(relB s k f).2).Pairwise (fun x y:Book=>x.Id≠y.Id):=(List.Perm.pairwise_iff (fun h e=>h e.symm) R.perm).2 hd
 obtain ⟨p1,p2,p3⟩:=List.pairwise_append.1 hp
 have hat:∀ {y:Book},y∈(endB s k f).1→∃ n:Nat,findB (cutS s k f) y.Id=((n:Int),0)∧(endB s k f).1[n]?=some y:=fun {y} hy=>by
  obtain ⟨n,hn⟩:=List.mem_iff_getElem?.1 hy
  exact ⟨n,find_where (s:=cutS s k f) E.right hn,hn⟩
 have hcnt:∀ id:Int,(endB s k f).2.1.count id+(endB s k f).2.2.count id=((relB s k f).2.map Book.Id).count id:=fun id=>by
  rw [← E.perm.count_eq id,List.count_append]
 rcases List.mem_append.1 (R.perm.symm.subset (List.mem_of_getElem? hx)) with hm | hm
 ·have h0:((relB s k f).2.map Book.Id).count x.Id=0:=List.count_eq_zero.2 fun hc=>by
   obtain ⟨z,hz,e⟩:=List.mem_map.1 hc
   exact p3 x hm z hz e.symm
  have h1:=hcnt x.Id
  obtain ⟨n,hn1,hn2⟩:=hat (E.stay x hm)
  exact .inr ⟨n,x,by omega,hn1,hn2,rfl,.inl ⟨by omega,rfl⟩⟩
 ·have hnd:((relB s k f).2.map Book.Id).Nodup:=List.pairwise_map.2 p2
  have h0:((relB s k f).2.map Book.Id).count x.Id=1:=(hnd.count (a:=x.Id)).trans (if_pos (List.mem_map_of_mem (f:=Book.Id) hm))
  have h1:=hcnt x.Id
  by_cases hc:(endB s k f).2.1.count x.Id=0
  ·refine .inl ⟨hc,by omega,find_nowhere (s:=cutS s k f) E.right fun y hy e=>?_⟩
   rcases E.only y hy with g | g
   ·exact p3 y g x hm e
   ·rw [e] at g
    exact List.count_eq_zero.1 hc g
  ·obtain ⟨y,hy,e1,e2,e3⟩:=E.back x hm (List.count_pos_iff.1 (Nat.pos_of_ne_zero hc))
   obtain ⟨n,hn1,hn2⟩:=hat hy
   rw [e1] at hn1
   exact .inr ⟨n,y,by omega,hn1,hn2,e2,.inr ⟨by omega,e3⟩⟩
theorem cut_len {s:State} {k:Nat} {f:List Run} (h:stateE s=0) (hf:CapOk f):(endB s k f).1.length+(endB s k f).2.2.length=s.Books.length:=by
 have R:=rel_is (q:=k) h hf
 have E:=end_is (q:=k) h hf
 have h1:=R.perm.length_eq
 have h2:=E.perm.length_eq
 have h3:=E.len
 rw [List.length_append] at h1 h2
 rw [List.length_map] at h2
 omega
theorem cut_none {s:State} {k:Nat} {f:List Run} (h:FitsT (setCap s.Tree k f) s.Books s.Clock.toNat):endB s k f=(s.Books,[],[]):=by
 have e:relB s k f=(s.Books,[]):=by
  unfold relB relL
  exact rel_stop (too_no h) _
 unfold endB
 rw [e]
 rfl
theorem cut_more {s:State} {k:Nat} {f:List Run} (h:stateE s=0) (hle:∀ t,t < 48→sp (cp s.Tree k) t≤sp f t):FitsT (setCap s.Tree k f) s.Books s.Clock.toNat:=by
 have h1:FitsT s.Tree s.Books s.Clock.toNat:=Classical.byContradiction fun hn=>by
  have h2:=(stateE_zero h).2
  rw [too_yes hn] at h2
  exact Bool.noConfusion h2
 intro t h2 h3 p hp
 rw [setCap_len] at hp
 have h4:=h1 t h2 h3 p hp
 unfold leftT at h4 ⊢
 rw [takenT_set,cp_set]
 by_cases hk:k=p∧k < s.Tree.length
 ·rw [if_pos hk]
  have h5:=hle t h3
  rw [hk.1] at h5
  omega
 ·rw [if_neg hk];exact h4
end Go.Proofs.YtncaoclhlfkdoaaGreat
