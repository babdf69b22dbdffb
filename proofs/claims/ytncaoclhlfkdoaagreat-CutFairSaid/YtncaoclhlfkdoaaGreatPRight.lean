/- held; right states -/
import Derived.Test.YtncaoclhlfkdoaaGreatPReqP
import Derived.Test.YtncaoclhlfkdoaaGreatPCore
import Derived.Test.YtncaoclhlfkdoaaGreatPBookA
import Derived.Deep.RegionHeld3
/- held; the laws of a found place -/
/- Places, plainly: where there is a place one is found, and none that is over sooner; no program in sight. -/
set_option linter.unusedVariables false
set_option maxRecDepth 100000
set_option maxHeartbeats 8000000
set_option linter.unusedSimpArgs false
set_option linter.unusedVariables false
namespace Go.Proofs.YtncaoclhlfkdoaaGreat
open Go.RowKit
open List renaming getElem_toArray→zA,getElem_cons_zero→zB,getElem_cons_succ→zC,setIfInBounds_toArray→zD,set_cons_zero→zE,set_cons_succ→zF
theorem bump_ok {f g:List Run} {a b n:Int} (h:bumpR f a b n=(g,0)):Fine f∧(0≤a∧a < b∧b≤48)∧Fine g∧∀ i,i < 48→sp g i=sp f i+hillT a.toNat b.toNat n i:=by
 unfold bumpR at h
 split at h
 ·rename_i hf
  split at h
  ·rename_i hr
   unfold toldT at h
   split at h
   ·rename_i hn
    have e:fold (fun t=>sp f t+hillT a.toNat b.toNat n t)=g:=(Prod.mk.inj h).1
    subst e
    exact ⟨hf,hr.1,fine_fold hn,fun i hi=>sp_fold hi⟩
   ·exact absurd (Prod.mk.inj h).2 (by decide)
  ·exact absurd (Prod.mk.inj h).2 (by decide)
 ·exact absurd (Prod.mk.inj h).2 (by decide)
theorem least_ok {g:List Run} {a b low:Int} (hg:Fine g) (hr:0≤a∧a < b∧b≤48) (h:leastR g a b=(low,0)):low=lowT (sp g) a.toNat b.toNat:=by
 unfold leastR at h
 rw [if_pos hg,if_pos hr] at h
 exact (Prod.mk.inj h).1.symm
def sumH (r:Request):List Bite→Nat→Int
 | [],_=>0
 | x::b,t=>hillT x.At.toNat (x.At+pL r x.Piece.toNat).toNat (pN r x.Piece.toNat) t+sumH r b t
theorem sumH_append (r:Request) (t:Nat):∀ b c,sumH r (b++c) t=sumH r b t+sumH r c t
 | [],c=>by simp [sumH]
 | x::b,c=>by
  have:=sumH_append r t b c
  simp only [List.cons_append,sumH];omega
theorem hillT_neg (a b:Nat) (n:Int) (t:Nat):hillT a b (-n) t=-hillT a b n t:=by unfold hillT;split <;> simp
theorem maxTo_zero (x:Nat→Int):∀ n,x 0≤maxTo x n
 | 0=>Int.le_refl _
 | n+1=>by have:=maxTo_zero x n;unfold maxTo;omega
theorem held_sum {r:Request} {t:Nat} (ht:t < 48):∀ (b:List Bite) (f:List Run),heldGo r f b=true→sumH r b t=0∨sumH r b t≤sp f t
 | [],f,_=>.inl rfl
 | z::b,f,h=>by
  rw [heldGo] at h
  split at h
  ·rename_i hc
   obtain ⟨c1,c2,c3⟩:=hc
   obtain ⟨g,hg⟩:∃ g,bumpR f z.At (z.At+pL r z.Piece.toNat) (-(pN r z.Piece.toNat))=(g,0):=⟨_,Prod.ext rfl c1⟩
   rw [hg] at c2 c3 h
   obtain ⟨low,hlow⟩:∃ low,leastR g z.At (z.At+pL r z.Piece.toNat)=(low,0):=⟨_,Prod.ext rfl c2⟩
   obtain ⟨b1,b2,b3,b4⟩:=bump_ok hg
   have hl:=least_ok b3 b2 hlow
   simp only [hlow] at c3
   have e:=b4 t ht
   rw [hillT_neg] at e
   rcases held_sum ht b g h with h0 | h0
   ·by_cases hin:z.At.toNat≤t∧t < (z.At+pL r z.Piece.toNat).toNat
    ·rw [hl,le_lowT (by omega)] at c3
     have h3:=c3 t hin.1 hin.2
     right;simp only [sumH];omega
    ·left;simp only [sumH];rw [h0,hillT_out hin];rfl
   ·right;simp only [sumH];omega
  ·cases h
theorem takesUp_sum {x:Book} (hr:ReqOk x.Req) (hin:∀ k,k < x.Bites.length→BiteIn x.Req x.Bites k) (t:Nat):∀ k,k≤x.Bites.length→takesUp x k t=sumH x.Req (x.Bites.take k) t
 | 0,_=>by simp [takesUp,sumH]
 | k+1,hk=>by
  have ih:=takesUp_sum hr hin t k (by omega)
  obtain ⟨y,hy⟩:=getA (f:=x.Bites) (k:=k) (by omega)
  obtain ⟨e1,e2⟩:=bite_at hy
  have hb:=hin k (by omega)
  obtain ⟨⟨p1,_⟩,_⟩:=(req_range hr).2 (bP x.Bites k).toNat (by have:=hb.low;have:=hb.is;omega)
  have h0:=hb.at0
  show takesUp x k t+hillT _ _ _ t=_
  rw [ih,List.take_add_one,hy,sumH_append]
  rw [e1] at p1 ⊢
  rw [e2] at h0 ⊢
  show _=_+(hillT _ _ _ t+0)
  rw [show (y.At+pL x.Req y.Piece.toNat).toNat=y.At.toNat+(pL x.Req y.Piece.toNat).toNat by omega]
  omega
theorem takes_sum {l:List Queue} {x:Book} (h:BookOk l x) (t:Nat):takesT x t=sumH x.Req x.Bites t:=by
 have:=takesUp_sum h.req (fun k hk=>(h.bites k hk).1) t x.Bites.length (Nat.le_refl _)
 rw [List.take_length] at this
 exact this
theorem minTo_below {g:Nat→Int}:∀ (ks:List Nat),∀ k∈ks,minTo g ks≤g k
 | [],k,h=>by cases h
 | j::ks,k,h=>by
  have key:∀ (ks:List Nat) (c:Int),ks.foldl (fun a k=>min a (g k)) c≤c∧∀ k∈ks,ks.foldl (fun a k=>min a (g k)) c≤g k:=by
   intro ks
   induction ks with
   | nil=>intro c;exact ⟨Int.le_refl _,fun k h=>by cases h⟩
   | cons i ks ih =>
    intro c
    obtain ⟨h1,h2⟩:=ih (min c (g i))
    simp only [List.foldl_cons]
    refine ⟨by omega,fun k h=>?_⟩
    rcases List.mem_cons.1 h with rfl | h
    ·omega
    ·exact h2 k h
  obtain ⟨h1,h2⟩:=key ks (g j)
  rcases List.mem_cons.1 h with rfl | h
  ·exact h1
  ·exact h2 k h
theorem room_below {l:List Queue} {b:List Book} {q:Int} {p t:Nat} (h:under l q p=true):roomT l b q t≤leftT l b p t :=
 minTo_below (g:=fun k=>leftT l b k t) _ p (under_mem.2 h)
theorem right_fits {s:State} (h:stateE s=0):FitsT s.Tree s.Books s.Clock.toNat:=by
 obtain ⟨_,ht0⟩:=stateE_zero h
 apply Classical.byContradiction
 intro hn
 rw [too_yes hn] at ht0
 cases ht0
theorem right_if {s:State} (h1:booksE s.Tree s.Books=0) (h2:StateIn s) (h3:idsT (-1) s.Next s.Books=true) (h4:s.Books.any (lateB s.Clock)=false) (h5:FitsT s.Tree s.Books s.Clock.toNat):stateE s=0 :=
 stateE_ok (formE_ok h1 h2 h3 h4) (too_no h5)
theorem idsT_cons {last next:Int} {x:Book} {b:List Book}:idsT last next (x::b)=true↔last < x.Id∧x.Id < next∧idsT x.Id next b=true:=by
 rw [idsT,Bool.and_eq_true,Bool.and_eq_true,decide_eq_true_iff,decide_eq_true_iff,and_assoc]
theorem idsT_low {next:Int}:∀ {b:List Book} {a c:Int},a≤c→idsT c next b=true→idsT a next b=true
 | [],_,_,_,_=>rfl
 | x::b,a,c,h,h1=>by
  obtain ⟨g1,g2,g3⟩:=idsT_cons.1 h1
  exact idsT_cons.2 ⟨by omega,g2,g3⟩
theorem idsT_sub {next:Int} {b c:List Book} (h:c.Sublist b):∀ {last:Int},idsT last next b=true→idsT last next c=true:=by
 induction h with
 | slnil=>exact fun h=>h
 | cons x _ ih =>
  intro last h1
  obtain ⟨g1,g2,g3⟩:=idsT_cons.1 h1
  exact ih (idsT_low (by omega) g3)
 | cons_cons x _ ih =>
  intro last h1
  obtain ⟨g1,g2,g3⟩:=idsT_cons.1 h1
  exact idsT_cons.2 ⟨g1,g2,ih g3⟩
theorem takenT_sub {l:List Queue} {b c:List Book} (q t:Nat) (h:c.Sublist b):(∀ x∈b,BookOk l x)→takenT l c q t≤takenT l b q t:=by
 induction h with
 | slnil=>exact fun _=>Int.le_refl _
 | cons x _ ih =>
  intro hb
  have h1:=ih (fun y hy=>hb y (List.mem_cons_of_mem _ hy))
  have h2:=book_num (hb x (List.mem_cons_self ..)) t
  simp only [takenT]
  split <;> omega
 | cons_cons x _ ih =>
  intro hb
  have h1:=ih (fun y hy=>hb y (List.mem_cons_of_mem _ hy))
  simp only [takenT]
  omega
end Go.Proofs.YtncaoclhlfkdoaaGreat
