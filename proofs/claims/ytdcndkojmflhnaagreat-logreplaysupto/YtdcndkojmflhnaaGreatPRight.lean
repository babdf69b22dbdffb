/- held; right states; each theorem names its own conditions. -/
import Derived.Test.YtdcndkojmflhnaaGreatPReqP
import Derived.Test.YtdcndkojmflhnaaGreatPCore
import Derived.Test.YtdcndkojmflhnaaGreatPBookA
import Derived.Deep.RegionHeld3
/- held; the laws of a found place -/
/- Places, plainly: where there is a place one is found, and none that is over sooner; no program in sight. -/
set_option linter.unusedVariables false
set_option maxRecDepth 100000
set_option maxHeartbeats 8000000
set_option linter.unusedSimpArgs false
set_option linter.unusedVariables false
namespace Go.Proofs.YtdcndkojmflhnaaGreat
open Go.RowKit
open List renaming getElem_toArray→zA,getElem_cons_zero→zB,getElem_cons_succ→zC,setIfInBounds_toArray→zD,set_cons_zero→zE,set_cons_succ→zF
theorem bump_ok {f g:List Run} {a b n:Int} (h:bumpR f a b n=(g,0)):Fine f∧(0≤a∧a < b∧b≤48)∧Fine g∧∀ i,i < 48→sp g i=sp f i+hillT a.toNat b.toNat n i:=by
 unfold bumpR at h
 split at h
 ·rename_i hf
  split at h
  ·rename_i hr
   unfold toldT at h
   split at h
   ·rename_i hn
    have e:fold (fun t=>sp f t+hillT a.toNat b.toNat n t)=g:=(Prod.mk.inj h).1
    subst e
    exact ⟨hf,hr.1,fine_fold hn,fun i hi=>sp_fold hi⟩
   ·exact absurd (Prod.mk.inj h).2 (by decide)
  ·exact absurd (Prod.mk.inj h).2 (by decide)
 ·exact absurd (Prod.mk.inj h).2 (by decide)
theorem least_ok {g:List Run} {a b low:Int} (hg:Fine g) (hr:0≤a∧a < b∧b≤48) (h:leastR g a b=(low,0)):low=lowT (sp g) a.toNat b.toNat:=by
 unfold leastR at h
 rw [if_pos hg,if_pos hr] at h
 exact (Prod.mk.inj h).1.symm
theorem held_room {r:Request}:∀ (b:List Bite) (f:List Run) (y:Nat→Int),(∀ i,i < 48→sp f i≤y i)→heldGo r f b=true→(∀ x∈b,1≤pN r x.Piece.toNat) →
  ∀ x∈b,∀ i,x.At.toNat≤i→i < (x.At+pL r x.Piece.toNat).toNat→pN r x.Piece.toNat≤y i
 | [],_,_,_,_,_,x,hx=>by cases hx
 | z::b,f,y,hy,h,hN,x,hx=>by
  have hz:=hN z (.head _)
  rw [heldGo] at h
  split at h
  ·rename_i hc
   obtain ⟨c1,c2,c3⟩:=hc
   obtain ⟨g,hg⟩:∃ g,bumpR f z.At (z.At+pL r z.Piece.toNat) (-(pN r z.Piece.toNat))=(g,0):=⟨_,Prod.ext rfl c1⟩
   rw [hg] at c2 c3 h
   obtain ⟨low,hlow⟩:∃ low,leastR g z.At (z.At+pL r z.Piece.toNat)=(low,0):=⟨_,Prod.ext rfl c2⟩
   obtain ⟨b1,b2,b3,b4⟩:=bump_ok hg
   have hl:=least_ok b3 b2 hlow
   simp only [hlow] at c3
   have hle:∀ i,i < 48→sp g i≤y i:=fun i hi=>by
    have h1:=hy i hi
    have h2:hillT z.At.toNat (z.At+pL r z.Piece.toNat).toNat (-(pN r z.Piece.toNat)) i=-(pN r z.Piece.toNat)∨hillT z.At.toNat (z.At+pL r z.Piece.toNat).toNat (-(pN r z.Piece.toNat)) i=0:=by unfold hillT;split <;> simp
    rw [b4 i hi];omega
   rcases List.mem_cons.1 hx with rfl | hx
   ·intro i k1 k2
    rw [hl,le_lowT (by omega)] at c3
    have h3:=c3 i k1 k2
    rw [b4 i (by omega),hillT_in k1 k2] at h3
    have h4:=hy i (by omega)
    omega
   ·exact held_room b g y hle h (fun x hx=>hN x (.tail _ hx)) x hx
  ·cases h
theorem held_hasT {r:Request} {f:List Run} {b:List Bite} (hm:meetsR r b=true) (hh:heldGo r f b=true):∀ k,k < b.length→HasT (sp f) (bA b k).toNat r.Until.toNat (pL r (bP b k).toNat).toNat (pN r (bP b k).toNat)∧r.From.toNat≤(bA b k).toNat∧(bA b k).toNat < r.Until.toNat∧0≤bA b k:=by
 have hm':=hm
 rw [meetsR_iff] at hm
 obtain ⟨h1,h2,h3⟩:=hm
 obtain ⟨⟨q1,q2,q3⟩,q4⟩:=req_range h1
 have hlow:=step_low h2
 intro k hk
 obtain ⟨x,hx⟩:=getA (f:=b) (k:=k) hk
 obtain ⟨e1,e2⟩:=bite_at hx
 have s:=h2 k hk
 have s1:=s.is
 have s2:=s.from_
 have s3:=s.until_
 have s4:=s.fits
 have s5:=hlow k hk
 obtain ⟨⟨p1,p2⟩,p3,p4⟩:=q4 (bP b k).toNat (by omega)
 have hN:∀ z∈b,1≤pN r z.Piece.toNat:=fun z hz=>by
  obtain ⟨j,hj,rfl⟩:=List.mem_iff_getElem.1 hz
  have e3:=(bite_at (List.getElem?_eq_getElem hj)).1
  have s6:=(h2 j hj).is
  have s7:=hlow j hj
  rw [← e3]
  exact (q4 (bP b j).toNat (by omega)).2.1
 have h5:=held_room b f (sp f) (fun _ _=>Int.le_refl _) hh hN x (List.mem_of_getElem? hx)
 rw [← e1,← e2] at h5
 refine ⟨⟨by omega,fun i k1 k2=>h5 i k1 (by omega)⟩,by omega,by omega,by omega⟩
def sumH (r:Request):List Bite→Nat→Int
 | [],_=>0
 | x::b,t=>hillT x.At.toNat (x.At+pL r x.Piece.toNat).toNat (pN r x.Piece.toNat) t+sumH r b t
theorem sumH_append (r:Request) (t:Nat):∀ b c,sumH r (b++c) t=sumH r b t+sumH r c t
 | [],c=>by simp [sumH]
 | x::b,c=>by
  have:=sumH_append r t b c
  simp only [List.cons_append,sumH];omega
theorem hillT_neg (a b:Nat) (n:Int) (t:Nat):hillT a b (-n) t=-hillT a b n t:=by unfold hillT;split <;> simp
theorem maxTo_zero (x:Nat→Int):∀ n,x 0≤maxTo x n
 | 0=>Int.le_refl _
 | n+1=>by have:=maxTo_zero x n;unfold maxTo;omega
theorem held_sum {r:Request} {t:Nat} (ht:t < 48):∀ (b:List Bite) (f:List Run),heldGo r f b=true→sumH r b t=0∨sumH r b t≤sp f t
 | [],f,_=>.inl rfl
 | z::b,f,h=>by
  rw [heldGo] at h
  split at h
  ·rename_i hc
   obtain ⟨c1,c2,c3⟩:=hc
   obtain ⟨g,hg⟩:∃ g,bumpR f z.At (z.At+pL r z.Piece.toNat) (-(pN r z.Piece.toNat))=(g,0):=⟨_,Prod.ext rfl c1⟩
   rw [hg] at c2 c3 h
   obtain ⟨low,hlow⟩:∃ low,leastR g z.At (z.At+pL r z.Piece.toNat)=(low,0):=⟨_,Prod.ext rfl c2⟩
   obtain ⟨b1,b2,b3,b4⟩:=bump_ok hg
   have hl:=least_ok b3 b2 hlow
   simp only [hlow] at c3
   have e:=b4 t ht
   rw [hillT_neg] at e
   rcases held_sum ht b g h with h0 | h0
   ·by_cases hin:z.At.toNat≤t∧t < (z.At+pL r z.Piece.toNat).toNat
    ·rw [hl,le_lowT (by omega)] at c3
     have h3:=c3 t hin.1 hin.2
     right;simp only [sumH];omega
    ·left;simp only [sumH];rw [h0,hillT_out hin];rfl
   ·right;simp only [sumH];omega
  ·cases h
theorem takesUp_sum {x:Book} (hr:ReqOk x.Req) (hin:∀ k,k < x.Bites.length→BiteIn x.Req x.Bites k) (t:Nat):∀ k,k≤x.Bites.length→takesUp x k t=sumH x.Req (x.Bites.take k) t
 | 0,_=>by simp [takesUp,sumH]
 | k+1,hk=>by
  have ih:=takesUp_sum hr hin t k (by omega)
  obtain ⟨y,hy⟩:=getA (f:=x.Bites) (k:=k) (by omega)
  obtain ⟨e1,e2⟩:=bite_at hy
  have hb:=hin k (by omega)
  obtain ⟨⟨p1,_⟩,_⟩:=(req_range hr).2 (bP x.Bites k).toNat (by have:=hb.low;have:=hb.is;omega)
  have h0:=hb.at0
  show takesUp x k t+hillT _ _ _ t=_
  rw [ih,List.take_add_one,hy,sumH_append]
  rw [e1] at p1 ⊢
  rw [e2] at h0 ⊢
  show _=_+(hillT _ _ _ t+0)
  rw [show (y.At+pL x.Req y.Piece.toNat).toNat=y.At.toNat+(pL x.Req y.Piece.toNat).toNat by omega]
  omega
theorem takes_sum {l:List Queue} {x:Book} (h:BookOk l x) (t:Nat):takesT x t=sumH x.Req x.Bites t:=by
 have:=takesUp_sum h.req (fun k hk=>(h.bites k hk).1) t x.Bites.length (Nat.le_refl _)
 rw [List.take_length] at this
 exact this
theorem minTo_below {g:Nat→Int}:∀ (ks:List Nat),∀ k∈ks,minTo g ks≤g k
 | [],k,h=>by cases h
 | j::ks,k,h=>by
  have key:∀ (ks:List Nat) (c:Int),ks.foldl (fun a k=>min a (g k)) c≤c∧∀ k∈ks,ks.foldl (fun a k=>min a (g k)) c≤g k:=by
   intro ks
   induction ks with
   | nil=>intro c;exact ⟨Int.le_refl _,fun k h=>by cases h⟩
   | cons i ks ih =>
    intro c
    obtain ⟨h1,h2⟩:=ih (min c (g i))
    simp only [List.foldl_cons]
    refine ⟨by omega,fun k h=>?_⟩
    rcases List.mem_cons.1 h with rfl | h
    ·omega
    ·exact h2 k h
  obtain ⟨h1,h2⟩:=key ks (g j)
  rcases List.mem_cons.1 h with rfl | h
  ·exact h1
  ·exact h2 k h
theorem room_below {l:List Queue} {b:List Book} {q:Int} {p t:Nat} (h:under l q p=true):roomT l b q t≤leftT l b p t :=
 minTo_below (g:=fun k=>leftT l b k t) _ p (under_mem.2 h)
theorem right_fits {s:State} (h:stateE s=0):FitsT s.Tree s.Books s.Clock.toNat:=by
 obtain ⟨_,ht0⟩:=stateE_zero h
 apply Classical.byContradiction
 intro hn
 rw [too_yes hn] at ht0
 cases ht0
theorem right_if {s:State} (h1:booksE s.Tree s.Books=0) (h2:StateIn s) (h3:idsT (-1) s.Next s.Books=true) (h4:s.Books.any (lateB s.Clock)=false) (h5:FitsT s.Tree s.Books s.Clock.toNat):stateE s=0 :=
 stateE_ok (formE_ok h1 h2 h3 h4) (too_no h5)
theorem idsT_cons {last next:Int} {x:Book} {b:List Book}:idsT last next (x::b)=true↔last < x.Id∧x.Id < next∧idsT x.Id next b=true:=by
 rw [idsT,Bool.and_eq_true,Bool.and_eq_true,decide_eq_true_iff,decide_eq_true_iff,and_assoc]
theorem idsT_low {next:Int}:∀ {b:List Book} {a c:Int},a≤c→idsT c next b=true→idsT a next b=true
 | [],_,_,_,_=>rfl
 | x::b,a,c,h,h1=>by
  obtain ⟨g1,g2,g3⟩:=idsT_cons.1 h1
  exact idsT_cons.2 ⟨by omega,g2,g3⟩
theorem idsT_sub {next:Int} {b c:List Book} (h:c.Sublist b):∀ {last:Int},idsT last next b=true→idsT last next c=true:=by
 induction h with
 | slnil=>exact fun h=>h
 | cons x _ ih =>
  intro last h1
  obtain ⟨g1,g2,g3⟩:=idsT_cons.1 h1
  exact ih (idsT_low (by omega) g3)
 | cons_cons x _ ih =>
  intro last h1
  obtain ⟨g1,g2,g3⟩:=idsT_cons.1 h1
  exact idsT_cons.2 ⟨g1,g2,ih g3⟩
theorem idsT_snoc {m:Int} {x:Book} (hx:x.Id=m):∀ {b:List Book} {last:Int},last < m→idsT last m b=true→idsT last (m+1) (b++[x])=true
 | [],last,h,_=>idsT_cons.2 ⟨by omega,by omega,rfl⟩
 | y::b,last,h,h1=>by
  obtain ⟨g1,g2,g3⟩:=idsT_cons.1 h1
  exact idsT_cons.2 ⟨g1,by omega,idsT_snoc hx g2 g3⟩
theorem takenT_sub {l:List Queue} {b c:List Book} (q t:Nat) (h:c.Sublist b):(∀ x∈b,BookOk l x)→takenT l c q t≤takenT l b q t:=by
 induction h with
 | slnil=>exact fun _=>Int.le_refl _
 | cons x _ ih =>
  intro hb
  have h1:=ih (fun y hy=>hb y (List.mem_cons_of_mem _ hy))
  have h2:=book_num (hb x (List.mem_cons_self ..)) t
  simp only [takenT]
  split <;> omega
 | cons_cons x _ ih =>
  intro hb
  have h1:=ih (fun y hy=>hb y (List.mem_cons_of_mem _ hy))
  simp only [takenT]
  omega
theorem right_sub {s:State} (h:stateE s=0) {b:List Book} {c:Int} (hb:b.Sublist s.Books) (hc:s.Clock≤c) (h48:c≤48) (hl:b.any (lateB c)=false):stateE ⟨c,s.Next,s.Tree,b⟩=0:=by
 obtain ⟨hf,_⟩:=stateE_zero h
 obtain ⟨h1,⟨k1,k2,k3,k4⟩,h3,_⟩:=formE_zero hf
 obtain ⟨_,_,h12,hbok⟩:=booksE_zero h1
 have hlen:=hb.length_le
 have h5:=right_fits h
 refine right_if (booksE_sub h1 (fun x hx=>hb.subset hx) (by show b.length≤12;omega)) ⟨by show 0≤c;omega,h48,k3,k4⟩ (idsT_sub hb h3) hl (fun t ht ht48 p hp=>?_)
 have g1:=h5 t (by have:c.toNat≤t:=ht;omega) ht48 p hp
 have g2:=takenT_sub (l:=s.Tree) p t hb hbok
 show 0≤leftT s.Tree b p t
 unfold leftT at g1 ⊢
 omega
theorem right_more {s:State} (h:stateE s=0) {r:Request} {b:List Bite} (hq:reqE s.Tree r=0) (hm:meetsR r b=true) (hh:heldGo r (fold (roomT s.Tree s.Books r.Queue)) b=true) (hfrom:¬ r.From < s.Clock)
  (h12:s.Books.length < 12) (hn:s.Next < 1048576):stateE (moreS s r b)=0:=by
 obtain ⟨hf,_⟩:=stateE_zero h
 obtain ⟨h1,⟨k1,k2,k3,k4⟩,h3,h4⟩:=formE_zero hf
 obtain ⟨_,h0,_,hbok⟩:=booksE_zero h1
 obtain ⟨_,hro,q0,q1⟩:=reqE_zero hq
 have hok:BookOk s.Tree ⟨s.Next,r,b⟩:=⟨q0,q1,hm⟩
 have h5:=right_fits h
 have hb1:booksE s.Tree (s.Books++[⟨s.Next,r,b⟩])=0:=by
  rw [booksE_first h0 (by omega)] at h1
  rw [booksE_first h0 (by simp;omega)]
  refine firstE_all.2 fun x hx=>?_
  rcases List.mem_append.1 hx with hx | hx
  ·exact firstE_all.1 h1 x hx
  ·rw [List.mem_singleton.1 hx];exact ⟨hq,hm⟩
 refine right_if hb1 ⟨k1,k2,by show 0≤s.Next+1;omega,by show s.Next+1≤1048576;omega⟩ (idsT_snoc (last:=-1) (m:=s.Next) rfl (by omega) h3) ?_ (fun t ht ht48 p hp=>?_)
 ·show (s.Books++[(⟨s.Next,r,b⟩:Book)]).any (lateB s.Clock)=false
  rw [List.any_append,h4]
  show (lateB s.Clock ⟨s.Next,r,b⟩ || false)=false
  rw [late_is hok,Bool.or_false]
  refine decide_eq_false ?_
  have hmany:1≤b.length:=hok.many.1
  have hT:=held_hasT hm hh 0 hmany
  obtain ⟨_,t2,_,t4⟩:=hT
  have hb0:BiteIn r b 0:=(hok.bites 0 hmany).1
  obtain ⟨⟨p1,_⟩,_⟩:=(req_range hro).2 (bP b 0).toNat (by have:=hb0.low;have:=hb0.is;omega)
  have hge:overA r b 0≤maxTo (overA r b) (b.length - 1):=maxTo_zero _ _
  have e:overA r b 0=bA b 0+pL r (bP b 0).toNat:=rfl
  have hf0:=hro.range.1.1
  show ¬ maxTo (overA r b) (b.length - 1)≤s.Clock
  omega
 ·show 0≤leftT s.Tree (s.Books++[⟨s.Next,r,b⟩]) p t
  have g1:0≤leftT s.Tree s.Books p t:=h5 t ht ht48 p hp
  have e:leftT s.Tree (s.Books++[⟨s.Next,r,b⟩]) p t=leftT s.Tree s.Books p t - (if under s.Tree r.Queue p=true then takesT ⟨s.Next,r,b⟩ t else 0):=by
   unfold leftT
   rw [takenT_append]
   simp only [takenT]
   omega
  rw [e]
  by_cases hu:under s.Tree r.Queue p=true
  ·rw [if_pos hu,takes_sum hok t]
   have g2:=room_below (b:=s.Books) (t:=t) hu
   have g3:=held_sum ht48 b _ hh
   rw [sp_fold ht48] at g3
   show 0≤leftT s.Tree s.Books p t - sumH r b t
   omega
  ·rw [if_neg hu];omega
theorem submitR_zero {s X:State} {r:Request} {n:Int} (h:submitR s r=(X,n,0)):mayE s r=0∧s.Books.length < 12∧s.Next < 1048576∧placeL (plotT s r) r≠[]∧X=moreS s r (placeL (plotT s r) r)∧n=s.Next:=by
 by_cases h0:mayE s r=0
 ·by_cases h1:s.Books.length=12∨s.Next=1048576
  ·rw [submitR_many h0 h1] at h
   exact absurd (show (2:Int)=0 from congrArg (fun p=>p.2.2) h) (by decide)
  ·by_cases h2:placeL (plotT s r) r=[]
   ·rw [submitR_full h0 h1 h2] at h
    exact absurd (show (8:Int)=0 from congrArg (fun p=>p.2.2) h) (by decide)
   ·rw [submitR_ok h0 h1 h2] at h
    obtain ⟨g0,_⟩:=mayE_zero h0
    obtain ⟨hf,_⟩:=stateE_zero g0
    obtain ⟨hb,⟨_,_,_,k4⟩,_,_⟩:=formE_zero hf
    have h12:=(booksE_zero hb).2.2.1
    have g1:¬ s.Books.length=12:=fun h=>h1 (.inl h)
    have g2:¬ s.Next=1048576:=fun h=>h1 (.inr h)
    exact ⟨h0,by omega,by omega,h2,(congrArg (fun p=>p.1) h).symm,(congrArg (fun p=>p.2.1) h).symm⟩
 ·rw [submitR_bad h0] at h
  exact absurd (show mayE s r=0 from congrArg (fun p=>p.2.2) h) h0
theorem submit_right {s X:State} {r:Request} {n:Int} (h:submitR s r=(X,n,0)):stateE X=0∧stateE s=0∧meetsR r (placeL (plotT s r) r)=true:=by
 obtain ⟨h0,h1,h2,h3,h4,h5⟩:=submitR_zero h
 obtain ⟨g0,g1,g2⟩:=mayE_zero h0
 obtain ⟨m1,m2,m3,m4,m5,m6⟩:=may_of h0
 have hm:=found_meets m2 h3
 refine ⟨?_,g0,hm⟩
 rw [h4]
 exact right_more g0 g1 hm (found_held m5 m2 h3) g2 h1 h2
end Go.Proofs.YtdcndkojmflhnaaGreat
