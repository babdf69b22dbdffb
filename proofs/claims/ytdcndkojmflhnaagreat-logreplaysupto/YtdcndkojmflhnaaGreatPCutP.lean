/- What cut does, plainly: who gives way, and where it is moved to; what comes is right; each theorem names its own conditions. -/
import Derived.Test.YtdcndkojmflhnaaGreatPRight
import Derived.Test.YtdcndkojmflhnaaGreatPRoomTrue
import Derived.Test.YtdcndkojmflhnaaGreatPAsk
set_option linter.unusedVariables false
set_option maxRecDepth 100000
set_option maxHeartbeats 8000000
set_option linter.unusedSimpArgs false
set_option linter.unusedVariables false
namespace Go.Proofs.YtdcndkojmflhnaaGreat
open Go.RowKit
open List renaming getElem_toArray→zA,getElem_cons_zero→zB,getElem_cons_succ→zC,setIfInBounds_toArray→zD,set_cons_zero→zE,set_cons_succ→zF
theorem getD_set {α:Type} [Inhabited α] (l:List α) (q k:Nat) (x:α):(l.set q x).getD k default=if q=k∧q < l.length then x else l.getD k default:=by
 simp only [List.getD_eq_getElem?_getD,List.getElem?_set]
 by_cases h:q=k
 ·subst h
  by_cases h2:q < l.length
  ·rw [if_pos rfl,if_pos h2,if_pos ⟨rfl,h2⟩];rfl
  ·rw [if_pos rfl,if_neg h2,if_neg (fun h=>h2 h.2),List.getElem?_eq_none (by omega)]
 ·rw [if_neg h,if_neg (fun h'=>h h'.1)]
def setCap (l:List Queue) (q:Nat) (f:List Run):List Queue:=l.set q ⟨nm l q,par l q,f⟩
theorem setCap_len (l:List Queue) (q:Nat) (f:List Run):(setCap l q f).length=l.length:=by simp [setCap]
theorem nm_set (l:List Queue) (q:Nat) (f:List Run) (k:Nat):nm (setCap l q f) k=nm l k:=by
 show ((l.set q _).getD k default).Name=_
 rw [getD_set]
 split
 ·rename_i h;rw [← h.1]
 ·rfl
theorem par_set (l:List Queue) (q:Nat) (f:List Run) (k:Nat):par (setCap l q f) k=par l k:=by
 show ((l.set q _).getD k default).Parent=_
 rw [getD_set]
 split
 ·rename_i h;rw [← h.1]
 ·rfl
theorem cp_set (l:List Queue) (q:Nat) (f:List Run) (k:Nat):cp (setCap l q f) k=if q=k∧q < l.length then f else cp l k:=by
 show ((l.set q _).getD k default).Cap=_
 rw [getD_set]
 split
 ·rfl
 ·rfl
theorem bookOk_set {l:List Queue} {q:Nat} {f:List Run} {x:Book}:BookOk (setCap l q f) x↔BookOk l x :=
 ⟨fun h=>⟨h.q0,by have:=h.q1;rwa [setCap_len] at this,h.meets⟩,fun h=>⟨h.q0,by rw [setCap_len];exact h.q1,h.meets⟩⟩
theorem cntQ_set (l:List Queue) (q:Nat) (f:List Run) (s:ByteArray):∀ k,cntQ (setCap l q f) k s=cntQ l k s
 | 0=>rfl
 | k+1=>by
  have h:cntQ (setCap l q f) k=cntQ l k:=funext fun s=>cntQ_set l q f s k
  simp only [cntQ,nm_set,h]
theorem checkT_set {l:List Queue} {q:Nat} {f:List Run} (h:checkT l=0) (hf:CapOk f):checkT (setCap l q f)=0:=by
 have ok:=checkT_ok h
 unfold checkT at h ⊢
 have e2:p2 (setCap l q f)=p2 l:=funext fun k=>by unfold p2;rw [nm_set]
 have e3:p3 (setCap l q f)=p3 l:=funext fun k=>by unfold p3;rw [nm_set,cntQ_set]
 have e4:p4 (setCap l q f)=p4 l:=funext fun k=>by unfold p4;rw [par_set]
 have e5:(List.range l.length).any (p5 (setCap l q f))=false:=by
  rw [List.any_eq_false]
  intro k hk
  have hk:=List.mem_range.1 hk
  unfold p5
  rw [cp_set]
  split
  ·simpa using hf
  ·simpa using ok.caps k hk
 rw [setCap_len,e2,e3,e4,e5]
 split at h
 ·cases h
 ·rename_i h1
  rw [if_neg h1]
  split at h
  ·cases h
  ·rename_i h2
   rw [if_neg h2]
   split at h
   ·cases h
   ·rename_i h3
    rw [if_neg h3]
    split at h
    ·cases h
    ·rename_i h4
     rw [if_neg h4]
     rfl
theorem treeOk_set {l:List Queue} {q:Nat} {f:List Run} (h:checkT l=0) (hf:CapOk f):TreeOk (setCap l q f):=checkT_ok (checkT_set h hf)
def lastK (p:Nat→Bool):Nat→Nat
 | 0=>0
 | k+1=>if p k=true then k else lastK p k
theorem lastK_lt (p:Nat→Bool):∀ n,0 < n→lastK p n < n
 | k+1,_=>by
  simp only [lastK]
  split
  ·omega
  ·rcases Nat.eq_zero_or_pos k with rfl | h
   ·exact Nat.zero_lt_one
   ·have:=lastK_lt p k h;omega
theorem lastK_is {p:Nat→Bool}:∀ {n k:Nat},k < n→p k=true→p (lastK p n)=true
 | n+1,k,hk,h=>by
  simp only [lastK]
  split
  ·assumption
  ·rename_i hn
   have:k≠n:=fun e=>hn (e▸h)
   exact lastK_is (n:=n) (k:=k) (by omega) h
theorem lastK_cut {p:Nat→Bool}:∀ {n m:Nat},m≤n→(∀ j,m≤j→j < n→p j=false)→lastK p n=lastK p m
 | 0,m,h,_=>by
           have:m=0:=by omega
           rw [this]
 | n+1,m,h,hp=>by
  rcases Nat.lt_or_ge n m with h1 | h1
  ·have:m=n+1:=by omega
   rw [this]
  ·simp only [lastK]
   rw [if_neg (by rw [hp n h1 (Nat.lt_succ_self n)];exact Bool.false_ne_true)]
   exact lastK_cut h1 fun j h2 h3=>hp j h2 (by omega)
noncomputable def hitB (l:List Queue) (t q:Nat) (x:Book):Bool:=under l x.Req.Queue (q:Int) && decide (0 < takesT x t)
noncomputable def hitK (l:List Queue) (b:List Book) (t q k:Nat):Bool:=hitB l t q (b.getD k default)
noncomputable def vicK (l:List Queue) (b:List Book) (t q:Nat):Nat:=lastK (hitK l b t q) b.length
theorem hitK_some {l:List Queue} {b:List Book} {t q k:Nat} {x:Book} (h:b[k]?=some x):hitK l b t q k=hitB l t q x:=by
 unfold hitK;rw [List.getD_eq_getElem?_getD,h];rfl
theorem taken_hit {l:List Queue} {q t:Nat}:∀ {b:List Book},(∀ x∈b,BookOk l x)→0 < takenT l b q t→∃ (k:Nat) (x:Book),b[k]?=some x∧hitB l t q x=true
 | [],_,h=>by simp [takenT] at h
 | x::b,hb,h=>by
  by_cases hx:hitB l t q x=true
  ·exact ⟨0,x,rfl,hx⟩
  ·have h1:(if under l x.Req.Queue q=true then takesT x t else 0)≤0:=by
    split
    ·rename_i hu
     unfold hitB at hx
     rw [hu,Bool.true_and,decide_eq_true_iff] at hx
     omega
    ·exact Int.le_refl _
   simp only [takenT] at h
   obtain ⟨k,y,hk,hy⟩:=taken_hit (fun y hy=>hb y (List.mem_cons_of_mem _ hy)) (by omega:0 < takenT l b q t)
   exact ⟨k+1,y,by simpa using hk,hy⟩
theorem over_hit {l:List Queue} {b:List Book} {f t q:Nat} (ok:TreeOk l) (hb:∀ x∈b,BookOk l x) (h:OverIs l b f t q):∃ x,b[vicK l b t q]?=some x∧hitB l t q x=true:=by
 obtain ⟨_,_,hq,hl,_,_⟩:=h
 have hc:=cap_num ok hq t
 unfold leftT at hl
 obtain ⟨k,x,hk,hx⟩:=taken_hit hb (by omega:0 < takenT l b q t)
 have hkl:=(List.getElem?_eq_some_iff.1 hk).1
 have h1:hitK l b t q (vicK l b t q)=true:=lastK_is hkl (by rw [hitK_some hk];exact hx)
 obtain ⟨y,hy⟩:=getA (f:=b) (k:=vicK l b t q) (lastK_lt _ _ (by omega))
 exact ⟨y,hy,by rw [← hitK_some hy];exact h1⟩
noncomputable def relG (l:List Queue) (c:Nat):Nat→List Book→List Book→List Book × List Book
 | 0,b,a=>(b,a)
 | n+1,b,a=>if (tooR l b c).2.2=true then relG l c n (b.eraseIdx (vicK l b (tooR l b c).1.toNat (tooR l b c).2.1.toNat)) (a++[b.getD (vicK l b (tooR l b c).1.toNat (tooR l b c).2.1.toNat) default]) else (b,a)
noncomputable def relL (l:List Queue) (c:Nat) (b:List Book):List Book × List Book:=relG l c b.length b []
theorem rel_stop {l:List Queue} {c:Nat} {b a:List Book} (h:(tooR l b c).2.2=false):∀ n,relG l c n b a=(b,a)
 | 0=>rfl
 | n+1=>by rw [relG,if_neg (by rw [h];exact Bool.false_ne_true)]
theorem rel_step {l:List Queue} {c t q:Nat} {b a:List Book} {x:Book} (h:OverIs l b c t q) (hx:b[vicK l b t q]?=some x):relG l c b.length b a=relG l c (b.eraseIdx (vicK l b t q)).length (b.eraseIdx (vicK l b t q)) (a++[x]):=by
 have hk:=(List.getElem?_eq_some_iff.1 hx).1
 obtain ⟨n,hn⟩:∃ n,b.length=n+1:=⟨b.length - 1,by omega⟩
 have hl:(b.eraseIdx (vicK l b t q)).length=n:=by rw [List.length_eraseIdx_of_lt hk];omega
 rw [hl,hn,relG,tooR_is h,if_pos rfl]
 simp only [Int.toNat_natCast]
 rw [List.getD_eq_getElem?_getD,hx]
 rfl
def FairX (l:List Queue) (b:List Book) (c:Nat) (x:Book):Prop:=∃ t q,c≤t∧t < 48∧q < l.length∧leftT l b q t < 0∧hitB l t q x=true
theorem perm_erase {α:Type}:∀ {b:List α} {k:Nat} {x:α},b[k]?=some x→(x::b.eraseIdx k).Perm b
 | y::b,0,x,h=>by
  have:y=x:=by simpa using h
  rw [this];exact List.Perm.refl _
 | y::b,k+1,x,h=>by
  rw [List.eraseIdx_cons_succ]
  exact (List.Perm.swap ..).trans (List.Perm.cons _ (perm_erase (by simpa using h)))
theorem perm_move {α:Type} {b a:List α} {k:Nat} {x:α} (h:b[k]?=some x):(b.eraseIdx k++(a++[x])).Perm (b++a):=by
 have h1:(b.eraseIdx k++(a++[x])).Perm (x::(b.eraseIdx k++a)):=by
  rw [← List.append_assoc]
  exact List.perm_append_comm
 exact h1.trans (by
  have:=List.Perm.append_right a (perm_erase h)
  simpa using this)
theorem left_sub {l:List Queue} {b c:List Book} (q t:Nat) (h:c.Sublist b) (hb:∀ x∈b,BookOk l x):leftT l b q t≤leftT l c q t:=by
 have:=takenT_sub (l:=l) q t h hb
 unfold leftT
 omega
theorem rel_all {l:List Queue} {c:Nat} (ok:TreeOk l):∀ (n:Nat) (b a:List Book),b.length=n→(∀ x∈b,BookOk l x) →
  FitsT l (relG l c n b a).1 c∧(relG l c n b a).1.Sublist b∧((relG l c n b a).1++(relG l c n b a).2).Perm (b++a)∧∀ x∈(relG l c n b a).2,x∈a∨FairX l b c x:=by
 intro n
 induction n with
 | zero =>
  intro b a hn hb
  have h0:b=[]:=List.eq_nil_of_length_eq_zero hn
  subst h0
  refine ⟨fun t h1 h2 p hp=>?_,List.Sublist.refl _,List.Perm.refl _,fun x hx=>.inl hx⟩
  have:=cap_num ok hp t
  show 0≤leftT l [] p t
  unfold leftT
  simp only [takenT]
  omega
 | succ n ih =>
  intro b a hn hb
  by_cases hf:FitsT l b c
  ·rw [rel_stop (too_no hf)]
   exact ⟨hf,List.Sublist.refl _,List.Perm.refl _,fun x hx=>.inl hx⟩
  ·obtain ⟨t,q,ho⟩:=over_some hf
   obtain ⟨x,hx,hh⟩:=over_hit ok hb ho
   have hk:=(List.getElem?_eq_some_iff.1 hx).1
   have hl:(b.eraseIdx (vicK l b t q)).length=n:=by rw [List.length_eraseIdx_of_lt hk];omega
   have hs:=rel_step (a:=a) ho hx
   rw [hn,hl] at hs
   rw [hs]
   have hsub:(b.eraseIdx (vicK l b t q)).Sublist b:=List.eraseIdx_sublist ..
   obtain ⟨g1,g2,g3,g4⟩:=ih (b.eraseIdx (vicK l b t q)) (a++[x]) hl (fun y hy=>hb y (hsub.subset hy))
   refine ⟨g1,g2.trans hsub,g3.trans (perm_move hx),fun y hy=>?_⟩
   obtain ⟨o1,o2,o3,o4,_⟩:=ho
   rcases g4 y hy with h | ⟨t',q',h1,h2,h3,h4,h5⟩
   ·rcases List.mem_append.1 h with h | h
    ·exact .inl h
    ·rw [List.mem_singleton.1 h]
     exact .inr ⟨t,q,o1,o2,o3,o4,hh⟩
   ·exact .inr ⟨t',q',h1,h2,h3,by have:=left_sub q' t' hsub hb;omega,h5⟩
def insB (x:Book):List Book→List Book
 | []=>[x]
 | y::b=>if y.Id < x.Id then y::insB x b else x::y::b
def sortB (a:List Book):List Book:=a.foldl (fun s x=>insB x s) []
theorem insB_perm (x:Book):∀ b,(insB x b).Perm (x::b)
 | []=>List.Perm.refl _
 | y::b=>by
  simp only [insB]
  split
  ·exact (List.Perm.cons _ (insB_perm x b)).trans (List.Perm.swap ..)
  ·exact List.Perm.refl _
theorem fold_perm:∀ (a s:List Book),(a.foldl (fun s x=>insB x s) s).Perm (s++a)
 | [],s=>by rw [List.append_nil];exact List.Perm.refl _
 | x::a,s=>by
  refine (fold_perm a (insB x s)).trans ?_
  refine (List.Perm.append_right a (insB_perm x s)).trans ?_
  show ((x::s)++a).Perm _
  exact List.perm_middle.symm
theorem sortB_perm (a:List Book):(sortB a).Perm a:=by
 have:=fold_perm a []
 rwa [List.nil_append] at this
abbrev Rising (b:List Book):Prop:=b.Pairwise (fun x y=>x.Id < y.Id)
theorem insB_rising {x:Book}:∀ {b:List Book},Rising b→(∀ y∈b,y.Id≠x.Id)→Rising (insB x b)
 | [],_,_=>List.pairwise_singleton _ _
 | y::b,h,hn=>by
  simp only [insB]
  obtain ⟨h1,h2⟩:=List.pairwise_cons.1 h
  split
  ·rename_i hl
   refine List.pairwise_cons.2 ⟨fun z hz=>?_,insB_rising h2 fun z hz=>hn z (List.mem_cons_of_mem _ hz)⟩
   rcases List.mem_cons.1 ((insB_perm x b).subset hz) with rfl | hz
   ·exact hl
   ·exact h1 z hz
  ·rename_i hl
   have h3:=hn y (List.mem_cons_self ..)
   refine List.pairwise_cons.2 ⟨fun z hz=>?_,h⟩
   rcases List.mem_cons.1 hz with rfl | hz
   ·omega
   ·have:=h1 z hz;omega
theorem sorted_eq:∀ {a b:List Book},Rising a→Rising b→a.Perm b→a=b
 | [],b,_,_,h=>(List.Perm.nil_eq h)
 | x::a,[],_,_,h=>by have:=h.length_eq;simp at this
 | x::a,y::b,h1,h2,h=>by
  obtain ⟨g1,g2⟩:=List.pairwise_cons.1 h1
  obtain ⟨k1,k2⟩:=List.pairwise_cons.1 h2
  have e:x=y:=by
   rcases List.mem_cons.1 (h.subset (List.mem_cons_self ..)) with e | hx
   ·exact e
   ·rcases List.mem_cons.1 (h.symm.subset (List.mem_cons_self ..)) with e | hy
    ·exact e.symm
    ·have:=k1 x hx
     have:=g1 y hy
     omega
  subst e
  rw [sorted_eq g2 k2 ((List.perm_cons _).1 h)]
theorem fold_rising:∀ (a s:List Book),Rising s→(s++a).Pairwise (fun x y=>x.Id≠y.Id)→Rising (a.foldl (fun s x=>insB x s) s)
 | [],s,h,_=>h
 | x::a,s,h,hd=>by
  have h1:((x::s)++a).Pairwise (fun x y:Book=>x.Id≠y.Id):=(List.Perm.pairwise_iff (fun h e=>h e.symm) List.perm_middle).1 hd
  have h2:(insB x s++a).Pairwise (fun x y:Book=>x.Id≠y.Id):=(List.Perm.pairwise_iff (fun h e=>h e.symm) (List.Perm.append_right a (insB_perm x s))).2 h1
  refine fold_rising a _ (insB_rising h fun y hy=>?_) h2
  have h3:=(List.pairwise_cons.1 (show (x::(s++a)).Pairwise (fun x y:Book=>x.Id≠y.Id) from h1)).1 y (List.mem_append_left _ hy)
  exact fun e=>h3 e.symm
theorem sortB_rising {a:List Book} (h:a.Pairwise (fun x y=>x.Id≠y.Id)):Rising (sortB a):=fold_rising a [] List.Pairwise.nil (by simpa using h)
theorem idsT_iff {next:Int}:∀ {b:List Book} {last:Int},idsT last next b=true↔(∀ x∈b,last < x.Id∧x.Id < next)∧Rising b
 | [],last=>⟨fun _=>⟨fun x hx=>(by cases hx),List.Pairwise.nil⟩,fun _=>rfl⟩
 | x::b,last=>by
  rw [idsT_cons,idsT_iff,show Rising (x::b)↔(∀ y∈b,x.Id < y.Id)∧Rising b from List.pairwise_cons]
  constructor
  ·rintro ⟨h1,h2,h3,h4⟩
   refine ⟨fun y hy=>?_,fun y hy=>(h3 y hy).1,h4⟩
   rcases List.mem_cons.1 hy with rfl | hy
   ·exact ⟨h1,h2⟩
   ·have:=h3 y hy;omega
  ·rintro ⟨h1,h2,h3⟩
   exact ⟨(h1 x (List.mem_cons_self ..)).1,(h1 x (List.mem_cons_self ..)).2,fun y hy=>⟨h2 y hy,(h1 y (List.mem_cons_of_mem _ hy)).2⟩,h3⟩
theorem insB_at {x:Book}:∀ {b:List Book} {i:Nat},InB b x.Id i→insB x b=b.take i++x::b.drop i
 | [],i,h=>by simp [insB]
 | y::b,i,⟨h0,h1,h2⟩=>by
  simp only [insB]
  cases i with
  | zero =>
   have:=h2 0 (Nat.le_refl _) (by simp)
   rw [idAt_some (x:=y) (by simp)] at this
   rw [if_neg (by omega)]
   rfl
  | succ i =>
   have:=h1 0 (by omega)
   rw [idAt_some (x:=y) (by simp)] at this
   rw [if_pos this,insB_at (i:=i) ⟨by simpa using h0,fun j hj=>?_,fun j hj hl=>?_⟩]
   ·rfl
   ·have:=h1 (j+1) (by omega)
    simpa [idAt] using this
   ·have:=h2 (j+1) (by omega) (by simpa using hl)
    simpa [idAt] using this
def laterQ (x:Request) (c:Int):Request:=⟨x.Queue,max x.From c,x.Until,x.Kind,x.Pieces⟩
noncomputable def placedB (l:List Queue) (c:Int) (b:List Book) (x:Book):List Bite:=placeL (sp (fold (roomT l b x.Req.Queue))) (laterQ x.Req c)
def begunB (c:Int) (x:Book):Bool:=x.Bites.any fun y=>decide (y.At < c)
noncomputable def goneB (l:List Queue) (c:Int) (b:List Book) (x:Book):Bool:=begunB c x || decide (x.Req.Until≤max x.Req.From c) || decide (placedB l c b x=[])
noncomputable def backB (l:List Queue) (c:Int) (b:List Book) (x:Book):List Book:=insB ⟨x.Id,x.Req,placedB l c b x⟩ b
noncomputable def backsR (l:List Queue) (c:Int):List Book→List Book→List Int→List Int→List Book × List Int × List Int
 | [],b,m,d=>(b,m,d)
 | x::a,b,m,d=>if goneB l c b x=true then backsR l c a b m (d++[x.Id]) else backsR l c a (backB l c b x) (m++[x.Id]) d
theorem backs_gone {l:List Queue} {c:Int} {x:Book} {a b:List Book} {m d:List Int} (h:goneB l c b x=true):backsR l c (x::a) b m d=backsR l c a b m (d++[x.Id]):=by rw [backsR,if_pos h]
theorem backs_back {l:List Queue} {c:Int} {x:Book} {a b:List Book} {m d:List Int} (h:goneB l c b x=false):backsR l c (x::a) b m d=backsR l c a (backB l c b x) (m++[x.Id]) d:=by rw [backsR,if_neg (by rw [h];exact Bool.false_ne_true)]
theorem gone_no {l:List Queue} {c:Int} {b:List Book} {x:Book}:goneB l c b x=false↔begunB c x=false∧max x.Req.From c < x.Req.Until∧placedB l c b x≠[]:=by
 unfold goneB
 rw [Bool.or_eq_false_iff,Bool.or_eq_false_iff,decide_eq_false_iff_not,decide_eq_false_iff_not,Int.not_le,and_assoc]
theorem laterQ_ok {x:Request} {c:Int} (h:ReqOk x) (h2:max x.From c < x.Until):ReqOk (laterQ x c):=by
 obtain ⟨k,m,⟨⟨s1,s2,s3⟩,p⟩⟩:=h
 exact ⟨k,m,⟨⟨by show 0≤max x.From c;omega,h2,s3⟩,p⟩⟩
theorem laterQ_meets {x:Request} {c:Int} {b:List Bite} (hr:ReqOk x) (h:meetsR (laterQ x c) b=true):meetsR x b=true:=by
 rw [meetsR_iff] at h ⊢
 obtain ⟨_,h2,h3⟩:=h
 refine ⟨hr,fun k hk=>?_,h3⟩
 have g:=h2 k hk
 exact ⟨g.up,g.is,by have:=g.from_;have e:(laterQ x c).From=max x.From c:=rfl;rw [e] at this;omega,g.until_,g.fits,g.order,g.tight⟩
theorem laterQ_at {x:Request} {c:Int} {b:List Bite} (h:meetsR (laterQ x c) b=true):∀ y∈b,c≤y.At:=fun y hy=>by
 obtain ⟨k,hk⟩:=List.mem_iff_getElem?.1 hy
 have g:=(((meetsR_iff.1 h).2.1) k (List.getElem?_eq_some_iff.1 hk).1).from_
 have e:(laterQ x c).From=max x.From c:=rfl
 rw [e,(bite_at hk).2] at g
 omega
theorem takenT_perm {l:List Queue} (q t:Nat) {b c:List Book} (h:b.Perm c):takenT l b q t=takenT l c q t:=by
 induction h with
 | nil=>rfl
 | cons x _ ih=>simp only [takenT,ih]
 | swap x y b=>simp only [takenT];omega
 | trans _ _ h1 h2=>exact h1.trans h2
theorem heldGo_laterQ {x:Request} {c:Int}:∀ {b:List Bite} {f:List Run},heldGo (laterQ x c) f b=true→heldGo x f b=true
 | [],_,_=>rfl
 | y::b,f,h=>by
  rw [heldGo] at h ⊢
  split at h
  ·rename_i hc
   exact (if_pos (c:=_) (t:=heldGo x _ b) (e:=false) hc).trans (heldGo_laterQ h)
  ·cases h
theorem back_right {c next:Int} {l:List Queue} {b:List Book} {x:Book} (h:stateE ⟨c,next,l,b⟩=0) (hx:BookOk l x) (hi:0≤x.Id∧x.Id < next) (hd:∀ y∈b,y.Id≠x.Id) (h12:b.length < 12) (hg:goneB l c b x=false) :
  stateE ⟨c,next,l,backB l c b x⟩=0∧BookOk l ⟨x.Id,x.Req,placedB l c b x⟩∧∀ y∈placedB l c b x,c≤y.At:=by
 obtain ⟨_,hu,hp⟩:=gone_no.1 hg
 obtain ⟨hf,_⟩:=stateE_zero h
 obtain ⟨h1,⟨k1,k2,k3,k4⟩,h3,h4⟩:=formE_zero hf
 obtain ⟨ok,h0,_,hbok⟩:=booksE_zero h1
 have h5:=right_fits h
 have hq:=laterQ_ok hx.req hu
 obtain ⟨q,hqn⟩:∃ q:Nat,x.Req.Queue=q:=⟨x.Req.Queue.toNat,by have:=hx.q0;omega⟩
 have hql:q < l.length:=by have:=hx.q1;omega
 have hfine:Fine (fold (roomT l b x.Req.Queue)):=by
  rw [hqn];exact fine_fold fun t _=>room_num ok hbok (by show b.length≤12;omega) hql t
 have hm:meetsR (laterQ x.Req c) (placedB l c b x)=true:=found_meets hq hp
 have hh:heldGo x.Req (fold (roomT l b x.Req.Queue)) (placedB l c b x)=true:=heldGo_laterQ (found_held hfine hq hp)
 have hbk:BookOk l ⟨x.Id,x.Req,placedB l c b x⟩:=⟨hx.q0,hx.q1,laterQ_meets hx.req hm⟩
 refine ⟨?_,hbk,laterQ_at hm⟩
 have hperm:(backB l c b x).Perm (⟨x.Id,x.Req,placedB l c b x⟩::b):=insB_perm _ _
 have hlen:(backB l c b x).length=b.length+1:=hperm.length_eq
 have hmem:∀ y∈backB l c b x,y=⟨x.Id,x.Req,placedB l c b x⟩∨y∈b:=fun y hy=>List.mem_cons.1 (hperm.subset hy)
 have hb1:booksE l (backB l c b x)=0:=by
  rw [booksE_first h0 (by omega)]
  have h1':booksE l b=0:=h1
  rw [booksE_first h0 (by omega)] at h1'
  refine firstE_all.2 fun y hy=>?_
  rcases hmem y hy with rfl | hy
  ·exact ⟨reqE_ok h0 hx.req ⟨hx.q0,hx.q1⟩,hbk.meets⟩
  ·exact firstE_all.1 h1' y hy
 have hids:idsT (-1) next (backB l c b x)=true:=by
  obtain ⟨g1,g2⟩:=idsT_iff.1 (show idsT (-1) next b=true from h3)
  refine idsT_iff.2 ⟨fun y hy=>?_,insB_rising g2 hd⟩
  rcases hmem y hy with rfl | hy
  ·exact ⟨by show -1 < x.Id;omega,hi.2⟩
  ·exact g1 y hy
 refine right_if hb1 ⟨k1,k2,k3,k4⟩ hids ?_ (fun t ht ht48 p hpl=>?_)
 ·show (backB l c b x).any (lateB c)=false
  rw [List.any_eq_false]
  intro y hy
  rcases hmem y hy with rfl | hy
  ·rw [late_is hbk]
   have hmany:1≤(placedB l c b x).length:=hbk.many.1
   have hb0:BiteIn x.Req (placedB l c b x) 0:=(hbk.bites 0 hmany).1
   obtain ⟨⟨p1,_⟩,_⟩:=(req_range hx.req).2 (bP (placedB l c b x) 0).toNat (by have:=hb0.low;have:=hb0.is;omega)
   have hge:overA x.Req (placedB l c b x) 0≤maxTo (overA x.Req (placedB l c b x)) ((placedB l c b x).length - 1):=maxTo_zero _ _
   have e:overA x.Req (placedB l c b x) 0=bA (placedB l c b x) 0+pL x.Req (bP (placedB l c b x) 0).toNat:=rfl
   have hat:c≤bA (placedB l c b x) 0:=by
    obtain ⟨y,hy⟩:=getA hmany
    rw [(bite_at hy).2]
    exact laterQ_at hm y (List.mem_of_getElem? hy)
   show ¬ (decide (maxTo (overA x.Req (placedB l c b x)) ((placedB l c b x).length - 1)≤c)=true)
   rw [decide_eq_true_iff]
   omega
  ·have:=List.any_eq_false.1 (show b.any (lateB c)=false from h4) y hy
   exact this
 ·show 0≤leftT l (backB l c b x) p t
  have g1:0≤leftT l b p t:=h5 t ht ht48 p hpl
  have e:leftT l (backB l c b x) p t=leftT l b p t - (if under l x.Req.Queue p=true then takesT ⟨x.Id,x.Req,placedB l c b x⟩ t else 0):=by
   unfold leftT
   rw [takenT_perm p t hperm]
   simp only [takenT]
   omega
  rw [e]
  by_cases hu:under l x.Req.Queue p=true
  ·rw [if_pos hu,takes_sum hbk t]
   have g2:=room_below (b:=b) (t:=t) hu
   have g3:=held_sum ht48 (placedB l c b x) _ hh
   rw [sp_fold ht48] at g3
   show 0≤leftT l b p t - sumH x.Req (placedB l c b x) t
   omega
  ·rw [if_neg hu];omega
theorem backs_all {c next:Int} {l:List Queue}:∀ (a b:List Book) (m d:List Int),stateE ⟨c,next,l,b⟩=0→(∀ x∈a,BookOk l x∧0≤x.Id∧x.Id < next)→(b++a).Pairwise (fun x y=>x.Id≠y.Id)→b.length+a.length≤12 →
  stateE ⟨c,next,l,(backsR l c a b m d).1⟩=0∧(∀ y∈b,y∈(backsR l c a b m d).1)∧∃ m' d':List Int,(backsR l c a b m d).2.1=m++m'∧(backsR l c a b m d).2.2=d++d'∧(m'++d').Perm (a.map Book.Id) ∧
   (backsR l c a b m d).1.length=b.length+m'.length∧(∀ x∈a,x.Id∈m'→∃ y∈(backsR l c a b m d).1,y.Id=x.Id∧y.Req=x.Req∧∀ z∈y.Bites,c≤z.At)∧∀ y∈(backsR l c a b m d).1,y∈b∨y.Id∈m':=by
 intro a
 induction a with
 | nil =>
  intro b m d h _ _ _
  exact ⟨h,fun y hy=>hy,[],[],by simp [backsR],by simp [backsR],by simp,by simp [backsR],fun x hx=>(by cases hx),fun y hy=>.inl hy⟩
 | cons x a ih =>
  intro b m d h ha hd h12
  have h12':b.length+(a.length+1)≤12:=by simpa using h12
  obtain ⟨hx,hi⟩:=ha x (List.mem_cons_self ..)
  have ha':=fun y hy=>ha y (List.mem_cons_of_mem x hy)
  have hd1:(x::(b++a)).Pairwise (fun x y:Book=>x.Id≠y.Id):=(List.Perm.pairwise_iff (fun h e=>h e.symm) List.perm_middle).1 hd
  obtain ⟨hd2,hd3⟩:=List.pairwise_cons.1 hd1
  cases hg:goneB l c b x with
  | true =>
   rw [backs_gone hg]
   obtain ⟨g1,g2,m',d',g3,g4,g5,g6,g7,g8⟩:=ih b m (d++[x.Id]) h ha' hd3 (by omega)
   refine ⟨g1,g2,m',x.Id::d',g3,by rw [g4];simp,?_,g6,fun y hy hm=>?_,g8⟩
   ·rw [List.map_cons]
    exact List.perm_middle.trans (List.Perm.cons _ g5)
   ·rcases List.mem_cons.1 hy with rfl | hy
    ·obtain ⟨z,hz,e⟩:=List.mem_map.1 (g5.subset (List.mem_append_left _ hm))
     exact absurd e.symm (hd2 z (List.mem_append_right _ hz))
    ·exact g7 y hy hm
  | false =>
   rw [backs_back hg]
   obtain ⟨k1,k2,k3⟩:=back_right h hx hi (fun y hy e=>hd2 y (List.mem_append_left _ hy) e.symm) (by omega) hg
   have hperm:(backB l c b x).Perm (⟨x.Id,x.Req,placedB l c b x⟩::b):=insB_perm _ _
   have hd4:(backB l c b x++a).Pairwise (fun x y:Book=>x.Id≠y.Id):=(List.Perm.pairwise_iff (fun h e=>h e.symm) (List.Perm.append_right a hperm)).2 (List.pairwise_cons.2 ⟨hd2,hd3⟩)
   have hl:=hperm.length_eq
   rw [List.length_cons] at hl
   obtain ⟨g1,g2,m',d',g3,g4,g5,g6,g7,g8⟩:=ih (backB l c b x) (m++[x.Id]) d k1 ha' hd4 (by omega)
   refine ⟨g1,fun y hy=>g2 y (hperm.symm.subset (List.mem_cons_of_mem _ hy)),x.Id::m',d',by rw [g3];simp,g4,?_,by rw [g6,hl,List.length_cons];omega,fun y hy hm=>?_,fun y hy=>?_⟩
   ·rw [List.map_cons,List.cons_append]
    exact List.Perm.cons _ g5
   ·rcases List.mem_cons.1 hy with rfl | hy
    ·exact ⟨_,g2 _ (hperm.symm.subset (List.mem_cons_self ..)),rfl,rfl,k3⟩
    ·rcases List.mem_cons.1 hm with e | hm
     ·exact absurd e.symm (hd2 y (List.mem_append_right _ hy))
     ·exact g7 y hy hm
   ·rcases g8 y hy with h1 | h1
    ·rcases List.mem_cons.1 (hperm.subset h1) with rfl | h1
     ·exact .inr (List.mem_cons_self ..)
     ·exact .inl h1
    ·exact .inr (List.mem_cons_of_mem _ h1)
noncomputable def relB (s:State) (q:Nat) (f:List Run):List Book × List Book:=relL (setCap s.Tree q f) s.Clock.toNat s.Books
noncomputable def endB (s:State) (q:Nat) (f:List Run):List Book × List Int × List Int:=backsR (setCap s.Tree q f) s.Clock (sortB (relB s q f).2) (relB s q f).1 [] []
noncomputable def cutS (s:State) (q:Nat) (f:List Run):State:=⟨s.Clock,s.Next,setCap s.Tree q f,(endB s q f).1⟩
@[irreducible] noncomputable def changeR (s:State) (q:Int) (f:List Run):State × List Int × List Int × Int :=
 if stateE s≠0 then (noneS,[],[],stateE s) else if ¬ (0≤q∧q < s.Tree.length) then (noneS,[],[],6) else if ¬ CapOk f then (noneS,[],[],1) else (cutS s q.toNat f,(endB s q.toNat f).2.1,(endB s q.toNat f).2.2,0)
theorem changeR_bad {s:State} {q:Int} {f:List Run} (h:stateE s≠0):changeR s q f=(noneS,[],[],stateE s):=by unfold changeR;rw [if_pos h]
theorem changeR_none {s:State} {q:Int} {f:List Run} (h:stateE s=0) (h2:¬ (0≤q∧q < s.Tree.length)):changeR s q f=(noneS,[],[],6):=by unfold changeR;rw [if_neg (by simp [h]),if_pos h2]
theorem changeR_form {s:State} {q:Int} {f:List Run} (h:stateE s=0) (h2:0≤q∧q < s.Tree.length) (h3:¬ CapOk f):changeR s q f=(noneS,[],[],1):=by unfold changeR;rw [if_neg (by simp [h]),if_neg (fun h=>h h2),if_pos h3]
theorem changeR_ok {s:State} {q:Nat} {f:List Run} (h:stateE s=0) (h2:q < s.Tree.length) (h3:CapOk f):changeR s (q:Int) f=(cutS s q f,(endB s q f).2.1,(endB s q f).2.2,0):=by
 unfold changeR;rw [if_neg (by simp [h]),if_neg (fun h=>h ⟨by omega,by omega⟩),if_neg (fun h=>h h3)];rfl
theorem ids_differ {b:List Book} (h:Rising b):b.Pairwise (fun x y=>x.Id≠y.Id):=h.imp (fun h e=>by omega)
structure RelIs (s:State) (q:Nat) (f:List Run):Prop where
 tree:checkT (setCap s.Tree q f)=0
 fits:FitsT (setCap s.Tree q f) (relB s q f).1 s.Clock.toNat
 sub:(relB s q f).1.Sublist s.Books
 perm:((relB s q f).1++(relB s q f).2).Perm s.Books
 fair:∀ x∈(relB s q f).2,FairX (setCap s.Tree q f) s.Books s.Clock.toNat x
theorem rel_is {s:State} {q:Nat} {f:List Run} (h:stateE s=0) (hf:CapOk f):RelIs s q f:=by
 obtain ⟨hfm,_⟩:=stateE_zero h
 obtain ⟨h1,_,_,_⟩:=formE_zero hfm
 obtain ⟨_,h0,_,hbok⟩:=booksE_zero h1
 have hc:=checkT_set (q:=q) h0 hf
 obtain ⟨g1,g2,g3,g4⟩:=rel_all (c:=s.Clock.toNat) (checkT_ok hc) s.Books.length s.Books [] rfl (fun x hx=>bookOk_set.2 (hbok x hx))
 refine ⟨hc,g1,g2,by rw [List.append_nil] at g3;exact g3,fun x hx=>?_⟩
 rcases g4 x hx with h | h
 ·cases h
 ·exact h
theorem rel_right {s:State} {q:Nat} {f:List Run} (h:stateE s=0) (hf:CapOk f):stateE ⟨s.Clock,s.Next,setCap s.Tree q f,(relB s q f).1⟩=0:=by
 have R:=rel_is (q:=q) h hf
 obtain ⟨hfm,_⟩:=stateE_zero h
 obtain ⟨h1,h2,h3,h4⟩:=formE_zero hfm
 obtain ⟨_,h0,h12,hbok⟩:=booksE_zero h1
 have hlen:=R.sub.length_le
 refine right_if ?_ h2 (idsT_sub R.sub h3) ?_ R.fits
 ·show booksE (setCap s.Tree q f) (relB s q f).1=0
  rw [booksE_first R.tree (by omega)]
  refine firstE_all.2 fun x hx=>?_
  have hb:=bookOk_set (q:=q) (f:=f).2 (hbok x (R.sub.subset hx))
  exact ⟨reqE_ok R.tree hb.req ⟨hb.q0,hb.q1⟩,hb.meets⟩
 ·show (relB s q f).1.any (lateB s.Clock)=false
  rw [List.any_eq_false]
  exact fun x hx=>List.any_eq_false.1 h4 x (R.sub.subset hx)
structure EndIs (s:State) (q:Nat) (f:List Run):Prop where
 right:stateE (cutS s q f)=0
 stay:∀ y∈(relB s q f).1,y∈(endB s q f).1
 perm:((endB s q f).2.1++(endB s q f).2.2).Perm ((relB s q f).2.map Book.Id)
 len:(endB s q f).1.length=(relB s q f).1.length+(endB s q f).2.1.length
 back:∀ x∈(relB s q f).2,x.Id∈(endB s q f).2.1→∃ y∈(endB s q f).1,y.Id=x.Id∧y.Req=x.Req∧∀ z∈y.Bites,s.Clock≤z.At
 only:∀ y∈(endB s q f).1,y∈(relB s q f).1∨y.Id∈(endB s q f).2.1
theorem away_is {s:State} {q:Nat} {f:List Run} (h:stateE s=0) (hf:CapOk f):(∀ x∈sortB (relB s q f).2,BookOk (setCap s.Tree q f) x∧0≤x.Id∧x.Id < s.Next)∧((relB s q f).1++sortB (relB s q f).2).Pairwise (fun x y=>x.Id≠y.Id)∧(relB s q f).1.length+(sortB (relB s q f).2).length=s.Books.length:=by
 have R:=rel_is (q:=q) h hf
 obtain ⟨hfm,_⟩:=stateE_zero h
 obtain ⟨h1,h2,h3,h4⟩:=formE_zero hfm
 obtain ⟨_,h0,h12,hbok⟩:=booksE_zero h1
 obtain ⟨i1,i2⟩:=idsT_iff.1 h3
 have hp:((relB s q f).1++sortB (relB s q f).2).Perm s.Books:=(List.Perm.append_left _ (sortB_perm _)).trans R.perm
 refine ⟨fun x hx=>?_,(List.Perm.pairwise_iff (fun h e=>h e.symm) hp).2 (ids_differ i2),by have:=hp.length_eq;rwa [List.length_append] at this⟩
 have hm:=hp.subset (List.mem_append_right _ hx)
 have:=i1 x hm
 exact ⟨bookOk_set.2 (hbok x hm),by omega,this.2⟩
theorem end_is {s:State} {q:Nat} {f:List Run} (h:stateE s=0) (hf:CapOk f):EndIs s q f:=by
 have R:=rel_is (q:=q) h hf
 obtain ⟨hfm,_⟩:=stateE_zero h
 obtain ⟨h1,_,_,_⟩:=formE_zero hfm
 obtain ⟨_,h0,h12,hbok⟩:=booksE_zero h1
 obtain ⟨a1,a2,a3⟩:=away_is (q:=q) h hf
 obtain ⟨g1,g2,m',d',g3,g4,g5,g6,g7,g8⟩:=backs_all (c:=s.Clock) (next:=s.Next) (sortB (relB s q f).2) (relB s q f).1 [] [] (rel_right h hf) a1 a2 (by omega)
 have e3:(endB s q f).2.1=m':=by rw [← List.nil_append m'];exact g3
 have e4:(endB s q f).2.2=d':=by rw [← List.nil_append d'];exact g4
 refine ⟨g1,g2,?_,?_,fun x hx hm=>?_,fun y hy=>?_⟩
 ·rw [e3,e4]
  exact g5.trans ((sortB_perm _).map _)
 ·rw [e3];exact g6
 ·rw [e3] at hm
  exact g7 x ((sortB_perm _).symm.subset hx) hm
 ·rw [e3];exact g8 y hy
theorem change_right {s X:State} {q:Int} {f:List Run} {m d:List Int} (h:changeR s q f=(X,m,d,0)):stateE X=0∧stateE s=0∧CapOk f∧∃ k:Nat,q=k∧k < s.Tree.length∧X=cutS s k f∧m=(endB s k f).2.1∧d=(endB s k f).2.2:=by
 by_cases h0:stateE s=0
 ·by_cases h1:0≤q∧q < s.Tree.length
  ·obtain ⟨k,rfl⟩:∃ k:Nat,q=k:=⟨q.toNat,by omega⟩
   by_cases h2:CapOk f
   ·rw [changeR_ok h0 (by omega) h2] at h
    have e1:cutS s k f=X:=congrArg (fun p=>p.1) h
    have e2:(endB s k f).2.1=m:=congrArg (fun p=>p.2.1) h
    have e3:(endB s k f).2.2=d:=congrArg (fun p=>p.2.2.1) h
    rw [← e1,← e2,← e3]
    exact ⟨(end_is h0 h2).right,h0,h2,k,rfl,by omega,rfl,rfl,rfl⟩
   ·rw [changeR_form h0 h1 h2] at h
    exact absurd (show (1:Int)=0 from congrArg (fun p=>p.2.2.2) h) (by decide)
  ·rw [changeR_none h0 h1] at h
   exact absurd (show (6:Int)=0 from congrArg (fun p=>p.2.2.2) h) (by decide)
 ·rw [changeR_bad h0] at h
  exact absurd (show stateE s=0 from congrArg (fun p=>p.2.2.2) h) h0
end Go.Proofs.YtdcndkojmflhnaaGreat
