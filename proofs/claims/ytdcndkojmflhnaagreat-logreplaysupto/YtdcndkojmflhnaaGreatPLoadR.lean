/- laws; loads; each theorem names its own conditions. -/
import Derived.Test.YtdcndkojmflhnaaGreatPReqF
import Derived.Test.YtdcndkojmflhnaaGreatPReqP
import Derived.Test.YtdcndkojmflhnaaGreatPReqL
import Derived.Test.YtdcndkojmflhnaaGreatPRoomP
import Derived.Test.YtdcndkojmflhnaaGreatPLoadD
import Derived.Test.YtdcndkojmflhnaaGreatPCore
import Derived.WalkSpells
import Derived.StillTactics
import Derived.Tactics2
import Derived.Deep.RegionHeld3
/- The laws on requests: plot; reqBegun is true. -/
set_option linter.unusedVariables false
set_option maxRecDepth 100000
set_option maxHeartbeats 8000000
set_option linter.unusedSimpArgs false
set_option linter.unusedVariables false
namespace Go.Proofs.YtdcndkojmflhnaaGreat
open Go.RowKit
open List renaming getElem_toArray→zA,getElem_cons_zero→zB,getElem_cons_succ→zC,setIfInBounds_toArray→zD,set_cons_zero→zE,set_cons_succ→zF
instance (r:Request) (b:List Bite) (k:Nat):Decidable (BiteIn r b k) :=
 decidable_of_iff ((0≤bP b k∧bP b k < r.Pieces.length)∧0≤bA b k∧bA b k≤48) ⟨fun h=>⟨h.1.1,h.1.2,h.2.1,h.2.2⟩,fun h=>⟨⟨h.low,h.is⟩,h.at0,h.at48⟩⟩
instance (r:Request) (b:List Bite) (k:Nat):Decidable (StepOk r b k) :=
 decidable_of_iff ((lastP b k < bP b k∧bP b k < r.Pieces.length)∧(r.From≤bA b k∧bA b k≤r.Until)∧pL r (bP b k).toNat≤r.Until - bA b k∧(0 < k→r.Kind=3→endA r b k≤bA b k)∧(0 < k→r.Kind=4→bA b k=endA r b k))
  ⟨fun h=>⟨h.1.1,h.1.2,h.2.1.1,h.2.1.2,h.2.2.1,h.2.2.2.1,h.2.2.2.2⟩,fun h=>⟨⟨h.up,h.is⟩,⟨h.from_,h.until_⟩,h.fits,h.order,h.tight⟩⟩
def loadsL (l:List Queue) (b:List Book):List (List Run):=(List.range l.length).map fun k=>fold (takenT l b k)
def LoadsRow (base k:Nat) (v:Value) (F:Nat→Nat→Int) (W:World):Prop :=
 ∃ vs:List Value,W.ownsRow base 29 1 v k vs∧∀ j u,vs[j]?=some u→RunsV W u (fold (F j))∧∀ g,v.ownBlock=some g→ApartL [g] u
theorem LoadsRow.nil (base:Nat) (F:Nat→Nat→Int) (W:World):LoadsRow base 0 (.slice none 0 0) F W:=⟨[],World.ownsRow_nil _ _ _ _,fun j u h=>by simp at h⟩
theorem LoadsRow.ext {base k:Nat} {v:Value} {F:Nat→Nat→Int} {W W':World} (h:LoadsRow base k v F W) (hx:Ext W W'):LoadsRow base k v F W':=by
 obtain ⟨vs,h1,h2⟩:=h
 exact ⟨vs,ownsRow_ext h1 hx,fun j u hj=>⟨(h2 j u hj).1.mono hx,(h2 j u hj).2⟩⟩
theorem LoadsRow.step {base k:Nat} {v:Value} {F:Nat→Nat→Int} {W W':World} {vs:List Value} {u:Value} {g cap:Nat} (h1:W.ownsRow base 29 1 v k vs) (h2:∀ j u,vs[j]?=some u→RunsV W u (fold (F j))∧∀ g,v.ownBlock=some g→ApartL [g] u)
  (hu:RunsV W u (fold (F k))) (hf:∀ g,v.ownBlock=some g→ApartL [g] u) (ho:W'.ownsRow base 29 1 (.slice (some ⟨g,0,none⟩) (k+1) cap) (k+1) (vs++[u])) (hg:W.grownBy W' v.ownBlock) (hgg:v.ownBlock=some g∨g=W.heap.size) :
  LoadsRow base (k+1) (.slice (some ⟨g,0,none⟩) (k+1) cap) F W':=by
 have hlen:vs.length=k:=by have:=h1.1;omega
 have key:∀ j y,RunsV W y (fold (F j))→(∀ g,v.ownBlock=some g→ApartL [g] y)→RunsV W' y (fold (F j))∧∀ g',(Value.slice (some ⟨g,0,none⟩) (k+1) cap).ownBlock=some g'→ApartL [g'] y:=by
  intro j y hy ha
  obtain ⟨b,off,c,e,hb,_⟩:=runs_cells hy (fold_ne _)
  refine ⟨runsV_grown hy hg (fun a n c e he=>ha a.block he.symm a n c e (List.mem_singleton.2 rfl)),fun g' hg'=>?_⟩
  obtain rfl:g=g':=by simpa [Value.ownBlock] using hg'
  subst e
  rcases hgg with h | h
  ·exact ha g h
  ·exact apart_at (fun hm=>by have:=List.mem_singleton.1 hm;omega)
 refine ⟨vs++[u],ho,fun j y hj=>?_⟩
 rcases Nat.lt_or_ge j k with hlt | hge
 ·rw [List.getElem?_append_left (by omega)] at hj
  exact key j y (h2 j y hj).1 (h2 j y hj).2
 ·rw [List.getElem?_append_right (by omega)] at hj
  obtain rfl:j=k:=by
   have:=(List.getElem?_eq_some_iff.1 hj).1
   simp at this;omega
  have e:u=y:=by
   rw [hlen,Nat.sub_self] at hj
   simpa using hj
  subst e
  exact key j u hu hf
theorem LoadsRow.loads {base n:Nat} {v:Value} {F:Nat→Nat→Int} {W:World} (h:LoadsRow base n v F W) (hn:n≤5):LoadsV W v ((List.range n).map fun k=>fold (F k)):=by
 obtain ⟨vs,h1,h2⟩:=h
 have hlen:vs.length=n:=by have:=h1.1;omega
 rcases h1.2 with ⟨rfl,rfl⟩ | ⟨g,cap,cur,rfl,hb,hg,hc,hm,hcs,htk⟩
 ·exact SV.nil
 ·refine .inr ⟨g,0,cap,by simp,by simpa using hc,by unfold maxLen at hm;omega,by simp;omega,(Array.getElem?_eq_some_iff.1 hg).1,fun k x hk=>?_⟩
  have hkn:k < n:=by have:=(List.getElem?_eq_some_iff.1 hk).1;simpa using this
  obtain ⟨u,hu⟩:=getA (f:=vs) (k:=k) (by omega)
  have e:x=fold (F k):=by simp [hkn] at hk;exact hk.symm
  rw [e,Nat.zero_add,Nat.mul_one]
  refine ⟨u,?_,(h2 k u hu).1⟩
  have:=h1.cells (g:=g) rfl k u hu
  by_cases e0:k=0 <;> simpa [Addr.add,e0] using this
theorem loads_at {w:World} {v:Value} {l:List (List Run)} (hv:LoadsV w v l):∃ a cap,v=.slice a l.length cap∧l.length≤cap∧cap≤9223372036854775807∧l.length≤17592186044416 ∧
  (1≤l.length→∃ b off,a=some ⟨b,off,none⟩∧b < w.heap.size∧∀ k x,l[k]?=some x→∃ u,w.cell? ⟨b,off+k,none⟩=some u∧RunsV w u x):=by
 rcases hv with ⟨rfl,a,cap,rfl,h⟩ | ⟨b,off,cap,rfl,h1,h2,h3,h4,h5⟩
 ·exact ⟨a,cap,rfl,by simp,h,by simp,fun h=>by simp at h⟩
 ·refine ⟨_,cap,rfl,h1,h2,h3,fun _=>⟨b,off,rfl,h4,fun k x hk=>?_⟩⟩
  have:=h5 k x hk
  rw [Nat.mul_one] at this
  exact this
end Go.Proofs.YtdcndkojmflhnaaGreat
