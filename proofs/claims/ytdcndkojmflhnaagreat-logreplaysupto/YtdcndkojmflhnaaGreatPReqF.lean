/- requests of the field; each theorem names its own conditions. -/
import Derived.Test.YtdcndkojmflhnaaGreatPReqP
import Derived.Test.YtdcndkojmflhnaaGreatPUp
import Derived.Test.YtdcndkojmflhnaaGreatPLoadB
/- Walk of the reference's MeetsOf. -/
set_option linter.unusedVariables false
set_option maxRecDepth 100000
set_option maxHeartbeats 8000000
set_option linter.unusedSimpArgs false
set_option linter.unusedVariables false
namespace Go.Proofs.YtdcndkojmflhnaaGreat
open Go.RowKit
open List renaming getElem_toArray→zA,getElem_cons_zero→zB,getElem_cons_succ→zC,setIfInBounds_toArray→zD,set_cons_zero→zE,set_cons_succ→zF
def sAll:ByteArray:=⟨#[97,108,108]⟩
def sNorth:ByteArray:=⟨#[110,111,114,116,104]⟩
def sSouth:ByteArray:=⟨#[115,111,117,116,104]⟩
def sBarn:ByteArray:=⟨#[98,97,114,110]⟩
def fieldL (m p n:Int):List Queue:=[⟨sAll,-1,[⟨0,m⟩]⟩,⟨sNorth,p,[⟨0,8⟩,⟨20,4⟩]⟩,⟨sSouth,0,[⟨0,n⟩]⟩,⟨sBarn,1,[⟨0,8⟩]⟩]
structure FieldAt (w:World) (B:Nat) (m p n:Int):Prop where
 r0:w.heap[B]?=some (.cells #[.int .i64 0,.int .i64 m] 48 (0,0))
 r1:w.heap[B+1]?=some (.cells #[.int .i64 0,.int .i64 8,.int .i64 20,.int .i64 4] 48 (0,0))
 r2:w.heap[B+2]?=some (.cells #[.int .i64 0,.int .i64 n] 48 (0,0))
 r3:w.heap[B+3]?=some (.cells #[.int .i64 0,.int .i64 8] 48 (0,0))
 q:w.heap[B+4]?=some (.cells #[.string sAll,.int .i64 (-1),.slice (some ⟨B,0,none⟩) 1 1,.string sNorth,.int .i64 p,.slice (some ⟨B+1,0,none⟩) 2 2,.string sSouth,.int .i64 0,.slice (some ⟨B+2,0,none⟩) 1 1,.string sBarn,.int .i64 1,.slice (some ⟨B+3,0,none⟩) 1 1] 46 (0,0))
theorem FieldAt.ext {w w':World} {B:Nat} {m p n:Int} (h:FieldAt w B m p n) (hx:Ext w w'):FieldAt w' B m p n:=by
 have k:∀ {j:Nat} {o:Obj},w.heap[j]?=some o→w'.heap[j]?=some o:=fun hj=>(hx.block _ (Array.getElem?_eq_some_iff.1 hj).1).trans hj
 exact ⟨k h.r0,k h.r1,k h.r2,k h.r3,k h.q⟩
theorem runs_of_row {w:World} {b:Nat} {cs:Array Value} {t:TypeId} {l:List Run} (h:w.heap[b]?=some (.cells cs t (0,0))) (hcs:cs=(cells2 Run.At Run.N l).toArray) (hl:l.length≤48) (hi:∀ r∈l,I64 r.At∧I64 r.N) :
  RunsV w (.slice (some ⟨b,0,none⟩) l.length l.length) l:=by
 subst hcs
 refine .inr ⟨b,0,l.length,rfl,Nat.le_refl _,by omega,by omega,(Array.getElem?_eq_some_iff.1 h).1,fun k x hk=>?_⟩
 obtain ⟨h1,h2⟩:=cells2_get Run.At Run.N l k x hk
 have h3:=hi x (List.mem_of_getElem? hk)
 refine ⟨?_,?_,h3.1,h3.2⟩
 ·rw [cell_of_row w b _ _ _ _ h,Nat.zero_add];simpa using h1
 ·rw [cell_of_row w b _ _ _ _ h,Nat.zero_add];simpa using h2
theorem FieldAt.v {w:World} {B:Nat} {m p n:Int} (h:FieldAt w B m p n) (hm:I64 m) (hp:I64 p) (hn:I64 n):QueuesV w (.slice (some ⟨B+4,0,none⟩) 4 4) (fieldL m p n):=by
 have i2:∀ {a b:Int},-100≤a→a≤100→-100≤b→b≤100→I64 a∧I64 b:=fun _ _ _ _=>⟨I64.of (by omega) (by omega),I64.of (by omega) (by omega)⟩
 have i1:∀ {a:Int},-100≤a→a≤100→I64 a:=fun _ _=>I64.of (by omega) (by omega)
 have v0:=runs_of_row (l:=[⟨0,m⟩]) h.r0 rfl (by simp) (by intro r hr;simp at hr;subst hr;exact ⟨i1 (a:=0) (by omega) (by omega),hm⟩)
 have v1:=runs_of_row (l:=[⟨0,8⟩,⟨20,4⟩]) h.r1 rfl (by decide) (lit_nums (by decide +kernel))
 have v2:=runs_of_row (l:=[⟨0,n⟩]) h.r2 rfl (by simp) (by intro r hr;simp at hr;subst hr;exact ⟨i1 (a:=0) (by omega) (by omega),hn⟩)
 have v3:=runs_of_row (l:=[⟨0,8⟩]) h.r3 rfl (by decide) (lit_nums (by decide +kernel))
 have c:∀ j,w.cell? ⟨B+4,j,none⟩=_:=fun j=>cell_of_row w (B+4) j _ _ _ h.q
 refine .inr ⟨B+4,0,4,rfl,by simp [fieldL],by omega,by simp [fieldL],(Array.getElem?_eq_some_iff.1 h.q).1,fun k x hk=>?_⟩
 match k with
 | 0=>simp [fieldL] at hk;subst hk;exact ⟨c _,(show sAll.size≤_ by decide),c _,i1 (a:=-1) (by omega) (by omega),_,c _,v0⟩
 | 1=>simp [fieldL] at hk;subst hk;exact ⟨c _,(show sNorth.size≤_ by decide),c _,hp,_,c _,v1⟩
 | 2=>simp [fieldL] at hk;subst hk;exact ⟨c _,(show sSouth.size≤_ by decide),c _,i1 (a:=0) (by omega) (by omega),_,c _,v2⟩
 | 3=>simp [fieldL] at hk;subst hk;exact ⟨c _,(show sBarn.size≤_ by decide),c _,i1 (a:=1) (by omega) (by omega),_,c _,v3⟩
 | k+4=>simp [fieldL] at hk
theorem FieldAt.setP {w:World} {B:Nat} {m p n:Int} (h:FieldAt w B m p n) (z:Int):FieldAt (w.setCell ⟨B+4,4,none⟩ (.int .i64 z)) B m z n:=by
 have k:∀ {j:Nat} {o:Obj},j≠B+4→w.heap[j]?=some o→(w.setCell ⟨B+4,4,none⟩ (.int .i64 z)).heap[j]?=some o:=fun hj ho=>by rw [heap_setCell_other w ⟨B+4,4,none⟩ _ _ hj];exact ho
 exact ⟨k (by omega) h.r0,k (by omega) h.r1,k (by omega) h.r2,k (by omega) h.r3,by rw [heap_setCell_same w (B+4) 4 _ _ _ h.q];rfl⟩
theorem five_new (w:World) (o1 o2 o3 o4 o5:Obj) :
  ((((((w.alloc o1).alloc o2).alloc o3).alloc o4).alloc o5).heap[w.heap.size]?=some o1)∧((((((w.alloc o1).alloc o2).alloc o3).alloc o4).alloc o5).heap[w.heap.size+1]?=some o2) ∧
  ((((((w.alloc o1).alloc o2).alloc o3).alloc o4).alloc o5).heap[w.heap.size+2]?=some o3)∧((((((w.alloc o1).alloc o2).alloc o3).alloc o4).alloc o5).heap[w.heap.size+3]?=some o4)∧((((((w.alloc o1).alloc o2).alloc o3).alloc o4).alloc o5).heap[w.heap.size+4]?=some o5):=by
 obtain ⟨h1,h2,h3,h4,hx⟩:=four_new w o1 o2 o3 o4
 have h5:=heap_alloc_new ((((w.alloc o1).alloc o2).alloc o3).alloc o4) o5
 have s:((((w.alloc o1).alloc o2).alloc o3).alloc o4).heap.size=w.heap.size+4:=by simp
 rw [s] at h5
 have keep:∀ (W:World) (o b:Obj) (j:Nat),W.heap[j]?=some b→(W.alloc o).heap[j]?=some b:=fun W o b j h=>by
  rw [((Ext.rf W).al o).block j (Array.getElem?_eq_some_iff.1 h).1];exact h
 exact ⟨keep _ _ _ _ h1,keep _ _ _ _ h2,keep _ _ _ _ h3,keep _ _ _ _ h4,h5⟩
theorem field_any (w:World):Calls Tryz.prog 33 #[] w fun e w'=>e=.returned (.slice (some ⟨w.heap.size+4,0,none⟩) 4 4)∧FieldAt w' w.heap.size 10 0 6∧Ext w w':=by
 go_enter Tryz.func33,Tryz.ntmps33
 go_wp2_with fail
 go_ret
 refine ⟨rfl,?_,(((((Ext.rf w).al _).al _).al _).al _).al _⟩
 obtain ⟨h1,h2,h3,h4,h5⟩:=five_new w _ _ _ _ _
 exact ⟨h1,h2,h3,h4,h5⟩
theorem fieldC:checkT (fieldL 10 0 6)=0:=by unfold checkT;decide +kernel
end Go.Proofs.YtdcndkojmflhnaaGreat
