/- The iterator tree.Up; lines, and who is under whom; each theorem names its own conditions. -/
import Derived.RangeFuncNested
import Derived.RangeFuncBound
import Derived.RangeFuncCalls
import Derived.RangeFuncLeaves
import Derived.RangeFuncBox
import Derived.Shelf.Abstract
import Derived.Shelf.RegionOpen
import Derived.WalkKit
import Derived.OwnWalkIn
import Derived.TacticsInMore
import Derived.LoopNIn
import Derived.LoopIn
import Derived.Maps.AppendAt
import Derived.Test.YtdcndkojmflhnaaGreatPCore
import Derived.Test.YtdcndkojmflhnaaGreatPTree
import Derived.Test.YtdcndkojmflhnaaGreatPSeekS
import Derived.Test.YtdcndkojmflhnaaGreatPRunsY
/- A range over a function whose iterator keeps a number of its own in a cell. -/
set_option linter.unusedVariables false
set_option maxRecDepth 100000
set_option maxHeartbeats 8000000
set_option linter.unusedSimpArgs false
set_option linter.unusedVariables false
namespace Go.Proofs.YtdcndkojmflhnaaGreat
open Go.RowKit
open List renaming getElem_toArray→zA,getElem_cons_zero→zB,getElem_cons_succ→zC,setIfInBounds_toArray→zD,set_cons_zero→zE,set_cons_succ→zF
def Turns {β:Type} (q:Nat) (J:β→World→Prop):Prop :=
 ∀ s W W' row,J s W→W.grownBy W' row→(∀ r,row=some r→r=q)→J s W'
structure KeepB (bs:List Nat) (W W':World):Prop where
 size:W.heap.size≤W'.heap.size
 same:∀ j∈bs,j < W.heap.size→W'.heap[j]?=W.heap[j]?
theorem KeepB.rf (bs:List Nat) (W:World):KeepB bs W W:=⟨Nat.le_refl _,fun _ _ _=>rfl⟩
theorem KeepB.tr {bs:List Nat} {A B C:World} (h:KeepB bs A B) (k:KeepB bs B C):KeepB bs A C :=
 ⟨Nat.le_trans h.size k.size,fun j hj hl=>(k.same j hj (Nat.lt_of_lt_of_le hl h.size)).trans (h.same j hj hl)⟩
theorem KeepB.ext {bs:List Nat} {A B:World} (h:Ext A B):KeepB bs A B:=⟨h.size,fun j _ hl=>h.block j hl⟩
theorem KeepB.grown {bs:List Nat} {A B:World} {row:Option Nat} (hg:A.grownBy B row) (hr:∀ r,row=some r→r ∉ bs):KeepB bs A B :=
 ⟨hg.size,fun j hj hl=>hg.block j hl (fun e=>hr j e.symm hj)⟩
theorem KeepB.se {bs:List Nat} {A:World} {b:Nat} (v:Value) (hb:b ∉ bs):KeepB bs A (A.setCell ⟨b,0,none⟩ v) :=
 KeepB.grown (grownBy_setCell' A b v) (fun r e=>by cases e;exact hb)
theorem KeepB.put {bs:List Nat} {n:Nat} (hn:∀ j∈bs,j < n) (W:World) (l:Nat) (o o':Obj) (hl:n≤l) (_:W.heap[l]?=some o) (_:o.isCells=false) (_:o.isWalk=false):KeepB bs W (W.putObj l o') :=
 KeepB.grown (grownBy_putObj' W l o') (fun r e hr=>by cases e;have:=hn _ hr;omega)
theorem KeepsFrom.ext {B:Nat} {W W':World} (h:Ext W W'):KeepsFrom B W W':=⟨h.size,fun k o _ hk _=>by rw [h.block k (Array.getElem?_eq_some_iff.1 hk).1];exact hk⟩
theorem KeepsFrom.se {B:Nat} (W:World) (b:Nat) (v:Value):KeepsFrom B W (W.setCell ⟨b,0,none⟩ v):=(KeepsOthers.setCell W _ v).from B
def SeqOf {α:Type} (n:Nat) (P:Program) (g:Nat) (lb:Array Value) (encs:α→Array Value) (Kp:World→World→Prop) (S Sp:List α→Prop) (N q:Nat) (w:World):Prop :=
 ∀ (l:Nat) (J Jx:List α→World→Prop) (W:World),Below w.heap.size w W→Turns q J→Turns q Jx →
  (∀ pre x W1,J pre W1→pre.length < N→YieldAt Fence.wide (n - 1) P l (encs x) W1 fun e W' =>
   (e=.returned (.bool true)∧J (pre++[x]) W'∧Kp W1 W')∨(e=.returned (.bool false)∧Jx (pre++[x]) W')) →
  J [] W →
  CallsIn Fence.wide n P g (#[.func (.yield l) #[] #[]]++lb) W fun e W'=>(∃ v,e=.returned v)∧((∃ xs,S xs∧J xs W')∨(∃ pre,Sp pre∧Jx pre W'))
variable {P:Program}
def recOf (fn:FuncId) (tmps:Array Value) (ps:Array Tmp) (assign body:Code) (D:Nat) (st:LoopState) (pe:Option Code):Loop :=
 { state:=st,pending:=pe,fn:=fn,tmps:=tmps,params:=ps,assign:=assign,body:=body,defers:=D }
theorem wp_rangeOf {α:Type} {n:Nat} {g:Operand} {ps:Array Tmp} {assign body:Code} {Q:Exit→Act→World→Prop} {a:Act} {w:World} (h1:1≤n) {gf:Nat} {lb:Array Value} (hg:a.eval g=.func (.func gf) #[] lb)
  (eg:∀ args w,(callFunc gf args).run P w=.ok (.enter gf args) w) {encs:α→Array Value} {Kp:World→World→Prop} {S Sp:List α→Prop} {N q:Nat} {w0:World} (hseq:SeqOf (n - 1) P gf lb encs Kp S Sp N q w0)
  (hKt:∀ {A B C:World},Kp A B→Kp B C→Kp A C) (hKb:∀ (W:World) (l:Nat) (o o':Obj),w.heap.size≤l→W.heap[l]?=some o→o.isCells=false→o.isWalk=false→Kp W (W.putObj l o'))
  (hb0:Below w0.heap.size w0 w) (hq:q < w.heap.size) (hps:∀ x,(encs x).size=ps.size)
  (I:List α→World→Prop) (Ix:Code→List α→World→Prop) (hI:OwnFrom w.heap.size I) (hIx:∀ c,OwnFrom w.heap.size (Ix c)) (hIq:Turns q I) (hIxq:∀ c,Turns q (Ix c)) (h0:I [] w) (a₁:α→Act)
  (hassign:∀ (l:Nat) (x:α) (W:World) (K:Act→World→Prop),K (a₁ x) W →
   assign.wpIn (Fence.wide.inRound l) (n - 1 - 1) P (Exit.then K (fun _ _ _=>False)) { tmps:=(ps.zip (encs x)).foldl (fun t (p,v)=>t.setIfInBounds p v) a.tmps,defers:=[] } W)
  (hbody:∀ (l:Nat) (pre:List α) (x:α) (W:World),I pre W→pre.length < N→body.wpIn (Fence.wide.inRound l) (n - 1 - 1) P (ownPostG w.heap.size Kp I Ix (pre++[x]) W) (a₁ x) W)
  (hdone:∀ (D:Nat) (xs:List α) (W:World),w.heap.size≤D→S xs→I xs W→W.heap[D]?=some (.deferred (some []))→Q .normal { a with defers:={ target:=.collected D,args:=#[] }::a.defers } W)
  (hstop:∀ (D:Nat) (c:Code) (pre:List α) (W:World),w.heap.size≤D→Sp pre→Ix c pre W→W.heap[D]?=some (.deferred (some []))→c.wpIn Fence.wide n P Q { a with defers:={ target:=.collected D,args:=#[] }::a.defers } W) :
  (Code.rangeFunc g ps assign body).wpIn Fence.wide n P Q a w:=by
 refine wpIn_rangeFunc (fun fn hfn=>?_)
 obtain ⟨D,hD⟩:∃ D,w.heap.size=D:=⟨_,rfl⟩
 let R:=recOf fn a.tmps ps assign body D
 let wd:=w.alloc (.deferred (some []))
 let wl:=wd.alloc (.loop (R .ready none))
 have hsd:wd.heap.size=D+1:=by simp [wd,hD]
 have hL:wl.heap[D+1]?=some (.loop (R .ready none)):=by rw [← hsd];exact World.alloc_heap_new wd _
 have hDf:wl.heap[D]?=some (.deferred (some [])):=(Below.heap_alloc _ _ _ (by omega)).trans (by rw [← hD];exact World.alloc_heap_new w _)
 have hIl:I [] wl:=hI.alloc _ (hI.alloc _ h0)
 have hbl:Below w0.heap.size w0 wl:=hb0.trans ((((Below.refl _ w).alloc (Nat.le_refl _) _).alloc (by simp) _).mono hb0.size)
 have hqD:q < D:=by omega
 let J:List α→World→Prop:=fun pre W=>I pre W∧W.heap[D+1]?=some (.loop (R .ready none))∧W.heap[D]?=some (.deferred (some []))
 let Jx:List α→World→Prop:=fun pre W=>∃ c,Ix c pre W∧W.heap[D+1]?=some (.loop (R .done (some c)))∧W.heap[D]?=some (.deferred (some []))
 have keep:∀ {A B:World} {row:Option Nat} {j:Nat} {o:Obj},A.grownBy B row→(∀ r,row=some r→r=q)→D≤j→A.heap[j]?=some o→B.heap[j]?=some o:=fun hg' hr hj ho =>
  (hg'.block _ (Array.getElem?_eq_some_iff.1 ho).1 (fun e=>by have:=hr _ e.symm;omega)).trans ho
 have tJ:Turns q J:=fun s A B row h hg' hr=>⟨hIq s A B row h.1 hg' hr,keep hg' hr (by omega) h.2.1,keep hg' hr (Nat.le_refl _) h.2.2⟩
 have tJx:Turns q Jx:=fun s A B row ⟨c,h,h2,h3⟩ hg' hr=>⟨c,hIxq c s A B row h hg' hr,keep hg' hr (by omega) h2,keep hg' hr (Nat.le_refl _) h3⟩
 refine ⟨D+1,[{ target:=.collected D,args:=#[] }],wl,{ target:=.fn (.func gf) lb,args:=#[.func (.yield (D+1)) #[] #[]] },wl,gf,#[.func (.yield (D+1)) #[] #[]]++lb,wl,?_,?_,fun _ _=>trivial,?_,fun _=>h1,?_⟩
 ·have:=run_enterLoop_outer (P:=P) (w:=w) fn a.tmps ps assign body
  rw [hD] at this
  exact this
 ·simp only [resolve,hg]
  simp [go_sem]
 ·simp [invoke,go_sem,eg]
 ·refine (hseq (D+1) J Jx wl hbl tJ tJx (fun pre x W hJ hlen=>?_) ⟨hIl,hL,hDf⟩).mono ?_
  ·obtain ⟨hi,hl,hk⟩:=hJ
   have hlt:D+1 < W.heap.size:=(Array.getElem?_eq_some_iff.1 hl).1
   refine ⟨fn,_,assign,body,run_yield (P:=P) (args:=encs x) hl (hps x),roundIn_of_wpIn hfn (hassign _ x W _ ⟨_,run_beginRound hl rfl,?_⟩)⟩
   obtain ⟨W2,hW2⟩:∃ W2,W.putObj (D+1) (.loop { R .ready none with state:=.busy })=W2:=⟨_,rfl⟩
   have hl2:W2.heap[D+1]?=some (.loop { R .ready none with state:=.busy }):=by rw [← hW2];exact World.putObj_heap_same hlt
   have hk2:W2.heap[D]?=some (.deferred (some [])):=by rw [← hW2];exact (World.putObj_heap_other (by omega)).trans hk
   have hp2:Kp W W2:=by rw [← hW2];exact hKb _ _ _ _ (by omega) hl rfl rfl
   have hi2:I pre W2:=by rw [← hW2];exact hI.putObj _ hi (by omega) hl rfl
   show body.wpIn _ _ _ _ _ (W.putObj (D+1) (.loop { R .ready none with state:=.busy }))
   rw [hW2]
   refine wpIn_mono (hbody _ pre x _ hi2 hlen) ?_
   have fin:∀ (jump:Option Code) (W3:World),KeepsFrom w.heap.size W2 W3 →
     ∃ W4,(Instr.endRound (D+1) jump).run P W3=.ok (.bool jump.isNone) W4∧W4=W3.putObj (D+1) (.loop (R (if jump.isNone then .ready else .done) jump)) ∧
      W3.heap[D+1]?=some (.loop { R .ready none with state:=.busy })∧W4.heap[D+1]?=some (.loop (R (if jump.isNone then .ready else .done) jump))∧W4.heap[D]?=some (.deferred (some [])):=fun jump W3 hk3=>by
    have hl3:=hk3.same _ _ (by omega) hl2 rfl
    exact ⟨_,run_endRound (P:=P) jump hl3,rfl,hl3,World.putObj_heap_same (Array.getElem?_eq_some_iff.1 hl3).1,(World.putObj_heap_other (by omega)).trans (hk3.same _ _ (by omega) hk2 rfl)⟩
   rintro e a3 W3 hp
   cases e with
   | normal =>
    obtain ⟨hk3,hkp3,hi3⟩:=hp
    obtain ⟨W4,hr,rfl,hl3,hl4,hk4⟩:=fin none W3 hk3
    exact ⟨_,_,hr,.inl ⟨rfl,⟨hI.putObj _ hi3 (by omega) hl3 rfl,hl4,hk4⟩,hKt (hKt hp2 hkp3) (hKb _ _ _ _ (by omega) hl3 rfl rfl)⟩⟩
   | ret =>
    obtain ⟨hk3,hi3⟩:=hp
    obtain ⟨W4,hr,rfl,hl3,hl4,hk4⟩:=fin (some .ret) W3 hk3
    exact ⟨_,_,hr,.inr ⟨rfl,.ret,(hIx _).putObj _ hi3 (by omega) hl3 rfl,hl4,hk4⟩⟩
   | exit id =>
    obtain ⟨hk3,hi3⟩:=hp
    obtain ⟨W4,hr,rfl,hl3,hl4,hk4⟩:=fin (some (.exit id)) W3 hk3
    exact ⟨_,_,hr,.inr ⟨rfl,.exit id,(hIx _).putObj _ hi3 (by omega) hl3 rfl,hl4,hk4⟩⟩
   | goto t =>
    obtain ⟨hk3,hi3⟩:=hp
    obtain ⟨W4,hr,rfl,hl3,hl4,hk4⟩:=fin (some (.goto t)) W3 hk3
    exact ⟨_,_,hr,.inr ⟨rfl,.goto t,(hIx _).putObj _ hi3 (by omega) hl3 rfl,hl4,hk4⟩⟩
   | panic ch=>exact hp.elim
   | outgrown=>exact hp.elim
  ·rintro e W2 ⟨⟨v,rfl⟩,(⟨xs,hS,hi,hl,hk⟩ | ⟨pre,hSp,c,hi,hl,hk⟩)⟩
   ·exact ⟨none,_,run_endLoop (P:=P) hl (by simp [R,recOf]),hdone _ xs _ (by omega) hS (hI.putObj _ hi (by omega) hl rfl) ((World.putObj_heap_other (by omega)).trans hk)⟩
   ·exact ⟨some c,_,run_endLoop (P:=P) hl (by simp [R,recOf]),hstop _ c pre _ (by omega) hSp ((hIx c).putObj _ hi (by omega) hl rfl) ((World.putObj_heap_other (by omega)).trans hk)⟩
attribute [local go_sem] Oper.semAt_some
def ParsOk (l:List Queue):Prop:=∀ k,k < l.length→ParOk (par l k) k
def lineN (l:List Queue):Nat→Int→List Nat
 | 0,_=>[]
 | f+1,q=>if 0≤q then q.toNat::lineN l f (par l q.toNat) else []
def lineL (l:List Queue) (q:Int):List Nat:=lineN l (q+1).toNat q
theorem lineN_neg {l:List Queue} {q:Int} (h:q < 0):∀ f,lineN l f q=[]
 | 0=>rfl
 | f+1=>by simp only [lineN];rw [if_neg (by omega)]
theorem lineN_fuel {l:List Queue} (hp:ParsOk l):∀ (f g:Nat) (q:Int),q < l.length→q < f→q < g→lineN l f q=lineN l g q
 | 0,g,q,_,h1,_=>by rw [lineN_neg (by omega),lineN_neg (by omega)]
 | f+1,0,q,_,_,h2=>by rw [lineN_neg (by omega),lineN_neg (by omega)]
 | f+1,g+1,q,h0,h1,h2=>by
  simp only [lineN]
  by_cases h:0≤q
  ·rw [if_pos h,if_pos h]
   have hk:=hp q.toNat (by omega)
   rw [lineN_fuel hp f g (par l q.toNat) (by have:=hk.2;omega) (by have:=hk.2;omega) (by have:=hk.2;omega)]
  ·rw [if_neg h,if_neg h]
theorem lineL_neg {l:List Queue} {q:Int} (h:q < 0):lineL l q=[]:=lineN_neg h _
theorem lineL_pos {l:List Queue} (hp:ParsOk l) {k:Nat} (hk:k < l.length):lineL l (k:Int)=k::lineL l (par l k):=by
 have h:=hp k hk
 unfold lineL
 rw [show ((k:Int)+1).toNat=k+1 by omega]
 simp only [lineN]
 rw [if_pos (by omega),Int.toNat_natCast]
 rw [lineN_fuel hp k ((par l k)+1).toNat (par l k) (by have:=h.2;omega) h.2 (by omega)]
theorem lineL_lt {l:List Queue} (hp:ParsOk l):∀ (n:Nat) (q:Int),q < n→q < l.length→∀ k∈lineL l q,k < l.length∧(k:Int)≤q
 | n,q,hn,hq,k,hk=>by
  by_cases h:q < 0
  ·rw [lineL_neg h] at hk;cases hk
  ·obtain ⟨m,rfl⟩:∃ m:Nat,q=m:=⟨q.toNat,by omega⟩
   rw [lineL_pos hp (by omega)] at hk
   rcases List.mem_cons.1 hk with rfl | hk
   ·exact ⟨by omega,Int.le_refl _⟩
   ·have h2:=hp m (by omega)
    match n,hn with
    | n+1,hn =>
     have:=lineL_lt hp n (par l m) (by have:=h2.2;omega) (by have:=h2.2;omega) k hk
     exact ⟨this.1,by have:=h2.2;omega⟩
theorem lineL_len {l:List Queue} (hp:ParsOk l):∀ (n:Nat) (q:Int),q < n→q < l.length→(lineL l q).length≤(q+1).toNat
 | n,q,hn,hq=>by
  by_cases h:q < 0
  ·rw [lineL_neg h];simp
  ·obtain ⟨m,rfl⟩:∃ m:Nat,q=m:=⟨q.toNat,by omega⟩
   rw [lineL_pos hp (by omega)]
   have h2:=hp m (by omega)
   match n,hn with
   | n+1,hn =>
    have:=lineL_len hp n (par l m) (by have:=h2.2;omega) (by have:=h2.2;omega)
    have:=h2.2
    simp only [List.length_cons];omega
def boxNum (B:Nat) (W:World):Int:=match W.cell? ⟨B,0,none⟩ with | some (.int _ x)=>x | _=>0
theorem boxNum_of {W:World} {B:Nat} {t:TypeId} {k:IntKind} {x:Int} (h:Boxed W B t (.int k x)):boxNum B W=x:=by unfold boxNum;rw [h.cell]
theorem Up_any (w:World) (a:Option Addr) (len cap:Nat) (q:Int) :
  Calls Tryz.prog 129 #[.slice a len cap,.int .i64 q] w fun e w'=>e=.returned (.func (.func 167) #[] #[.pointer (some ⟨w.heap.size+1,0,none⟩),.pointer (some ⟨w.heap.size,0,none⟩)])∧w'=(w.alloc (.cells #[.slice a len cap] 22)).alloc (.cells #[.int .i64 q] 3):=by
 go_enter Tryz.func129,Tryz.ntmps129
 go_wp2_with fail
 go_ret
 exact ⟨rfl,rfl⟩
theorem up1_in (n:Nat) (hn:1≤n) (y Bl Bq b off cap:Nat) (l:List Queue) (q:Int) (hne1:Bl≠Bq) (hne2:b≠Bq) (hp:ParsOk l) (hq1:-1≤q) (hq2:q < l.length) (hl5:l.length≤17592186044416)
  (J Jx:List (Fin l.length)→World→Prop) (tJ:Turns Bq J)
  (hY:∀ pre x W,J pre W→pre.length < (lineL l q).length→YieldAt Fence.wide (n - 1) Tryz.prog y #[.int .i64 (x.1:Int)] W fun e W' =>
   (e=.returned (.bool true)∧J (pre++[x]) W'∧KeepB [Bl,Bq,b] W W')∨(e=.returned (.bool false)∧Jx (pre++[x]) W'))
  (W:World) (hBl:Boxed W Bl 22 (.slice (some ⟨b,off,none⟩) l.length cap)) (hBq:Boxed W Bq 3 (.int .i64 q)) (hb:b < W.heap.size) (hE:∀ k x,l[k]?=some x→W.cell? ⟨b,off+k*3+1,none⟩=some (.int .i64 x.Parent)) (h0:J [] W) :
  CallsIn Fence.wide n Tryz.prog 167 #[.func (.yield y) #[] #[],.pointer (some ⟨Bq,0,none⟩),.pointer (some ⟨Bl,0,none⟩)] W fun e W'=>(∃ v,e=.returned v) ∧
   ((∃ xs,xs.map (·.1)=lineL l q∧J xs W')∨(∃ pre,pre.map (·.1) <+: lineL l q∧Jx pre W')):=by
 refine callsIn_of_wp Tryz.func167 rfl trivial ?_ rfl
 simp only [Tryz.ntmps167,List.size_toArray,List.length_cons,List.length_nil,Nat.reduceAdd,Nat.reduceSub,Array.replicate_succ,Array.replicate_zero,List.push_toArray,List.append_toArray,List.nil_append,List.cons_append]
 have HE:=hid hE
 clear hE
 gi_wp2
 gi_loopw [] (fun wr=>∃ (pre:List (Fin l.length)) (qv:Int),Boxed wr Bq 3 (.int .i64 qv)∧-1≤qv∧qv < l.length∧Hid (pre.map (·.1)++lineL l qv=lineL l q)∧J pre wr∧KeepB [Bl,b] W wr)
  (fun wr=>(boxNum Bq wr+1).toNat)
 case atStart=>exact ⟨[],q,hBq,hq1,hq2,hid rfl,h0,KeepB.rf _ _⟩
 case round =>
  obtain ⟨pre,qv,hBv,hv1,hv2,HL,hJ,hK⟩:=hrel
  have hcq:=hBv.cell
  have hBl':Boxed wr Bl 22 (.slice (some ⟨b,off,none⟩) l.length cap):=(hK.same Bl (by simp) hBl.lt).trans hBl
  have hcl:=hBl'.cell
  by_cases h:0≤qv
  ·obtain ⟨k,rfl⟩:∃ k:Nat,qv=k:=⟨qv.toNat,by omega⟩
   have hkl:k < l.length:=by omega
   have hlen:pre.length < (lineL l q).length:=by
    rw [← HL.out,lineL_pos hp hkl];simp
   obtain ⟨x,hxk⟩:=getQ (l:=l) (k:=k) hkl
   obtain ⟨_,e2,_⟩:=at_some hxk
   have hE0:=HE.out k x hxk
   have hpk:=hp k hkl
   rw [e2] at hpk
   obtain ⟨hpk1,hpk2⟩:=hpk
   have HS:=hid (show (pre++[(⟨k,hkl⟩:Fin l.length)]).map (·.1)++lineL l x.Parent=lineL l q from by
    rw [← HL.out,lineL_pos hp hkl,e2];simp)
   obtain ⟨fn,tmps,assign,body,hy,hR⟩:=hY pre ⟨k,hkl⟩ wr hJ hlen
   dsimp only at hy
   clear hxk e2 HL
   gi_wp2
   refine hR.mono ?_
   rintro e W3 (⟨rfl,hJ3,hk3⟩ | ⟨rfl,hJx3⟩)
   ·have hK3:KeepB [Bl,b] W W3:=hK.tr ⟨hk3.size,fun j hj hl=>hk3.same j (by simp only [List.mem_cons,List.not_mem_nil,or_false] at hj ⊢;rcases hj with rfl | rfl <;> simp) hl⟩
    have hBl3:Boxed W3 Bl 22 (.slice (some ⟨b,off,none⟩) l.length cap):=(hK3.same Bl (by simp) hBl.lt).trans hBl
    have hBq3:Boxed W3 Bq 3 (.int .i64 (k:Int)):=(hk3.same Bq (by simp) hBv.lt).trans hBv
    have hE3:W3.cell? ⟨b,off+k*3+1,none⟩=some (.int .i64 x.Parent):=by
     rw [← hE0];exact World.cell?_of_block (a:=⟨b,off+k*3+1,none⟩) (hK3.same b (by simp) hb)
    have hcl3:=hBl3.cell
    have hcq3:=hBq3.cell
    have hfq3:=hBq3.frozen
    have HB:=hid (hBq3.set (.int .i64 x.Parent))
    have HJ:=hid (tJ _ _ _ _ hJ3 (grownBy_setCell' W3 Bq (.int .i64 x.Parent)) (fun r e=>(Option.some.inj e).symm))
    have HK:=hid (hK3.tr (KeepB.se (A:=W3) (b:=Bq) (.int .i64 x.Parent) (by simp;exact ⟨fun e=>hne1 e.symm,fun e=>hne2 e.symm⟩)))
    have HM:=hid (boxNum_of hBv)
    clear hE0 hcl hcq hy
    gi_wp2
    go_roundw
    case rel=>exact ⟨pre++[⟨k,hkl⟩],x.Parent,HB.out,hpk1,by omega,HS,HJ.out,HK.out⟩
    case measure=>rw [boxNum_of HB.out,HM.out];omega
   ·have Hx:=hid (show (pre++[(⟨k,hkl⟩:Fin l.length)]).map (·.1) <+: lineL l q from ⟨_,HS.out⟩)
    clear hy
    gi_wp2
    go_end0
    exact ⟨⟨_,rfl⟩,.inr ⟨_,Hx.out,hJx3⟩⟩
  ·have Hx:=hid (show pre.map (·.1)=lineL l q from by rw [← HL.out,lineL_neg (by omega)];simp)
   have h':qv < 0:=by omega
   clear h
   gi_wp2
   refine ⟨fun _ h=>(by cases h),?_⟩
   gi_wp2
   go_end0
   exact ⟨⟨_,rfl⟩,.inl ⟨_,Hx.out,hJ⟩⟩
theorem up_seq (n:Nat) (hn:1≤n) (Bl Bq b off cap:Nat) (l:List Queue) (q:Int) (hne1:Bl≠Bq) (hne2:b≠Bq) (hp:ParsOk l) (hq1:-1≤q) (hq2:q < l.length) (hl5:l.length≤17592186044416)
  (w:World) (hBl:Boxed w Bl 22 (.slice (some ⟨b,off,none⟩) l.length cap)) (hBq:Boxed w Bq 3 (.int .i64 q)) (hb:b < w.heap.size) (hE:∀ k x,l[k]?=some x→w.cell? ⟨b,off+k*3+1,none⟩=some (.int .i64 x.Parent)) :
  SeqOf n Tryz.prog 167 #[.pointer (some ⟨Bq,0,none⟩),.pointer (some ⟨Bl,0,none⟩)] (fun x:Fin l.length=>#[Value.int .i64 (x.1:Int)]) (KeepB [Bl,Bq,b]) (fun xs=>xs.map (·.1)=lineL l q) (fun pre=>pre.map (·.1) <+: lineL l q) (lineL l q).length Bq w :=
 fun y J Jx W hW tJ _ hY h0=>up1_in n hn y Bl Bq b off cap l q hne1 hne2 hp hq1 hq2 hl5 J Jx tJ hY W ((hW.block Bl hBl.lt).trans hBl) ((hW.block Bq hBq.lt).trans hBq) (Nat.lt_of_lt_of_le hb hW.size)
  (fun k x hk=>(hW.cell (p:=⟨b,off+k*3+1,none⟩) hb).trans (hE k x hk)) h0
attribute [local go_sem] Oper.semAt_some
structure UpAt (w:World) (Bl Bq b off cap:Nat) (l:List Queue) (q:Int):Prop where
 ne1:Bl≠Bq
 ne2:b≠Bq
 pars:ParsOk l
 q1:-1≤q
 q2:q < l.length
 l5:l.length≤5
 boxL:Boxed w Bl 22 (.slice (some ⟨b,off,none⟩) l.length cap)
 boxQ:Boxed w Bq 3 (.int .i64 q)
 hb:b < w.heap.size
 cells:∀ k x,l[k]?=some x→w.cell? ⟨b,off+k*3+1,none⟩=some (.int .i64 x.Parent)
theorem UpAt.ext {w w':World} {Bl Bq b off cap:Nat} {l:List Queue} {q:Int} (h:UpAt w Bl Bq b off cap l q) (hx:Ext w w'):UpAt w' Bl Bq b off cap l q :=
 { h with boxL:=(hx.block Bl h.boxL.lt).trans h.boxL,boxQ:=(hx.block Bq h.boxQ.lt).trans h.boxQ,hb:=Nat.lt_of_lt_of_le h.hb hx.size,cells:=fun k x hk=>hx.ce' (h.cells k x hk) }
theorem UpAt.seq {w:World} {Bl Bq b off cap:Nat} {l:List Queue} {q:Int} (h:UpAt w Bl Bq b off cap l q) (n:Nat) (hn:1≤n) :
  SeqOf n Tryz.prog 167 #[.pointer (some ⟨Bq,0,none⟩),.pointer (some ⟨Bl,0,none⟩)] (fun x:Fin l.length=>#[Value.int .i64 (x.1:Int)]) (KeepB [Bl,Bq,b]) (fun xs=>xs.map (·.1)=lineL l q) (fun pre=>pre.map (·.1) <+: lineL l q) (lineL l q).length Bq w :=
 up_seq n hn Bl Bq b off cap l q h.ne1 h.ne2 h.pars h.q1 h.q2 (by have:=h.l5;omega) w h.boxL h.boxQ h.hb h.cells
theorem UpAt.lt {w:World} {Bl Bq b off cap:Nat} {l:List Queue} {q:Int} (h:UpAt w Bl Bq b off cap l q):∀ j∈[Bl,Bq,b],j < w.heap.size:=by
 intro j hj
 simp only [List.mem_cons,List.not_mem_nil,or_false] at hj
 rcases hj with rfl | rfl | rfl
 ·exact h.boxL.lt
 ·exact h.boxQ.lt
 ·exact h.hb
theorem lineL_five {l:List Queue} {q:Int} (hp:ParsOk l) (h2:q < l.length) (h5:l.length≤5):(lineL l q).length≤5:=by
 have:=lineL_len hp l.length q (by omega) h2
 omega
theorem Tryz.info3:(Tryz.prog.info? 3).map (fun i=>(i.zero,i.size,i.bytes))=some (some (.int .i64 0),1,8):=by kernel_rfl
theorem any_false {n:Nat} {p:Nat→Bool} (h:(List.range n).any p=false):∀ k,k < n→p k=false:=fun k hk=>by
 have:=List.any_eq_false.1 h k (List.mem_range.2 hk)
 simpa using this
structure TreeOk (l:List Queue):Prop where
 n1:1≤l.length
 n5:l.length≤5
 names:∀ k,k < l.length→NameOk (nm l k)
 diff:∀ i k,i < k→k < l.length→nm l i≠nm l k
 pars:ParsOk l
 caps:∀ k,k < l.length→CapOk (cp l k)
theorem checkT_ok {l:List Queue} (h:checkT l=0):TreeOk l:=by
 unfold checkT at h
 by_cases h1:¬ (1≤l.length∧l.length≤5)
 ·rw [if_pos h1] at h;omega
 rw [if_neg h1] at h
 by_cases h2:(List.range l.length).any (p2 l)=true
 ·rw [if_pos h2] at h;omega
 rw [if_neg h2] at h
 by_cases h3:(List.range l.length).any (p3 l)=true
 ·rw [if_pos h3] at h;omega
 rw [if_neg h3] at h
 by_cases h4:(List.range l.length).any (p4 l)=true
 ·rw [if_pos h4] at h;omega
 rw [if_neg h4] at h
 by_cases h5:(List.range l.length).any (p5 l)=true
 ·rw [if_pos h5] at h;omega
 have g2:=any_false (Bool.eq_false_iff.2 h2)
 have g3:=any_false (Bool.eq_false_iff.2 h3)
 have g4:=any_false (Bool.eq_false_iff.2 h4)
 have g5:=any_false (Bool.eq_false_iff.2 h5)
 exact {
  n1:=by omega
  n5:=by omega
  names:=fun k hk=>Classical.byContradiction fun h=>by have:=g2 k hk;unfold p2 at this;exact of_decide_eq_false this h
  diff:=fun i k hi hk e=>by have:=g3 k hk;rw [p3_true hi e] at this;cases this
  pars:=fun k hk=>Classical.byContradiction fun h=>by have:=g4 k hk;unfold p4 at this;rw [deF h] at this;cases this
  caps:=fun k hk=>Classical.byContradiction fun h=>by have:=g5 k hk;unfold p5 at this;exact of_decide_eq_false this h }
theorem queues_at {w:World} {v:Value} {l:List Queue} (hv:QueuesV w v l) (h1:1≤l.length):∃ b off cap,v=.slice (some ⟨b,off,none⟩) l.length cap∧l.length≤cap∧cap≤9223372036854775807∧b < w.heap.size∧∀ k x,l[k]?=some x→EQueue w b (off+k*3) x:=by
 rcases hv with ⟨rfl,_⟩ | ⟨b,off,cap,rfl,h2,h3,h4,h5,h6⟩
 ·simp at h1
 ·exact ⟨b,off,cap,rfl,h2,h3,h5,h6⟩
theorem upAt_new (w:World) (b off cap:Nat) (l:List Queue) (q:Int) (hp:ParsOk l) (hq1:-1≤q) (hq2:q < l.length) (h5:l.length≤5) (hb:b < w.heap.size) (hE:∀ k x,l[k]?=some x→EQueue w b (off+k*3) x) :
  UpAt ((w.alloc (.cells #[.slice (some ⟨b,off,none⟩) l.length cap] 22)).alloc (.cells #[.int .i64 q] 3)) w.heap.size (w.heap.size+1) b off cap l q:=by
 have hx:=((Ext.rf w).al (.cells #[.slice (some ⟨b,off,none⟩) l.length cap] 22)).al (.cells #[.int .i64 q] 3)
 refine { ne1:=by omega,ne2:=by omega,pars:=hp,q1:=hq1,q2:=hq2,l5:=h5,boxL:=(Boxed.new w _ _).alloc _,boxQ:=?_,hb:=Nat.lt_of_lt_of_le hb hx.size,cells:=fun k x hk=>?_ }
 ·have:=Boxed.new (w.alloc (.cells #[.slice (some ⟨b,off,none⟩) l.length cap] 22)) 3 (.int .i64 q)
  rwa [World.size_alloc] at this
 ·exact hx.ce' (hE k x hk).2.2.1
theorem one1 (k:IntKind) (a:Int):∀ u∈[Value.int k a],u.oneCell'=true:=by simp [Value.oneCell']
theorem new1 (W:World) {B:Nat} (hB:B=W.heap.size) (a:Value) (t:TypeId):∀ (j:Nat) u,[a][j]?=some u→(W.alloc (.cells #[a] t)).cell? ((⟨B,0,none⟩:Addr).add j)=some u:=by
 subst hB;exact cell_one_new W a t
attribute [local go_sem] Oper.semAt_some
def under (l:List Queue) (k q:Int):Bool:=((lineL l k).map fun j:Nat=>(j:Int)).contains q
theorem under_iff {l:List Queue} {k q:Int}:under l k q=true↔∃ j∈lineL l k,(j:Int)=q:=by
 unfold under
 rw [List.contains_iff_mem,List.mem_map]
theorem under_no {l:List Queue} {k q:Int} (h:∀ j∈lineL l k,(j:Int)≠q):under l k q=false:=by
 rw [Bool.eq_false_iff]
 intro h'
 obtain ⟨j,h1,h2⟩:=under_iff.1 h'
 exact h j h1 h2
theorem Beneath_any (w:World) (v:Value) (l:List Queue) (k q:Int) (hv:QueuesV w v l) (hp:ParsOk l) (h5:l.length≤5) (hk1:0≤k) (hk2:k < l.length) :
  Calls Tryz.prog 176 #[v,.int .i64 k,.int .i64 q] w fun e w'=>e=.returned (.bool (under l k q))∧Ext w w':=by
 obtain ⟨b,off,cap,rfl,hcap,hc9,hb,hE⟩:=queues_at hv (by omega)
 refine (callsIn_wide (n:=3)).1 ?_
 refine callsIn_of_wp_marks Tryz.func176 rfl trivial ?_ rfl
 simp only [Tryz.ntmps176,List.size_toArray,List.length_cons,List.length_nil,Nat.reduceAdd,Nat.reduceSub,Array.replicate_succ,Array.replicate_zero,List.push_toArray,List.append_toArray,List.nil_append,List.cons_append]
 obtain ⟨w2,hw2⟩:∃ w2,(w.alloc (.cells #[.int .i64 q] 3)).alloc (.cells #[.bool false] 4)=w2:=⟨_,rfl⟩
 have hx2:Ext w w2:=by rw [← hw2];exact ((Ext.rf w).al _).al _
 have hs2:w2.heap.size=w.heap.size+1+1:=by rw [← hw2];simp
 have bQ:Boxed w2 w.heap.size 3 (.int .i64 q):=by rw [← hw2];exact (Boxed.new w _ _).alloc _
 have bR:Boxed w2 (w.heap.size+1) 4 (.bool false):=by
  rw [← hw2];have:=Boxed.new (w.alloc (.cells #[.int .i64 q] 3)) 4 (.bool false);rwa [World.size_alloc] at this
 have U:=upAt_new w2 b off cap l k hp (by omega) hk2 h5 (Nat.lt_of_lt_of_le hb hx2.size) (fun k x hk=>EQueue.mono w w2 b _ x hx2 (hE k x hk))
 have hlt:=U.lt
 have hbb:b < w.heap.size:=hb
 have hx4:=(hx2.al (.cells #[.slice (some ⟨b,off,none⟩) l.length cap] 22)).al (.cells #[.int .i64 k] 3)
 have bQ4:=(bQ.alloc (.cells #[.slice (some ⟨b,off,none⟩) l.length cap] 22)).alloc (.cells #[.int .i64 k] 3)
 have bR4:=(bR.alloc (.cells #[.slice (some ⟨b,off,none⟩) l.length cap] 22)).alloc (.cells #[.int .i64 k] 3)
 have hle2:w.heap.size+1 < w2.heap.size:=by omega
 have HU:=hid U
 have Hlt:=hid hlt
 have Hx4:=hid hx4
 have HQ4:=hid bQ4
 have HR4:=hid bR4
 have Hw2:=hid hw2
 have Hs2:=hid hs2
 have HUp:=hid (fun (W:World)=>Up_any W (some ⟨b,off,none⟩) l.length cap k)
 clear hv hE U hlt hx4 bQ4 bR4 bQ bR hw2 hs2 hx2
 gi_wp2
 refine ⟨trivial,(callsIn_wide.2 (HUp.out _)).mono ?_⟩
 rintro e w' ⟨rfl,rfl⟩
 rw [Hw2.out]
 gi_wp2
 refine wp_rangeOf (by omega) (gf:=167) (lb:=#[.pointer (some ⟨w2.heap.size+1,0,none⟩),.pointer (some ⟨w2.heap.size,0,none⟩)]) rfl (enters_of Tryz.func167 (by kernel_rfl) rfl)
  (HU.out.seq _ (by omega)) (fun h k=>h.tr k) (KeepB.put Hlt.out) (Below.refl _ _) (by simp) (fun _=>rfl)
  (fun pre W=>(∀ y∈pre,(y.1:Int)≠q)∧(Boxed W w.heap.size 3 (.int .i64 q)∧Boxed W (w.heap.size+1) 4 (.bool false))∧Below w.heap.size w W)
  (fun c pre W=>(c=.ret∧∃ y∈pre,(y.1:Int)=q)∧Boxed W (w.heap.size+1) 4 (.bool true)∧Below w.heap.size w W)
  (OwnFrom.and (ownFrom_pure _ _) (OwnFrom.and (OwnFrom.and (Own.from (boxed_own _ _ _) _) (Own.from (boxed_own _ _ _) _)) (ownFrom_below (Nat.le_refl _) (by simp;omega))))
  (fun c=>OwnFrom.and (ownFrom_pure _ _) (OwnFrom.and (Own.from (boxed_own _ _ _) _) (ownFrom_below (Nat.le_refl _) (by simp;omega))))
  (fun s A B row hs hg hr=>⟨hs.1,⟨hs.2.1.1.kept hg (fun e=>by have:=hr _ e.symm;omega),hs.2.1.2.kept hg (fun e=>by have:=hr _ e.symm;omega)⟩,hs.2.2.grown hg hs.2.2.size (fun k e=>by rw [hr k e];omega)⟩)
  (fun c s A B row hs hg hr=>⟨hs.1,hs.2.1.kept hg (fun e=>by have:=hr _ e.symm;omega),hs.2.2.grown hg hs.2.2.size (fun k e=>by rw [hr k e];omega)⟩)
  ⟨(fun y hy=>by cases hy),⟨HQ4.out,HR4.out⟩,Hx4.out⟩
  ?a1 ?assign ?body ?done ?stop
 case assign =>
  intro y x W K hK
  gi_wp2
  exact hK
 case body =>
  rintro y pre x W ⟨hne,⟨hbq,hbr⟩,hB⟩ hlen
  have hcq:=hbq.cell
  have hcr:=hbr.cell
  have hfr:=hbr.frozen
  by_cases hxq:(x.1:Int)=q
  ·have Hxq:=hid hxq
   have ht:=eqT hxq
   have Hend:=hid (And.intro (KeepsFrom.se (B:=((w2.alloc (.cells #[.slice (some ⟨b,off,none⟩) l.length cap] 22)).alloc (.cells #[.int .i64 k] 3)).heap.size) W (w.heap.size+1) (.bool true)) (And.intro (hbr.set (.bool true)) (hB.setCell (p:=⟨w.heap.size+1,0,none⟩) (Nat.le_succ _) (.bool true))))
   clear hxq hne
   gi_wp2
   exact ⟨Hend.out.1,⟨rfl,x,List.mem_append.2 (.inr (by simp)),Hxq.out⟩,Hend.out.2.1,Hend.out.2.2⟩
  ·have ht:=eqF hxq
   have Hne:=hid (show ∀ y∈pre++[x],(y.1:Int)≠q from fun y hy=>by
    rcases List.mem_append.1 hy with h | h
    ·exact hne y h
    ·rw [List.mem_singleton.1 h];exact hxq)
   clear hxq hne
   gi_wp2
   exact ⟨KeepsFrom.refl _ _,KeepB.rf _ _,Hne.out,⟨hbq,hbr⟩,hB⟩
 case done =>
  rintro D ys W hD hys ⟨hne,⟨hbq,hbr⟩,hB⟩ hK
  have hcr:=hbr.cell
  have hfr:=hbr.frozen
  have Hno:=hid (show under l k q=false from under_no (fun j hj=>by
   rw [← hys] at hj
   obtain ⟨y,hy,rfl⟩:=List.mem_map.1 hj
   exact hne y hy))
  have hK':=(KeepsOthers.setCell W ⟨w.heap.size+1,0,none⟩ (.bool false)).same D _ hK rfl
  have hc5:=cell_kept ((hbr.set (.bool false)).cell) (grownBy_putObj' _ D (.deferred none)) (fun r e=>by cases e;exact ⟨_,hK',rfl⟩)
  have Hend:=hid ((hB.setCell (p:=⟨w.heap.size+1,0,none⟩) (Nat.le_succ _) (.bool false)).trans (belowK_b (w:=w) (Nat.le_refl _) _ D _ (.deferred none) (by simp at hD;omega) hK' rfl rfl))
  clear hne hys
  gi_wp2
  refine ⟨by simp,.inl ⟨_,_,rfl,run_takeDeferred hK',?_⟩⟩
  refine ⟨.bool false,?_,by rw [Hno.out],Hend.out⟩
  simp [results,Tryz.f176,go_sem,hc5]
 case stop =>
  rintro D c pre W hD hpre ⟨⟨rfl,y,hy,hyq⟩,hbr,hB⟩ hK
  have Hyes:=hid (show under l k q=true from under_iff.2 ⟨y.1,hpre.subset (List.mem_map.2 ⟨y,hy,rfl⟩),hyq⟩)
  have hc5:=cell_kept hbr.cell (grownBy_putObj' _ D (.deferred none)) (fun r e=>by cases e;exact ⟨_,hK,rfl⟩)
  have Hend:=hid (hB.trans (belowK_b (w:=w) (Nat.le_refl _) _ D _ (.deferred none) (by simp at hD;omega) hK rfl rfl))
  clear hpre hyq
  gi_wp2
  refine ⟨by simp,.inl ⟨_,_,rfl,run_takeDeferred hK,?_⟩⟩
  refine ⟨.bool true,?_,by rw [Hyes.out],Hend.out⟩
  simp [results,Tryz.f176,go_sem,hc5]
end Go.Proofs.YtdcndkojmflhnaaGreat
