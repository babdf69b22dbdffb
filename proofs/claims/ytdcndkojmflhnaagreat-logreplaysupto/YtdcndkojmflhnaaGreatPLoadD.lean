/- A fence, and the loads; each theorem names its own conditions. -/
import Derived.RangeFuncNested
import Derived.RangeFuncBound
import Derived.RangeFuncCalls
import Derived.RangeFuncLeaves
import Derived.RangeFuncBox
import Derived.OrdersIn
import Derived.Deep.RegionHeld3
import Derived.WalkKit
import Derived.Test.YtdcndkojmflhnaaGreatPLoadB
/- A region that draws its order in a round of a range over a function: what is shown of it anywhere holds there. -/
set_option linter.unusedVariables false
set_option maxRecDepth 100000
set_option maxHeartbeats 8000000
set_option linter.unusedSimpArgs false
set_option linter.unusedVariables false
namespace Go.Proofs.YtdcndkojmflhnaaGreat
open Go.RowKit
open List renaming getElem_toArray→zA,getElem_cons_zero→zB,getElem_cons_succ→zC,setIfInBounds_toArray→zD,set_cons_zero→zE,set_cons_succ→zF
section
variable {P:Program} {ops:Array Oper} {Q:Exit→Act→World→Prop} {md:Region.Mode}
def noDeferB (ops:Array Oper):Bool:=ops.all fun o=>match o.op with | .defer _=>false | _=>true
theorem noDefer_spec (h:noDeferB ops=true) {i:Nat} {o:Oper} (ho:ops[i]?=some o):∀ c,o.op≠.defer c:=by
 intro c hc
 have:=Array.all_eq_true.1 h i (Array.getElem?_eq_some_iff.1 ho).1
 rw [(Array.getElem?_eq_some_iff.1 ho).2,hc] at this
 cases this
theorem wpOpIn_of_wpOp {n l i:Nat} (hd:noDeferB ops=true) (hQ:¬ LetsOut Q) {K:Act→World→Prop} {a:Act} {w:World} (h:wpOp P ops Q i K a w):wpOpIn (Fence.wide.inRound l) n P ops Q i K a w:=by
 unfold wpOp at h
 unfold Go.wpOpIn
 cases ho:ops[i]? with
 | none=>simpa only [ho] using h
 | some o =>
  simp only [ho] at h ⊢
  split
  ·rename_i hw
   rw [if_pos hw] at h
   rcases h with h | ⟨_,h⟩
   ·unfold Oper.wp at h
    unfold Oper.wpIn
    refine ⟨fun f _=>trivial,?_⟩
    rw [Oper.semAt_eq _ _ _ (noDefer_spec hd ho)]
    generalize (execOp a.eval o).run P w=r at *
    cases r with
    | ok x w' =>
     cases x <;> simp only [Oper.upon] at h <;> simp only [Oper.uponIn]
     case value v=>exact h
     case skip=>exact h
     case defer d=>exact h
     case enter f args=>exact ⟨fun h'=>(by cases h'),CallsIn.inRound l (callsIn_wide.2 h)⟩
     case row row args =>
      refine ⟨fun h'=>(by cases h'),fun c cs _=>?_⟩
      obtain ⟨v,w',r,s⟩:=h c cs
      exact ⟨v,w',r,stepsIn_wide.2 s⟩
    | halt x w'=>cases x <;> simp only [Oper.upon] at h <;> simp only [Oper.uponIn] <;> exact h
   ·exact absurd h hQ
  ·rename_i hw
   rw [if_neg hw] at h
   exact ⟨fun f _=>trivial,h⟩
theorem wpAnyIn_of_wpAny {n l:Nat} (hd:noDeferB ops=true) (hQ:¬ LetsOut Q):∀ (fuel:Nat) (listed:Array Bool) (a:Act) (w:World),wpAny P md ops Q fuel listed a w→wpAnyIn (Fence.wide.inRound l) n P md ops Q fuel listed a w
 | 0,_,_,_,h=>h
 | fuel+1,_,_,_,h=>⟨h.1,fun i hi=>wpOpIn_mono (fun a' w' h'=>wpAnyIn_of_wpAny hd hQ fuel _ a' w' h') (wpOpIn_of_wpOp hd hQ (h.2 i hi))⟩
theorem wpIn_round_held {S:World→Prop} {n l id:Nat} {a:Act} {w:World} (G:World→Prop) (hm:P.follows .mixedOrders=true) (hd:noDeferB ops=true) (hG:∀ a' w',G w'→Q .normal a' w')
  (h:wpAnyH P .any ops (fun e _ w'=>e=.normal∧G w') S ops.size (Array.replicate ops.size false) a w.drew):(Code.region id ops true).wpIn (Fence.wide.inRound l) n P Q a w:=by
 refine wpIn_mono (Q:=fun e _ w'=>e=.normal∧G w') (wpIn_region_any hm (wpAnyIn_of_wpAny hd (fun h=>by obtain ⟨_,_,h,_⟩:=h;cases h) _ _ _ _ (wpAny_of_held _ _ _ _ h))) ?_
 rintro e a' w' ⟨rfl,hg⟩
 exact hG a' w' hg
theorem wpIn_round_heldA {S:World→Prop} {n l id:Nat} {a:Act} {w:World} (G:Act→World→Prop) (hm:P.follows .mixedOrders=true) (hd:noDeferB ops=true) (hG:∀ a' w',G a' w'→Q .normal a' w')
  (h:wpAnyH P .any ops (fun e a' w'=>e=.normal∧G a' w') S ops.size (Array.replicate ops.size false) a w.drew):(Code.region id ops true).wpIn (Fence.wide.inRound l) n P Q a w:=by
 refine wpIn_mono (Q:=fun e a' w'=>e=.normal∧G a' w') (wpIn_region_any hm (wpAnyIn_of_wpAny hd (fun h=>by obtain ⟨_,_,h,_⟩:=h;cases h) _ _ _ _ (wpAny_of_held _ _ _ _ h))) ?_
 rintro e a' w' ⟨rfl,hg⟩
 exact hG a' w' hg
end
attribute [local go_sem] Oper.semAt_some
theorem Tryz.info29:(Tryz.prog.info? 29).map (fun i=>(i.zero,i.size,i.bytes))=some (some (.slice none 0 0),1,24):=by kernel_rfl
theorem make_loads (n:Nat) (h:n≤5) (w:World):(Instr.makeSlice 162 (.int .i64 (n:Int)) (.int .i64 (n:Int))).run Tryz.prog w=.ok (.slice (some ⟨w.heap.size,0,none⟩) n n) (w.alloc (.cells (List.replicate n (Value.slice none 0 0)).toArray 29)):=by
 obtain ⟨i,h1,h2,h3,h4⟩:=info_parts Tryz.info29
 exact run_make_one Tryz.underlying162 h1 h2 rfl h3 n (by rw [h4];omega) (by omega) w
def LoadsTo (k:Nat) (W:World) (B n:Nat):Prop :=
 ∃ vs:List Value,vs.length=n∧RowAt 29 W B vs∧∀ j v,j < k→vs[j]?=some v→RunsV W v (fold fun _=>0)∧ApartL [B] v
theorem LoadsTo.new (W:World) (n:Nat):LoadsTo 0 (W.alloc (.cells (List.replicate n (Value.slice none 0 0)).toArray 29)) W.heap.size n :=
 ⟨_,by simp,RowAt.new W _,fun j v hj=>by omega⟩
theorem LoadsTo.ext {k:Nat} {W W':World} {B n:Nat} (h:LoadsTo k W B n) (hx:Ext W W'):LoadsTo k W' B n:=by
 obtain ⟨vs,h1,h2,h3⟩:=h
 exact ⟨vs,h1,h2.ext hx,fun j v hj hk=>⟨(h3 j v hj hk).1.mono hx,(h3 j v hj hk).2⟩⟩
theorem LoadsTo.row {k:Nat} {W:World} {B n:Nat} (h:LoadsTo k W B n) {j:Nat} (hj:j < n):∃ v,W.cell? ⟨B,j,none⟩=some v∧W.frozen? ⟨B,j,none⟩=false∧B < W.heap.size:=by
 obtain ⟨vs,h1,h2,h3⟩:=h
 obtain ⟨v,hv⟩:=getA (f:=vs) (k:=j) (by omega)
 exact ⟨v,h2.cell hv,h2.free j,h2.lt⟩
theorem zero_lit (W:World):RunsV (W.alloc (.cells #[.int .i64 0,.int .i64 0] 48)) (.slice (some ⟨W.heap.size,0,none⟩) 1 1) (fold fun _=>0):=by
 rw [fold_zero]
 exact runs_lit (w:=W) (cs:=#[.int .i64 0,.int .i64 0]) (b:=W.heap.size) (n:=1) [⟨0,0⟩] (by simp) rfl rfl (by decide) (lit_nums (by decide +kernel))
theorem LoadsTo.step {k:Nat} {W:World} {B n:Nat} (h:LoadsTo k W B n) (hk:k < n):LoadsTo (k+1) ((W.alloc (.cells #[.int .i64 0,.int .i64 0] 48)).setCell ⟨B,k,none⟩ (.slice (some ⟨W.heap.size,0,none⟩) 1 1)) B n:=by
 obtain ⟨_,_,_,hlt⟩:=h.row hk
 have hZ:=zero_lit W
 obtain ⟨vs,h1,h2,h3⟩:=h.ext ((Ext.rf W).al (.cells #[.int .i64 0,.int .i64 0] 48))
 have hg:=grown_set (W.alloc (.cells #[.int .i64 0,.int .i64 0] 48)) B k (.slice (some ⟨W.heap.size,0,none⟩) 1 1)
 have hr:∀ r,some B=some r→r∈[B]:=fun r e=>by cases e;exact List.mem_singleton.2 rfl
 have ha:ApartL [B] (.slice (some ⟨W.heap.size,0,none⟩) 1 1):=apart_at (fun h=>by have:=List.mem_singleton.1 h;omega)
 refine ⟨vs.set k _,by simpa using h1,h2.set k _,fun j u hj hu=>?_⟩
 by_cases e:j=k
 ·subst e
  rw [List.getElem?_set_self (by omega)] at hu
  cases hu
  exact ⟨runs_grown hZ ha hg hr,ha⟩
 ·rw [List.getElem?_set_ne (fun h=>e h.symm)] at hu
  obtain ⟨q1,q2⟩:=h3 j u (by omega) hu
  exact ⟨runs_grown q1 q2 hg hr,q2⟩
theorem LoadsTo.all {W:World} {B n:Nat} (h:LoadsTo n W B n) (F:Nat→Nat→Int) (hF:∀ k t,F k t=0):LoadsAt [B] W B n F:=by
 obtain ⟨vs,h1,h2,h3⟩:=h
 refine ⟨vs,h1,h2,fun k v hk=>?_⟩
 rw [show F k=fun _=>0 from funext fun t=>hF k t]
 exact h3 k v (by have:=(List.getElem?_eq_some_iff.1 hk).1;omega) hk
def DefAt (base:Nat) (ds:List Deferred) (W:World):Prop :=
 ∃ Ds:List Nat,ds=Ds.map (fun D=>{ target:=.collected D,args:=#[] })∧Ds.Nodup∧∀ D∈Ds,base≤D∧W.heap[D]?=some (.deferred (some []))
theorem DefAt.nil (base:Nat) (W:World):DefAt base [] W:=⟨[],rfl,List.nodup_nil,fun _ h=>by cases h⟩
theorem DefAt.kept {base:Nat} {ds:List Deferred} {W W':World} {row:Option Nat} (h:DefAt base ds W) (hg:W.grownBy W' row) (hr:∀ r,row=some r→W.heap[r]?≠some (.deferred (some []))):DefAt base ds W':=by
 obtain ⟨Ds,h1,h2,h3⟩:=h
 exact ⟨Ds,h1,h2,fun D hD=>⟨(h3 D hD).1,(hg.block D (Array.getElem?_eq_some_iff.1 (h3 D hD).2).1 (fun e=>hr D e.symm (h3 D hD).2)).trans (h3 D hD).2⟩⟩
theorem DefAt.ext {base:Nat} {ds:List Deferred} {W W':World} (h:DefAt base ds W) (hx:Ext W W'):DefAt base ds W':=by
 obtain ⟨Ds,h1,h2,h3⟩:=h
 exact ⟨Ds,h1,h2,fun D hD=>⟨(h3 D hD).1,(hx.block D (Array.getElem?_eq_some_iff.1 (h3 D hD).2).1).trans (h3 D hD).2⟩⟩
theorem DefAt.set {base:Nat} {ds:List Deferred} {W:World} (h:DefAt base ds W) {b o:Nat} {v u:Value} (hc:W.cell? ⟨b,o,none⟩=some u):DefAt base ds (W.setCell ⟨b,o,none⟩ v) :=
 h.kept (grown_set W b o v) (fun r e h=>by cases e;simp [World.cell?,h] at hc)
theorem DefAt.cons {base:Nat} {ds:List Deferred} {W:World} (h:DefAt base ds W) {D:Nat} (hD:base≤D) (hk:W.heap[D]?=some (.deferred (some []))) (hn:∀ E,({ target:=.collected E,args:=#[] }:Deferred)∈ds→E≠D):DefAt base ({ target:=.collected D,args:=#[] }::ds) W:=by
 obtain ⟨Ds,rfl,h2,h3⟩:=h
 refine ⟨D::Ds,rfl,List.nodup_cons.2 ⟨fun hm=>hn D (List.mem_map.2 ⟨D,hm,rfl⟩) rfl,h2⟩,fun E hE=>?_⟩
 rcases List.mem_cons.1 hE with rfl | hE
 ·exact ⟨hD,hk⟩
 ·exact h3 E hE
theorem DefAt.mem {base:Nat} {ds:List Deferred} {W:World} (h:DefAt base ds W) {E:Nat} (hE:({ target:=.collected E,args:=#[] }:Deferred)∈ds):E < W.heap.size:=by
 obtain ⟨Ds,rfl,h2,h3⟩:=h
 obtain ⟨D,hD,e⟩:=List.mem_map.1 hE
 cases e
 exact (Array.getElem?_eq_some_iff.1 (h3 E hD).2).1
theorem leaves_def {F:Fence} {n:Nat} {P:Program} {fn:Func} {tmps:Array Value} {R:Ending→World→Prop} {base:Nat} (I:World→Prop)
  (hI:∀ (W:World) (l:Nat),base≤l→W.heap[l]?=some (.deferred (some []))→I W→I (W.putObj l (.deferred none)))
  (hR:∀ W,I W→LeavesIn F n P fn tmps R [] .returning W):∀ (ds:List Deferred) (W:World),DefAt base ds W→I W→LeavesInM F n P fn tmps R ds .returning W:=by
 intro ds W hd hi
 obtain ⟨Ds,rfl,hn,hD⟩:=hd
 induction Ds generalizing W with
 | nil=>exact hR W hi
 | cons D Ds ih =>
  obtain ⟨h1,h2⟩:=hD D (List.mem_cons_self ..)
  refine ⟨by simp,.inl ⟨D,_,rfl,run_takeDeferred h2,?_⟩⟩
  refine ih _ (hI W D h1 h2 hi) (List.nodup_cons.1 hn).2 (fun E hE=>?_)
  obtain ⟨e1,e2⟩:=hD E (List.mem_cons_of_mem _ hE)
  refine ⟨e1,(World.putObj_heap_other (fun e=>?_)).trans e2⟩
  subst e
  exact (List.nodup_cons.1 hn).1 hE
structure TakeIn (w:World) (B Bo Bf Bq n top:Nat) (vf:Value) (ds:List Deferred) (f:Nat→Int) (F:Nat→Nat→Int) (W:World):Prop where
 loads:LoadsAt [Bq,B] W B n F
 box:Boxed W Bo 162 (.slice (some ⟨B,0,none⟩) n n)
 boxf:Boxed W Bf 29 vf
 runs:RunsV W vf (fold f)
 apart:ApartL [Bq,B] vf
 defs:DefAt w.heap.size ds W
 ext:Ext w W
 hi:top≤W.heap.size
structure TakeLie (w:World) (B Bo Bf Bq top:Nat) (ds:List Deferred):Prop where
 b:w.heap.size≤B∧B < top∧B≠Bq
 o:Bo < top∧Bo≠Bq∧Bo≠B
 f:Bf < top∧Bf≠Bq∧Bf≠B
 q:w.heap.size≤Bq∧Bq < top
 defs:∀ E,({ target:=.collected E,args:=#[] }:Deferred)∈ds→E < Bq
theorem DefAt.kept' {base:Nat} {ds:List Deferred} {W W':World} {row:Option Nat} (h:DefAt base ds W) (hg:W.grownBy W' row) (hr:∀ r,row=some r→∀ E,({ target:=.collected E,args:=#[] }:Deferred)∈ds→E≠r):DefAt base ds W':=by
 obtain ⟨Ds,rfl,h2,h3⟩:=h
 exact ⟨Ds,rfl,h2,fun D hD=>⟨(h3 D hD).1,(hg.block D (Array.getElem?_eq_some_iff.1 (h3 D hD).2).1 (fun e=>hr D e.symm D (List.mem_map.2 ⟨D,hD,rfl⟩) rfl)).trans (h3 D hD).2⟩⟩
section
variable {w:World} {B Bo Bf Bq n top:Nat} {vf:Value} {ds:List Deferred} {f:Nat→Int} {F:Nat→Nat→Int} {W W':World}
theorem TakeIn.grown {row:Option Nat} (h:TakeIn w B Bo Bf Bq n top vf ds f F W) (hl:TakeLie w B Bo Bf Bq top ds) (hg:W.grownBy W' row) (hr:∀ r,row=some r→r=Bq):TakeIn w B Bo Bf Bq n top vf ds f F W' :=
 ⟨h.loads.grown hg (fun r e=>by rw [hr r e];exact ⟨List.mem_cons_self ..,fun e=>hl.b.2.2 e.symm⟩),h.box.kept hg (fun e=>hl.o.2.1 (hr _ e.symm)),h.boxf.kept hg (fun e=>hl.f.2.1 (hr _ e.symm)),
  runs_grown h.runs h.apart hg (fun r e=>by rw [hr r e];exact List.mem_cons_self ..),h.apart,h.defs.kept' hg (fun r e E hE=>by have:=hl.defs E hE;rw [hr r e];omega),Below.grown h.ext hg h.ext.size (fun k e=>by rw [hr k e];exact hl.q.1),Nat.le_trans h.hi hg.size⟩
theorem TakeIn.ownFrom {β:Type} (hl:TakeLie w B Bo Bf Bq top ds) (G:β→Nat→Nat→Int):OwnFrom top (fun s W=>TakeIn w B Bo Bf Bq n top vf ds f (G s) W):=fun s W W' row h hg hr =>
 ⟨h.loads.own hg (fun r e=>(hr r e).2),h.box.kept hg (fun e=>by have:=(hr _ e.symm).1;have:=hl.o.1;omega),h.boxf.kept hg (fun e=>by have:=(hr _ e.symm).1;have:=hl.f.1;omega),
  runs_own h.runs (fold_ne _) hg (fun r e=>(hr r e).2),h.apart,h.defs.kept' hg (fun r e E hE=>by have:=hl.defs E hE;have:=(hr r e).1;have:=hl.q.2;omega),
  Below.grown h.ext hg h.ext.size (fun k e=>by have:=(hr k e).1;have:=hl.q;omega),Nat.le_trans h.hi hg.size⟩
theorem TakeIn.mono (h:TakeIn w B Bo Bf Bq n top vf ds f F W) (hx:Ext W W'):TakeIn w B Bo Bf Bq n top vf ds f F W' :=
 ⟨h.loads.ext hx,(hx.block Bo h.box.lt).trans h.box,(hx.block Bf h.boxf.lt).trans h.boxf,h.runs.mono hx,h.apart,h.defs.ext hx,h.ext.tr hx,Nat.le_trans h.hi hx.size⟩
theorem TakeIn.step (h:TakeIn w B Bo Bf Bq n top vf ds f F W) (hl:TakeLie w B Bo Bf Bq top ds) {V:World} (hx:Ext W V) {v:Value} {i:Nat} (hi:i < n) (hv:RunsV V v (fold fun t=>F i t+f t)) (hf:∀ a n c,v=.slice (some a) n c→W.heap.size≤a.block) :
  TakeIn w B Bo Bf Bq n top vf ds f (addAt F f i) (V.setCell ⟨B,i,none⟩ v):=by
 have hg:=grown_set V B i v
 have hr:∀ r,some B=some r→r∈[Bq,B]:=fun r e=>by cases e;simp
 have ha:ApartL [Bq,B] v:=by
  obtain ⟨b,off,cap,rfl,_⟩:=runs_cells hv (fold_ne _)
  have:=hf _ _ _ rfl
  have h1:=hl.b
  have h2:=hl.q
  have h3:=h.hi
  exact apart_at (fun hm=>by simp at hm;rcases hm with rfl | rfl <;> simp at this <;> omega)
 obtain ⟨u,hc,_⟩:=(h.loads.ext hx).row hi
 refine ⟨((h.loads.ext hx).set (by simp) hv ha).congr (fun k _ t=>by unfold addAt;by_cases e:k=i <;> simp [e]),?_,?_,runs_grown (h.runs.mono hx) h.apart hg hr,h.apart,(h.defs.ext hx).set hc,(h.ext.tr hx).se hl.b.1 _,Nat.le_trans (Nat.le_trans h.hi hx.size) hg.size⟩
 ·have h1:Boxed V Bo 162 (.slice (some ⟨B,0,none⟩) n n):=(hx.block Bo h.box.lt).trans h.box
  exact h1.kept hg (fun e=>hl.o.2.2 (by have:=Option.some.inj e;exact this))
 ·have h1:Boxed V Bf 29 vf:=(hx.block Bf h.boxf.lt).trans h.boxf
  exact h1.kept hg (fun e=>hl.f.2.2 (by have:=Option.some.inj e;exact this))
end
theorem KeepsFrom.sc (W:World) (base b o:Nat) (v:Value):KeepsFrom base W (W.setCell ⟨b,o,none⟩ v):=(KeepsOthers.setCell W _ v).from base
structure BookIn (w:World) (B Bo n:Nat) (ds:List Deferred) (F:Nat→Nat→Int) (W:World):Prop where
 loads:LoadsAt [B] W B n F
 box:Boxed W Bo 162 (.slice (some ⟨B,0,none⟩) n n)
 defs:DefAt w.heap.size ds W
 ext:Ext w W
theorem BookIn.mono {w:World} {B Bo n:Nat} {ds:List Deferred} {F:Nat→Nat→Int} {W W':World} (h:BookIn w B Bo n ds F W) (hx:Ext W W'):BookIn w B Bo n ds F W' :=
 ⟨h.loads.ext hx,(hx.block Bo h.box.lt).trans h.box,h.defs.ext hx,h.ext.tr hx⟩
theorem Taken_any (w:World) (v bv:Value) (l:List Queue) (b:List Book) (hl:QueuesV w v l) (hb:BooksV w bv b) (hp:ParsOk l) (h5:l.length≤5) (hok:∀ x∈b,BookOk l x) (hb12:b.length≤12) (h1:1≤l.length) :
  Calls Tryz.prog 121 #[v,bv] w fun e w'=>∃ u,e=.returned u∧LoadsV w' u ((List.range l.length).map fun k=>fold (takenT l b k))∧Ext w w':=by
 obtain ⟨qb,qo,qc,rfl,hqc,hqc9,hqb,hqE⟩:=queues_at hl h1
 obtain ⟨ba,bc,rfl,hbc,hbc9,hbl,hbE⟩:=books_at hb
 have HBE:=hid hbE
 have HQE:=hid hqE
 have HP:=hid hp
 have HOK:=hid hok
 clear hl hb hp hok hbE hqE
 have HU:=hid (fun (W:World) (q:Int) (hx:Ext w W) (hq1:-1≤q) (hq2:q < l.length)=>upAt_new W qb qo qc l q HP.out hq1 hq2 h5 (Nat.lt_of_lt_of_le hqb hx.size) (fun k x hk=>EQueue.mono w W qb _ x hx (HQE.out k x hk)))
 generalize hnn:l.length=n at *
 have Hn:=hid hnn
 clear hnn
 generalize hzz:b.length=z at *
 have Hz:=hid hzz
 clear hzz
 have hmk:=make_loads n h5
 have HL0:=hid (LoadsTo.new w n)
 refine (callsIn_wide (n:=3)).1 ?_
 refine callsIn_of_wp_marks Tryz.func121 rfl trivial ?_ rfl
 simp only [Tryz.ntmps121,List.size_toArray,List.length_cons,List.length_nil,Nat.reduceAdd,Nat.reduceSub,Array.replicate_succ,Array.replicate_zero,List.push_toArray,List.append_toArray,List.nil_append,List.cons_append]
 gi_wp2
 clear hmk
 gi_loopw [16] (fun c wr=>∃ k:Nat,c=.int .i64 k∧k≤n∧Hid (LoadsTo k wr w.heap.size n)∧Boxed wr (w.heap.size+1) 162 (.slice (some ⟨w.heap.size,0,none⟩) n n)∧Ext w wr) (fun c _=>n - (intOf c).toNat)
 case atStart =>
  refine ⟨0,rfl,by omega,?_,?_,((Ext.rf w).al _).al _⟩
  ·have:=HL0.out
   rw [List.toArray_replicate] at this
   exact hid (this.ext ((Ext.rf _).al _))
  ·have:=Boxed.new (w.alloc (.cells (Array.replicate n (Value.slice none 0 0)) 29)) 162 (.slice (some ⟨w.heap.size,0,none⟩) n n)
   rwa [World.size_alloc] at this
 case round =>
  obtain ⟨k,rfl,hk,HL,hB,hx⟩:=hrel
  by_cases hlt:k < n
  ·have hlt':(k:Int) < (n:Int):=by omega
   have hc5:=hB.cell
   obtain ⟨u,hc,hf,hl⟩:=(HL.out.ext ((Ext.rf wr).al (.cells #[.int .i64 0,.int .i64 0] 48))).row hlt
   have HS:=hid (HL.out.step hlt)
   gi_wp2
   go_roundw
   case rel=>exact ⟨k+1,by go_num,by omega,HS,(hB.alloc _).kept (grown_set _ _ _ _) (fun e=>by have:=Option.some.inj e;omega),(hx.al _).se (Nat.le_refl _) _⟩
   case measure=>simp [intOf];omega
  ·obtain rfl:k=n:=by omega
   have hlt':¬ (k:Int) < (k:Int):=by omega
   have HA:=hid (HL.out.all (takenT l (b.take 0)) (fun k t=>rfl))
   clear HL
   gi_wp2
   refine wpIn_loop (fun a wr=>∃ (u8 u9 u10 u28 u29 u30 u31 u32 u33 u34 u35 u36 u37 u38 u39 u40 u41 u42 u43 u44 u45 u46 u47 u48 u27:Value) (ds:List Deferred) (j:Nat),(u27=.int .i64 (j:Int)∧j≤z∧Hid (BookIn w w.heap.size (w.heap.size+1) k ds (takenT l (b.take j)) wr))∧a={ tmps:=#[Value.slice (some ⟨qb,qo,none⟩) k qc,Value.slice ba z bc,undef,undef,Value.slice none 0 0,Value.pointer (some ⟨w.heap.size+1,0,none⟩),u6,undef,u8,u9,u10,Value.slice (some ⟨qb,qo,none⟩) k qc,Value.int .i64 (k:Int),Value.slice (some ⟨w.heap.size,0,none⟩) k k,Value.slice (some ⟨w.heap.size,0,none⟩) k k,Value.int .i64 (k:Int),Value.int .i64 (k:Int),Value.bool false,u18,u19,u20,u21,u22,u23,u24,Value.slice ba z bc,Value.int .i64 (z:Int),u27,u28,u29,u30,u31,u32,u33,u34,u35,u36,u37,u38,u39,u40,u41,u42,u43,u44,u45,u46,u47,u48,undef],defers:=ds }) (fun a _=>z - (intOf (a.tmps.getD 27 undef)).toNat) ?_ ?_
   ·(repeat apply Exists.intro)
    exact ⟨⟨(show _=Value.int .i64 ((0:Nat):Int) from rfl),Nat.zero_le _,hid ⟨HA.out,hB,DefAt.nil _ _,hx⟩⟩,rfl⟩
   rintro a wr2 ⟨u8,u9,u10,u28,u29,u30,u31,u32,u33,u34,u35,u36,u37,u38,u39,u40,u41,u42,u43,u44,u45,u46,u47,u48,u27,ds,j,⟨rfl,hj,HI⟩,rfl⟩
   by_cases hjz:j < z
   ·have hjz':(j:Int) < (z:Int):=by omega
    obtain ⟨x,hxk⟩:=getA (f:=b) (k:=j) (by rw [Hz.out];exact hjz)
    obtain ⟨bb,bo,rfl,hbb,hE⟩:=HBE.out (by omega)
    obtain ⟨pv,biv,c0,c1,c2,c3,c4,c5,c6,hpv,hbi⟩:=ebook_cells (EBook.mono w wr2 bb _ x HI.out.ext (hE j x hxk))
    have hbk:=HOK.out x (List.mem_of_getElem? hxk)
    have CO:=hid (fun (W:World) (h:Ext wr2 W)=>One_any W pv biv x (hpv.mono h) (hbi.mono h) hbk.req (fun i hi=>(hbk.bites i hi).1) hbk.many.2 (fun i hi=>(hbk.bites i hi).2))
    obtain ⟨pa,pc,rfl,_,_,_⟩:=hpv.form
    obtain ⟨bia,bic,rfl,_,_,_⟩:=hbi.form
    have HBK:=hid hbk
    have HXK:=hid hxk
    clear hpv hbi hbk hE hxk HL0
    have hal:=hid (fun (o:Obj)=>(Ext.rf wr2).al o)
    generalize x.Req.Pieces.length=pn at *
    generalize x.Bites.length=bn at *
    gi_wp2
    refine ⟨trivial,(callsIn_wide.2 (CO.out _ (hal.out _))).mono ?_⟩
    rintro e w3 ⟨vf,rfl,hvf,hx3⟩
    have hx23:=(hal.out _).tr hx3
    have H3:=HI.out.mono hx23
    have hlt3:=H3.box.lt
    have hAp:=H3.loads.apart hvf (fold_ne _)
    obtain ⟨ca,_,_,_,_,_⟩:=bookCells hx3
    obtain ⟨fb,fo,fc,rfl,hfb,_⟩:=runs_cells hvf (fold_ne _)
    have hds:∀ E,({ target:=.collected E,args:=#[] }:Deferred)∈ds→E < w3.heap.size:=fun E hE=>H3.defs.mem hE
    generalize hfn:(fold (takesT x)).length=fn at *
    have hx4:=(Ext.rf w3).al (.cells #[.slice (some ⟨fb,fo,none⟩) fn fc] 29)
    have ca':=hx4.ce' ca
    have HBF:=hid (Boxed.new w3 29 (.slice (some ⟨fb,fo,none⟩) fn fc))
    have HVF:=hid hvf
    have H3':=hid H3
    have HDS:=hid hds
    have HAP:=hid hAp
    have Hx4:=hid hx4
    have hUq:=hid (HU.out _ x.Req.Queue (H3.ext.tr hx4) (by have:=HBK.out.q0;omega) (by have:=HBK.out.q1;rw [Hn.out] at this;exact this))
    have HSZ:=hid (show (w3.alloc (.cells #[.slice (some ⟨fb,fo,none⟩) fn fc] 29)).heap.size=w3.heap.size+1 from World.size_alloc _ _)
    clear hvf H3 hds hAp hx4 hx3 hx23 ca hfn CO
    gi_wp2
    generalize hw4:w3.alloc (.cells #[.slice (some ⟨fb,fo,none⟩) fn fc] 29)=w4 at *
    refine ⟨trivial,(callsIn_wide.2 (Up_any _ _ _ _ _)).mono ?_⟩
    rintro e w5 ⟨rfl,rfl⟩
    have U:=hUq.out
    have HLE:TakeLie w w.heap.size (w.heap.size+1) w3.heap.size (w4.heap.size+1) ((w4.alloc (.cells #[.slice (some ⟨qb,qo,none⟩) k qc] 22)).alloc (.cells #[.int .i64 x.Req.Queue] 3)).heap.size ds:=by
     have e1:=HSZ.out
     have e2:=H3'.out.ext.size
     simp only [World.size_alloc]
     exact ⟨⟨by omega,by omega,by omega⟩,⟨by omega,by omega,by omega⟩,⟨by omega,by omega,by omega⟩,⟨by omega,by omega⟩,fun E hE=>by have:=HDS.out E hE;omega⟩
    have hx6:=((Ext.rf w4).al (.cells #[.slice (some ⟨qb,qo,none⟩) k qc] 22)).al (.cells #[.int .i64 x.Req.Queue] 3)
    have hx36:=Hx4.out.tr hx6
    have T0:TakeIn w w.heap.size (w.heap.size+1) w3.heap.size (w4.heap.size+1) k ((w4.alloc (.cells #[.slice (some ⟨qb,qo,none⟩) k qc] 22)).alloc (.cells #[.int .i64 x.Req.Queue] 3)).heap.size (.slice (some ⟨fb,fo,none⟩) fn fc) ds (takesT x) (takenT l (b.take j)) ((w4.alloc (.cells #[.slice (some ⟨qb,qo,none⟩) k qc] 22)).alloc (.cells #[.int .i64 x.Req.Queue] 3)):=by
     have B3:=H3'.out.mono hx36
     refine ⟨((H3'.out.loads.also (q:=w4.heap.size+1) (by have:=HSZ.out;omega)).ext hx36),B3.box,(hx6.block _ HBF.out.lt).trans HBF.out,HVF.out.mono hx36,?_,B3.defs,B3.ext,Nat.le_refl _⟩
     have:=HAP.out.at
     exact apart_at (fun hm=>by have e1:=HSZ.out;simp at hm this;omega)
    have HT0:=hid T0
    have hl5:=lineL_five HP.out HBK.out.q1 (by rw [Hn.out];exact h5)
    have HL5:=hid hl5
    have hs6:((w4.alloc (.cells #[.slice (some ⟨qb,qo,none⟩) k qc] 22)).alloc (.cells #[.int .i64 x.Req.Queue] 3)).heap.size=w4.heap.size+1+1:=by simp only [World.size_alloc]
    clear T0 hx36 hx6 hUq hl5
    gi_wp2
    generalize ((w4.alloc (.cells #[.slice (some ⟨qb,qo,none⟩) k qc] 22)).alloc (.cells #[.int .i64 x.Req.Queue] 3))=w6 at *
    refine wp_rangeOf (by omega) (gf:=167) (lb:=#[.pointer (some ⟨w4.heap.size+1,0,none⟩),.pointer (some ⟨w4.heap.size,0,none⟩)]) rfl (enters_of Tryz.func167 (by kernel_rfl) rfl)
     (U.seq _ (by omega)) (fun h k=>h.tr k) (KeepB.put U.lt) (Below.refl _ _) (by omega) (fun _=>rfl)
     (fun (pre:List (Fin l.length)) W=>TakeIn w w.heap.size (w.heap.size+1) w3.heap.size (w4.heap.size+1) k w6.heap.size (.slice (some ⟨fb,fo,none⟩) fn fc) ds (takesT x) (addAll (takenT l (b.take j)) (takesT x) (pre.map (·.1))) W)
     (fun _ _ _=>False) (TakeIn.ownFrom HLE _) (fun _ _ _ _ _ hs _ _=>hs.elim) (fun s A B row hs hg hr=>by exact hs.grown HLE hg hr) (fun _ _ _ _ _ hs _ _=>hs.elim) HT0.out ?a1 ?assign ?body ?done ?stop
    case assign =>
     intro y i W K hK
     gi_wp2
     exact hK
    case body =>
     rintro y pre i W0 hI0 hlen
     have hik:i.1 < k:=by have:=i.2;have:=Hn.out;omega
     have hpl:pre.length≤5:=by have:=HL5.out;omega
     have htop0:=hI0.loads.row hik
     refine wpIn_block ?_
     refine wpIn_round_held (S:=fun V=>V.cell? ⟨w.heap.size+1,0,none⟩=some (.slice (some ⟨w.heap.size,0,none⟩) k k)∧V.cell? ⟨w3.heap.size,0,none⟩=some (.slice (some ⟨fb,fo,none⟩) fn fc)) (fun V=>KeepsFrom w6.heap.size W0 V∧KeepB [w4.heap.size,w4.heap.size+1,qb] W0 V∧TakeIn w w.heap.size (w.heap.size+1) w3.heap.size (w4.heap.size+1) k w6.heap.size (.slice (some ⟨fb,fo,none⟩) fn fc) ds (takesT x) (addAll (takenT l (b.take j)) (takesT x) ((pre++[i]).map (fun y:Fin l.length=>y.1))) V) (by kernel_rfl) (by kernel_rfl) (fun a' w' h=>h) ?_
     have hxW:=Ext.dr (Ext.rf W0)
     have hI:=hI0.mono hxW
     have HxW:=hid hxW
     clear hI0 hxW htop0
     generalize W0.drew=W at *
     have HS:=hid (And.intro hI.box.cell hI.boxf.cell)
     obtain ⟨v,hc,hfz,hrv,_⟩:=hI.loads.row hik
     have ZS:=hid (zip_sum W v (.slice (some ⟨fb,fo,none⟩) fn fc) _ (takesT x) hrv hI.runs (fun t _=>by
      have:=addAll_num (t:=t) (book_num HBK.out t) (pre.map (·.1)) (takenT l (b.take j)) 1800 (fun q=>by
       have:=takenT_num (l:=l) q t (b.take j) (fun y hy=>HOK.out y (List.mem_of_mem_take hy))
       have:(b.take j).length≤12:=by rw [List.length_take];have:=Hz.out;omega
       omega) i.1
      rw [List.length_map] at this
      omega) (fun t _=>by have:=book_num HBK.out t;omega))
     obtain ⟨vb,vo,vc,rfl,_⟩:=runs_cells hrv (fold_ne _)
     have HI':=hid hI
     clear hrv hlen hpl hI
     generalize (fold (addAll (takenT l (b.take j)) (takesT x) (pre.map (·.1)) i.1)).length=vn at *
     refine wpAnyH_take (i:=0) (oi:=_) (v:=?_) rfl (by kernel_rfl) (by kernel_rfl) (by kernel_rfl) (fun _ _ _ h=>(by cases h.1)) (Or.inl ⟨by kernel_rfl,?_⟩) HS.out ?_
     rotate_left
     ·intro w hSw;obtain ⟨l1,l2⟩:=hSw;go_simp;with_reducible rfl
     try simp only [Act.put,zD,zE,zF,zA,zC,zB]
     refine wpAnyH_take (i:=1) (oi:=_) (v:=?_) rfl (by kernel_rfl) (by kernel_rfl) (by kernel_rfl) (fun _ _ _ h=>(by cases h.1)) (Or.inl ⟨by kernel_rfl,?_⟩) HS.out ?_
     rotate_left
     ·intro w hSw;obtain ⟨l1,l2⟩:=hSw;go_simp;with_reducible rfl
     try simp only [Act.put,zD,zE,zF,zA,zC,zB]
     refine wpAnyH_take (i:=2) (oi:=_) (v:=?_) rfl (by kernel_rfl) (by kernel_rfl) (by kernel_rfl) (fun _ _ _ h=>(by cases h.1)) (Or.inl ⟨by kernel_rfl,?_⟩) HS.out ?_
     rotate_left
     ·intro w hSw;obtain ⟨l1,l2⟩:=hSw;go_simp;with_reducible rfl
     try simp only [Act.put,zD,zE,zF,zA,zC,zB]
     refine wpAnyH_take (i:=3) (oi:=_) (v:=?_) rfl (by kernel_rfl) (by kernel_rfl) (by kernel_rfl) (fun _ _ _ h=>(by cases h.1)) (Or.inl ⟨by kernel_rfl,?_⟩) HS.out ?_
     rotate_left
     ·intro w hSw;obtain ⟨l1,l2⟩:=hSw;go_simp;with_reducible rfl
     try simp only [Act.put,zD,zE,zF,zA,zC,zB]
     refine wpAnyH_take (i:=6) (oi:=_) (v:=?_) rfl (by kernel_rfl) (by kernel_rfl) (by kernel_rfl) (fun _ _ _ h=>(by cases h.1)) (Or.inl ⟨by kernel_rfl,?_⟩) HS.out ?_
     rotate_left
     ·intro w hSw;obtain ⟨l1,l2⟩:=hSw;go_simp;with_reducible rfl
     try simp only [Act.put,zD,zE,zF,zA,zC,zB]
     refine wpAnyH_take (i:=4) (oi:=_) (v:=?_) rfl (by kernel_rfl) (by kernel_rfl) (by kernel_rfl) (fun _ _ _ h=>(by cases h.1)) (Or.inl ⟨by kernel_rfl,?_⟩) HS.out ?_
     rotate_left
     ·intro w hSw;obtain ⟨l1,l2⟩:=hSw;go_simp;with_reducible rfl
     try simp only [Act.put,zD,zE,zF,zA,zC,zB]
     refine wpAnyH_ready (rs:=[5]) (by kernel_rfl) (by simp) ?_
     refine AllReadyH.cons rfl (fun K hK=>?_) AllReadyH.nil
     go_simp
     refine hK.out _ _ HS.out (fun _=>?_)
     clear hK K
     try simp only [Act.put,zD,zE,zF,zA,zC,zB]
     refine wpAnyH_ready (rs:=[7]) (by kernel_rfl) (by simp) ?_
     refine AllReadyH.cons rfl (fun K hK=>?_) AllReadyH.nil
     go_simp
     refine ZS.out.mono ?_
     rintro e W2 ⟨vz,rfl,hvz,hfr,hxz⟩
     refine hK.out _ _ ⟨hxz.ce' HS.out.1,hxz.ce' HS.out.2⟩ (fun _=>?_)
     clear hK K
     try simp only [Act.put,zD,zE,zF,zA,zC,zB]
     have HTS:=hid (HI'.out.step HLE hxz hik hvz hfr)
     have HS2:=hid (And.intro (hxz.ce' HS.out.1) (hxz.ce' HS.out.2))
     obtain ⟨u2,hc2,hfz2,_,_⟩:=(HI'.out.loads.ext hxz).row hik
     obtain ⟨zb,zo,zc,rfl,_⟩:=runs_cells hvz (fold_ne _)
     have Hxz:=hid (HxW.out.tr hxz)
     clear hvz hfr hxz HS
     generalize (fold fun t=>addAll (takenT l (b.take j)) (takesT x) (pre.map (fun y:Fin l.length=>y.1)) i.1 t+takesT x t).length=zn at *
     refine wpAnyH_take (i:=8) (oi:=_) (v:=?_) rfl (by kernel_rfl) (by kernel_rfl) (by kernel_rfl) (fun _ _ _ h=>(by cases h.1)) (Or.inl ⟨by kernel_rfl,?_⟩) HS2.out ?_
     rotate_left
     ·intro w hSw;go_simp;with_reducible rfl
     try simp only [Act.put,zD,zE,zF,zA,zC,zB]
     refine wpAnyH_ready (rs:=[9]) (by kernel_rfl) (by simp) ?_
     refine AllReadyH.cons rfl (fun K hK=>?_) AllReadyH.nil
     go_simp
     refine hK.out _ _ ⟨HTS.out.box.cell,HTS.out.boxf.cell⟩ (fun _=>?_)
     clear hK K
     try simp only [Act.put,zD,zE,zF,zA,zC,zB]
     refine wpAnyH_done (by kernel_rfl) ⟨rfl,?_⟩ _
     refine ⟨(KeepsFrom.ext Hxz.out).trans (KeepsFrom.sc _ _ _ _ _),(KeepB.ext Hxz.out).tr (KeepB.grown (grown_set _ _ _ _) (fun r e=>by
      have e:=Option.some.inj e
      have h1:=HLE.b
      have h2:=H3'.out.box.lt
      have h3:=HSZ.out
      simp only [List.mem_cons,List.not_mem_nil,or_false]
      omega)),?_⟩
     rw [List.map_append,List.map_singleton,addAll_snoc]
     exact HTS.out
    case done =>
     rintro D ys W hD hys hI hK
     have hqx:=HBK.out.q1
     have HNX:=hid (show BookIn w w.heap.size (w.heap.size+1) k ({ target:=.collected D,args:=#[] }::ds) (takenT l (b.take (j+1))) W from
      ⟨(hI.loads.congr (fun q _ t=>by rw [hys];exact addAll_book HP.out HXK.out hqx q t)).less (by simp),hI.box,hI.defs.cons (by have:=HLE.b;omega) hK (fun E hE=>by have:=HLE.defs E hE;have:=HLE.q.2;omega),hI.ext⟩)
     clear hys hI hqx
     gi_wp2
     refine ⟨?_,?_⟩
     ·(repeat apply Exists.intro)
      exact ⟨⟨(show Value.int .i64 _=.int .i64 ((j+1:Nat):Int) from by go_num),by omega,HNX⟩,rfl⟩
     ·simp [intOf];omega
    case stop =>
     rintro D c pre W _ _ h _
     exact h.elim
   ·obtain rfl:j=z:=by omega
    have hjz':¬ (j:Int) < (j:Int):=by omega
    have hc5:=HI.out.box.cell
    gi_wp2
    refine leaves_def (base:=w.heap.size) (fun W=>LoadsAt [w.heap.size] W w.heap.size k (takenT l (b.take j))∧Ext w W) (fun W m hm hh h=>⟨h.1.own (grownBy_putObj' W m _) (fun r e=>by cases e;exact ⟨_,hh,rfl⟩),Below.grown h.2 (grownBy_putObj' W m _) h.2.size (fun r e=>by cases e;exact hm)⟩) (fun W h=>?_) ds wr2 HI.out.defs ⟨HI.out.loads,HI.out.ext⟩
    have hT:=h.1.loads h5
    rw [List.take_of_length_le (by rw [Hz.out];exact Nat.le_refl _)] at hT
    refine ⟨_,results_tmp rfl _ _ _,_,rfl,?_,h.2⟩
    exact hT
end Go.Proofs.YtdcndkojmflhnaaGreat
