/- log.read; each theorem names its own conditions. -/
import Derived.Test.YtdcndkojmflhnaaGreatPLogD
set_option linter.unusedVariables false
set_option linter.unusedSimpArgs false
set_option maxRecDepth 100000
set_option maxHeartbeats 8000000
set_option linter.unusedSimpArgs false
set_option linter.unusedVariables false
namespace Go.Proofs.YtdcndkojmflhnaaGreat
open Go.RowKit
open List renaming getElem_toArray→zA,getElem_cons_zero→zB,getElem_cons_succ→zC,setIfInBounds_toArray→zD,set_cons_zero→zE,set_cons_succ→zF
def actT:List UInt8→Option (Act1 × List UInt8)
 | k::n::q::f::u::rk::n1::r1 =>
  if n1.toNat≤3∧2*n1.toNat≤r1.length then
   match r1.drop (2*n1.toNat) with
   | n2::r2=>if n2.toNat≤48∧2*n2.toNat≤r2.length then some (⟨byI k,byI n,⟨byI q,byI f,byI u,byI rk,pieceOf n1.toNat r1⟩,runOf n2.toNat r2⟩,r2.drop (2*n2.toNat)) else none
   | []=>none
  else none
 | _=>none
theorem act_size:(Tryz.prog.info? 31).map (·.size)=some 8:=by kernel_rfl
def zeroAct:Array Value:=#[.int .i64 0,.int .i64 0,.int .i64 0,.int .i64 0,.int .i64 0,.int .i64 0,.slice none 0 0,.slice none 0 0]
theorem catch_some (S X R I:Nat) (t:ByteArray) (u:TypeId) (pv:Value) (older:List PanicEntry) (w:World) (cs:Array Value) (h8:cs.size=8) (hS:w.cell? ⟨S,0,none⟩=some (.string t)) (hX:w.heap[X]?=some (.cells cs 31 (0,0)))
  (hR:∃ old,w.cell? ⟨R,0,none⟩=some old) (hI:∃ old,w.cell? ⟨I,0,none⟩=some old) (fR:w.frozen? ⟨R,0,none⟩=false) (fI:w.frozen? ⟨I,0,none⟩=false) (hXR:X≠R) (hXI:X≠I) (hRI:R≠I) :
  CallsD Tryz.prog 104 #[.pointer (some ⟨S,0,none⟩),.pointer (some ⟨X,0,none⟩),.pointer (some ⟨R,0,none⟩),.pointer (some ⟨I,0,none⟩)] (.panicking ({ v:=.iface u pv,recovered:=false }::older)) w fun e u' w' =>
   e=.returned (.tuple #[])∧u'=.panicking ({ v:=.iface u pv,recovered:=true }::older)∧w'=((w.setRow X zeroAct).setCell ⟨R,0,none⟩ (.string t)).setCell ⟨I,0,none⟩ (.bool false):=by
 refine callsD_of_wpS Tryz.func104 rfl fun c₀ fs hu=>?_
 apply wpS_seq
 apply wpS_region
 simp [wpOpsS,go_sem,recoverD,hu,Tryz.ntmps104,Exit.thenS]
 refine wpS_cond (t:=true) (by simp [Act.eval,Array.replicate]) ?_
 simp only [if_true]
 refine wpS_of_wp ?_
 show Code.wp _ _ _ { tmps:=#[.pointer (some ⟨S,0,none⟩),.pointer (some ⟨X,0,none⟩),.pointer (some ⟨R,0,none⟩),.pointer (some ⟨I,0,none⟩),.iface u pv,.bool true,undef,undef],defers:=[] } w
 obtain ⟨oR,hR⟩:=hR
 obtain ⟨oI,hI⟩:=hI
 have hXlt:=(Array.getElem?_eq_some_iff.1 hX).1
 have r1:(w.setRow X #[.int .i64 0,.int .i64 0,.int .i64 0,.int .i64 0,.int .i64 0,.int .i64 0,.slice none 0 0,.slice none 0 0]).cell? ⟨R,0,none⟩=some oR:=by rw [World.cell?_of_block (a:=⟨R,0,none⟩) (setRow_other w X _ _ (fun e=>hXR e.symm))];exact hR
 have r2:(w.setRow X #[.int .i64 0,.int .i64 0,.int .i64 0,.int .i64 0,.int .i64 0,.int .i64 0,.slice none 0 0,.slice none 0 0]).frozen? ⟨R,0,none⟩=false:=by rw [World.frozen?_of_block (a:=⟨R,0,none⟩) (setRow_other w X _ _ (fun e=>hXR e.symm))];exact fR
 have i1:(w.setRow X #[.int .i64 0,.int .i64 0,.int .i64 0,.int .i64 0,.int .i64 0,.int .i64 0,.slice none 0 0,.slice none 0 0]).cell? ⟨I,0,none⟩=some oI:=by rw [World.cell?_of_block (a:=⟨I,0,none⟩) (setRow_other w X _ _ (fun e=>hXI e.symm))];exact hI
 have i2:(w.setRow X #[.int .i64 0,.int .i64 0,.int .i64 0,.int .i64 0,.int .i64 0,.int .i64 0,.slice none 0 0,.slice none 0 0]).frozen? ⟨I,0,none⟩=false:=by rw [World.frozen?_of_block (a:=⟨I,0,none⟩) (setRow_other w X _ _ (fun e=>hXI e.symm))];exact fI
 have j1:((w.setRow X #[.int .i64 0,.int .i64 0,.int .i64 0,.int .i64 0,.int .i64 0,.int .i64 0,.slice none 0 0,.slice none 0 0]).setCell ⟨R,0,none⟩ (.string t)).cell? ⟨I,0,none⟩=some oI:=by rw [World.cell?_setCell_other _ _ _ _ (fun e=>hRI (congrArg Addr.block e))];exact i1
 have j2:((w.setRow X #[.int .i64 0,.int .i64 0,.int .i64 0,.int .i64 0,.int .i64 0,.int .i64 0,.slice none 0 0,.slice none 0 0]).setCell ⟨R,0,none⟩ (.string t)).frozen? ⟨I,0,none⟩=false:=by rw [World.frozen?_setCell];exact i2
 go_wp2_with (refine wpList_store_row rfl 31 _ _ rfl X #[.int .i64 0,.int .i64 0,.int .i64 0,.int .i64 0,.int .i64 0,.int .i64 0,.slice none 0 0,.slice none 0 0] rfl rfl 31 _ hX act_size h8 (by simp [Value.oneCell']) ?_)
 simp [bodyPostS,results,Tryz.results104,zeroAct]
theorem catch_idle (S X R I:Nat) (w:World) :
  CallsD Tryz.prog 104 #[.pointer (some ⟨S,0,none⟩),.pointer (some ⟨X,0,none⟩),.pointer (some ⟨R,0,none⟩),.pointer (some ⟨I,0,none⟩)] .returning w fun e u' w'=>e=.returned (.tuple #[])∧u'=.returning∧w'=w:=by
 refine callsD_of_wpS Tryz.func104 rfl fun c₀ fs hu=>?_
 apply wpS_seq
 apply wpS_region
 simp [wpOpsS,go_sem,recoverD,hu,Tryz.ntmps104,Exit.thenS]
 refine wpS_cond (t:=false) (by simp [Act.eval,Array.replicate]) ?_
 simp only [Bool.false_eq_true,if_false]
 refine wpS_of_wp (wp_skip ?_)
 cases c₀
 simp_all [bodyPostS,results,Tryz.results104]
structure ReadAt (t:List UInt8) (w:World) (s:Nat) (W:World):Prop where
 ext:Ext w W
 size:W.heap.size=s+6
 text:W.heap[s]?=some (.cells #[.string (str t)] 9 (0,0))
 act:W.heap[s+1]?=some (.cells #[.int .i64 0,.int .i64 0,.int .i64 0,.int .i64 0,.int .i64 0,.int .i64 0,.slice none 0 0,.slice none 0 0] 31 (0,0))
 rest:W.heap[s+1+1]?=some (.cells #[.string ByteArray.empty] 9 (0,0))
 is:W.heap[s+1+1+1]?=some (.cells #[.bool false] 4 (0,0))
 glass:W.heap[s+1+1+1+1]?=some (.cells #[.string (str t)] 147 (0,0))
 ptr:W.cell? ⟨s+1+1+1+1+1,0,none⟩=some (.pointer (some ⟨s+1+1+1+1,0,none⟩))
def NewV (base:Nat) (w:World) (v:Value):Prop:=∀ a n c,v=.slice (some a) n c→base≤a.block∧a.block < w.heap.size
theorem NewV.owned {base b2:Nat} {w:World} {e:TypeId} {z n:Nat} {v:Value} {xs:List Value} (h:w.ownsRow base e z v n xs) (hb:b2≤base):NewV b2 w v:=by
 intro a m c e
 rcases h.2 with ⟨rfl,_⟩ | ⟨b,cap,cur,rfl,h1,h2,_⟩
 ·cases e
 ·cases e;exact ⟨by show b2≤b;omega,(Array.getElem?_eq_some_iff.1 h2).1⟩
theorem NewV.ext {base:Nat} {w w':World} {v:Value} (h:NewV base w v) (hx:Ext w w'):NewV base w' v:=fun a n c e=>⟨(h a n c e).1,Nat.lt_of_lt_of_le (h a n c e).2 hx.size⟩
def ReadPost (w:World) (t:List UInt8) (e:Ending) (w':World):Prop:=Ext w w' ∧
   (
    (∃ x r pv cv,actT t=some (x,r)∧e=.returned (.tuple #[.agg #[.int .i64 x.Kind,.int .i64 x.N,.int .i64 x.Req.Queue,.int .i64 x.Req.From,.int .i64 x.Req.Until,.int .i64 x.Req.Kind,pv,cv],.string (str r),.bool true])∧PiecesV w' pv x.Req.Pieces∧RunsV w' cv x.Cap∧NewV w.heap.size w' pv∧NewV w.heap.size w' cv) ∨
    (actT t=none∧e=.returned (.tuple #[.agg zeroAct,.string (str t),.bool false])))
theorem leaves_congr {P:Program} {fn:Func} {tmps tmps':Array Value} {R:Ending→World→Prop} (h:∀ w,(results fn tmps).run P w=(results fn tmps').run P w):∀ (ds:List Deferred) (u:FrameMode) (w:World),Leaves P fn tmps R ds u w→Leaves P fn tmps' R ds u w
 | [],.returning,w,⟨v,h1,h2⟩=>⟨v,(h w).symm.trans h1,h2⟩
 | [],.panicking _,w,hl=>hl
 | [],.run,_,hl=>hl
 | d::ds,u,w,⟨h0,fv,cap,f,args,h1,h2,h3⟩=>⟨h0,fv,cap,f,args,h1,h2,h3.mono fun e u' w' hq=>by
   cases e with
   | returned v=>exact leaves_congr h ds _ _ hq
   | panicked chain=>exact leaves_congr h ds _ _ hq
   | outgrown=>exact hq⟩
theorem results_read {tmps tmps':Array Value} (h2:tmps[2]?.getD undef=tmps'[2]?.getD undef) (h3:tmps[3]?.getD undef=tmps'[3]?.getD undef) (h4:tmps[4]?.getD undef=tmps'[4]?.getD undef) (w:World) :
  (results Tryz.f60 tmps).run Tryz.prog w=(results Tryz.f60 tmps').run Tryz.prog w:=by
 simp [results,Tryz.results60,h2,h3,h4]
theorem door_put {R:Ending→World→Prop} {ch:List PanicEntry} {a:Act} {w:World} {d:Tmp} {v:Value} (hd:d≠2∧d≠3∧d≠4) (h:bodyPostD Tryz.prog Tryz.f60 R (.panic ch) (a.put (some d) v) w):bodyPostD Tryz.prog Tryz.f60 R (.panic ch) a w:=by
 refine leaves_congr (fun w=>results_read ?_ ?_ ?_ w) _ _ _ h
 ·simp [Act.put,Array.getElem?_setIfInBounds,hd.1]
 ·simp [Act.put,Array.getElem?_setIfInBounds,hd.2.1]
 ·simp [Act.put,Array.getElem?_setIfInBounds,hd.2.2]
theorem read_caught (w W:World) (t:List UInt8) (s:Nat) (tmps cs:Array Value) (vr vi:Value) (h2:tmps[2]?.getD undef=.pointer (some ⟨s+1,0,none⟩)) (h3:tmps[3]?.getD undef=.pointer (some ⟨s+1+1,0,none⟩)) (h4:tmps[4]?.getD undef=.pointer (some ⟨s+1+1+1,0,none⟩)) (hs:w.heap.size=s) (hx:Ext w W)
  (text:W.heap[s]?=some (.cells #[.string (str t)] 9 (0,0))) (h8:cs.size=8) (act:W.heap[s+1]?=some (.cells cs 31 (0,0))) (rest:W.heap[s+1+1]?=some (.cells #[vr] 9 (0,0))) (is:W.heap[s+1+1+1]?=some (.cells #[vi] 4 (0,0))) (hn:actT t=none) :
  bodyPostD Tryz.prog Tryz.f60 (ReadPost w t) (.panic shortP) { tmps:=tmps,defers:=[{ target:=.fn (.func 104) #[.pointer (some ⟨s,0,none⟩),.pointer (some ⟨s+1,0,none⟩),.pointer (some ⟨s+1+1,0,none⟩),.pointer (some ⟨s+1+1+1,0,none⟩)],args:=#[] }] } W:=by
 refine leaves_cons (f:=104) (args:=#[.pointer (some ⟨s,0,none⟩),.pointer (some ⟨s+1,0,none⟩),.pointer (some ⟨s+1+1,0,none⟩),.pointer (some ⟨s+1+1+1,0,none⟩)]) (by simp) (by simp [go_sem]) ?_
 refine (catch_some s (s+1) (s+1+1) (s+1+1+1) (str t) 196 (.agg #[]) [] W cs h8 (cell_of_row _ _ 0 _ _ _ text) act ⟨_,cell_of_row _ _ 0 _ _ _ rest⟩ ⟨_,cell_of_row _ _ 0 _ _ _ is⟩ (frozen_of_row _ _ 0 _ _ rest) (frozen_of_row _ _ 0 _ _ is) (by omega) (by omega) (by omega)).mono ?_
 rintro e u' w'' ⟨rfl,rfl,hw⟩
 have hX':(W.setRow (s+1) zeroAct).heap[s+1]?=some (.cells zeroAct 31 (0,0)):=setRow_heap W (s+1) _ zeroAct _ _ act
 have hR':(W.setRow (s+1) zeroAct).heap[s+1+1]?=some (.cells #[vr] 9 (0,0)):=by rw [setRow_other W (s+1) _ zeroAct (by omega)];exact rest
 have hI':(W.setRow (s+1) zeroAct).heap[s+1+1+1]?=some (.cells #[vi] 4 (0,0)):=by rw [setRow_other W (s+1) _ zeroAct (by omega)];exact is
 have g1:w''.heap[s+1]?=some (.cells zeroAct 31 (0,0)):=by
  rw [hw,heap_setCell_other _ ⟨s+1+1+1,0,none⟩ _ _ (by show s+1≠s+1+1+1;omega),heap_setCell_other _ ⟨s+1+1,0,none⟩ _ _ (by show s+1≠s+1+1;omega)];exact hX'
 have g2:w''.heap[s+1+1]?=some (.cells #[.string (str t)] 9 (0,0)):=by
  rw [hw,heap_setCell_other _ ⟨s+1+1+1,0,none⟩ _ _ (by show s+1+1≠s+1+1+1;omega)];exact heap_setCell_same _ _ 0 _ _ _ hR'
 have g3:w''.heap[s+1+1+1]?=some (.cells #[.bool false] 4 (0,0)):=by
  rw [hw]
  exact heap_setCell_same _ _ 0 _ _ _ ((heap_setCell_other _ ⟨s+1+1,0,none⟩ _ _ (by show s+1+1+1≠s+1+1;omega)).trans hI')
 have hx2:Ext w w'':=by
  rw [hw]
  exact ((hx.sr (b:=s+1) (by omega) _).se (b:=s+1+1) (o:=0) (by omega) _).se (b:=s+1+1+1) (o:=0) (by omega) _
 have c2:=cell_of_row w'' (s+1+1) 0 _ _ _ g2
 have c3:=cell_of_row w'' (s+1+1+1) 0 _ _ _ g3
 have b0:w''.cell? ⟨s+1,0,none⟩=some (.int .i64 0):=cell_of_row w'' (s+1) 0 _ _ _ g1
 have b1:w''.cell? ⟨s+1,1,none⟩=some (.int .i64 0):=cell_of_row w'' (s+1) 1 _ _ _ g1
 have b2:w''.cell? ⟨s+1,2,none⟩=some (.int .i64 0):=cell_of_row w'' (s+1) 2 _ _ _ g1
 have b3:w''.cell? ⟨s+1,3,none⟩=some (.int .i64 0):=cell_of_row w'' (s+1) 3 _ _ _ g1
 have b4:w''.cell? ⟨s+1,4,none⟩=some (.int .i64 0):=cell_of_row w'' (s+1) 4 _ _ _ g1
 have b5:w''.cell? ⟨s+1,5,none⟩=some (.int .i64 0):=cell_of_row w'' (s+1) 5 _ _ _ g1
 have b6:w''.cell? ⟨s+1,6,none⟩=some (.slice none 0 0):=cell_of_row w'' (s+1) 6 _ _ _ g1
 have b7:w''.cell? ⟨s+1,7,none⟩=some (.slice none 0 0):=cell_of_row w'' (s+1) 7 _ _ _ g1
 show Leaves _ _ _ _ [] (settle _) w''
 refine ⟨.tuple #[.agg zeroAct,.string (str t),.bool false],?_,hx2,Or.inr ⟨hn,rfl⟩⟩
 simp [results,Tryz.results60,h2,h3,h4,asAddr,b0,b1,b2,b3,b4,b5,b6,b7,c2,c3,zeroAct,go_sem]
theorem intoW_block {G k:Nat}:∀ (ps:List Addr) (t:List UInt8) (W:World),k≠G→(∀ a∈ps,k≠a.block)→(intoW G ps t W).heap[k]?=W.heap[k]?
 | [],_,_,_,_=>rfl
 | _::_,[],_,_,_=>rfl
 | a::ps,b::t,W,h,ha=>by
  show (intoW G ps t _).heap[k]?=_
  rw [intoW_block ps t _ h (fun c hc=>ha c (List.mem_cons_of_mem _ hc)),heap_setCell_other _ a _ _ (ha a (List.mem_cons_self ..)),heap_setCell_other _ ⟨G,0,none⟩ _ _ h]
theorem intoW_row {G X:Nat} {T:TypeId} (hXG:X≠G):∀ (ps:List Addr) (t:List UInt8) (W:World) (cs:Array Value),(∀ a∈ps,∃ i,a=⟨X,i,none⟩)→W.heap[X]?=some (.cells cs T (0,0))→∃ cs',cs'.size=cs.size∧(intoW G ps t W).heap[X]?=some (.cells cs' T (0,0))
 | [],_,_,cs,_,h=>⟨cs,rfl,h⟩
 | _::_,[],_,cs,_,h=>⟨cs,rfl,h⟩
 | a::ps,b::t,W,cs,ha,h=>by
  obtain ⟨i,rfl⟩:=ha a (List.mem_cons_self ..)
  have h1:=heap_setCell_same (W.setCell ⟨G,0,none⟩ (.string (str t))) X i _ _ (.int .i64 (byI b)) ((heap_setCell_other W ⟨G,0,none⟩ X (.string (str t)) hXG).trans h)
  obtain ⟨cs',e1,e2⟩:=intoW_row hXG ps t _ _ (fun c hc=>ha c (List.mem_cons_of_mem _ hc)) h1
  exact ⟨cs',by rw [e1];simp,e2⟩
theorem intoW_ext {G:Nat} {w:World} (hG:w.heap.size≤G):∀ (ps:List Addr) (t:List UInt8) (W:World),Ext w W→(∀ a∈ps,w.heap.size≤a.block∧a.spot=none)→Ext w (intoW G ps t W)
 | [],_,_,h,_=>h
 | _::_,[],_,h,_=>h
 | a::ps,b::t,W,h,ha=>by
  obtain ⟨h1,h2⟩:=ha a (List.mem_cons_self ..)
  have e:a=⟨a.block,a.off,none⟩:=by cases a;simp_all
  refine intoW_ext hG ps t _ ?_ (fun c hc=>ha c (List.mem_cons_of_mem _ hc))
  rw [e]
  exact (h.se (b:=G) (o:=0) hG _).se (b:=a.block) (o:=a.off) h1 _
theorem actT_short {t:List UInt8} (h:¬ 6≤t.length):actT t=none:=by
 match t with
 | [] | [_] | [_,_] | [_,_,_] | [_,_,_,_] | [_,_,_,_,_]=>rfl
 | _::_::_::_::_::_::t=>simp at h
def rowW:List Addr→List UInt8→Array Value→Array Value
 | a::ps,b::t,cs=>rowW ps t (cs.setIfInBounds a.off (.int .i64 (byI b)))
 | _,_,cs=>cs
theorem intoW_rowx {G X:Nat} {T:TypeId} (hXG:X≠G):∀ (ps:List Addr) (t:List UInt8) (W:World) (cs:Array Value),(∀ a∈ps,∃ i,a=⟨X,i,none⟩)→W.heap[X]?=some (.cells cs T (0,0))→(intoW G ps t W).heap[X]?=some (.cells (rowW ps t cs) T (0,0))
 | [],t,_,cs,_,h=>by cases t <;> exact h
 | _::_,[],_,cs,_,h=>h
 | a::ps,b::t,W,cs,ha,h=>by
  obtain ⟨i,rfl⟩:=ha a (List.mem_cons_self ..)
  have h1:=heap_setCell_same (W.setCell ⟨G,0,none⟩ (.string (str t))) X i _ _ (.int .i64 (byI b)) ((heap_setCell_other W ⟨G,0,none⟩ X (.string (str t)) hXG).trans h)
  exact intoW_rowx hXG ps t _ _ (fun c hc=>ha c (List.mem_cons_of_mem _ hc)) h1
theorem intoW_glass {G:Nat} {T:TypeId}:∀ (ps:List Addr) (t:List UInt8) (W:World),(∀ a∈ps,G≠a.block)→W.heap[G]?=some (.cells #[.string (str t)] T (0,0))→(intoW G ps t W).heap[G]?=some (.cells #[.string (str (t.drop ps.length))] T (0,0))
 | [],t,W,_,h=>h
 | _::ps,[],W,_,h=>by simpa [intoW] using h
 | a::ps,b::t,W,ha,h=>by
  have h1:((W.setCell ⟨G,0,none⟩ (.string (str t))).setCell a (.int .i64 (byI b))).heap[G]?=some (.cells #[.string (str t)] T (0,0)) :=
   (heap_setCell_other _ a G _ (ha a (List.mem_cons_self ..))).trans (heap_setCell_same W G 0 _ _ _ h)
  exact intoW_glass ps t _ (fun c hc=>ha c (List.mem_cons_of_mem _ hc)) h1
theorem six_bytes {t:List UInt8} (h:6≤t.length):∃ k n q f u rk t1,t=k::n::q::f::u::rk::t1:=by
 match t,h with
 | k::n::q::f::u::rk::t1,_=>exact ⟨k,n,q,f,u,rk,t1,rfl⟩
 | [],h | [_],h | [_,_],h | [_,_,_],h | [_,_,_,_],h | [_,_,_,_,_],h=>simp at h
theorem byI_i64 (b:UInt8):I64 (byI b):=by
 have:=b.toNat_lt
 unfold byI I64
 omega
theorem pieceOf_i64:∀ (n:Nat) (t:List UInt8) (y:Piece),y∈pieceOf n t→I64 y.Len∧I64 y.N
 | 0,_,_,h=>by cases h
 | n+1,[],_,h=>by cases h
 | n+1,[_],_,h=>by cases h
 | n+1,a::b::t,y,h=>by
  rcases List.mem_cons.1 h with rfl | h
  ·exact ⟨byI_i64 a,byI_i64 b⟩
  ·exact pieceOf_i64 n t y h
theorem runOf_i64:∀ (n:Nat) (t:List UInt8) (y:Run),y∈runOf n t→I64 y.At∧I64 y.N
 | 0,_,_,h=>by cases h
 | n+1,[],_,h=>by cases h
 | n+1,[_],_,h=>by cases h
 | n+1,a::b::t,y,h=>by
  rcases List.mem_cons.1 h with rfl | h
  ·exact ⟨byI_i64 a,byI_i64 b⟩
  ·exact runOf_i64 n t y h
theorem read_ended (w W:World) (t:List UInt8) (s:Nat) (tmps:Array Value) (x:Act1) (r:List UInt8) (pv cv:Value) (h2:tmps[2]?.getD undef=.pointer (some ⟨s+1,0,none⟩)) (h3:tmps[3]?.getD undef=.pointer (some ⟨s+1+1,0,none⟩)) (h4:tmps[4]?.getD undef=.pointer (some ⟨s+1+1+1,0,none⟩))
  (row:W.heap[s+1]?=some (.cells #[.int .i64 x.Kind,.int .i64 x.N,.int .i64 x.Req.Queue,.int .i64 x.Req.From,.int .i64 x.Req.Until,.int .i64 x.Req.Kind,pv,cv] 31 (0,0))) (rest:W.heap[s+1+1]?=some (.cells #[.string (str r)] 9 (0,0))) (is:W.heap[s+1+1+1]?=some (.cells #[.bool true] 4 (0,0))) (hx:Ext w W) (hact:actT t=some (x,r)) (hp:PiecesV W pv x.Req.Pieces) (hc:RunsV W cv x.Cap) (np:NewV w.heap.size W pv) (nc:NewV w.heap.size W cv) :
  bodyPostD Tryz.prog Tryz.f60 (ReadPost w t) .ret { tmps:=tmps,defers:=[{ target:=.fn (.func 104) #[.pointer (some ⟨s,0,none⟩),.pointer (some ⟨s+1,0,none⟩),.pointer (some ⟨s+1+1,0,none⟩),.pointer (some ⟨s+1+1+1,0,none⟩)],args:=#[] }] } W:=by
 refine leaves_cons (f:=104) (args:=#[.pointer (some ⟨s,0,none⟩),.pointer (some ⟨s+1,0,none⟩),.pointer (some ⟨s+1+1,0,none⟩),.pointer (some ⟨s+1+1+1,0,none⟩)]) (by simp) (by simp [go_sem]) ?_
 refine (catch_idle s (s+1) (s+1+1) (s+1+1+1) W).mono ?_
 rintro e u' w'' ⟨rfl,rfl,hw⟩
 obtain rfl:=hw.symm
 have b0:W.cell? ⟨s+1,0,none⟩=some (.int .i64 x.Kind):=cell_of_row W (s+1) 0 _ _ _ row
 have b1:W.cell? ⟨s+1,1,none⟩=some (.int .i64 x.N):=cell_of_row W (s+1) 1 _ _ _ row
 have b2:W.cell? ⟨s+1,2,none⟩=some (.int .i64 x.Req.Queue):=cell_of_row W (s+1) 2 _ _ _ row
 have b3:W.cell? ⟨s+1,3,none⟩=some (.int .i64 x.Req.From):=cell_of_row W (s+1) 3 _ _ _ row
 have b4:W.cell? ⟨s+1,4,none⟩=some (.int .i64 x.Req.Until):=cell_of_row W (s+1) 4 _ _ _ row
 have b5:W.cell? ⟨s+1,5,none⟩=some (.int .i64 x.Req.Kind):=cell_of_row W (s+1) 5 _ _ _ row
 have b6:W.cell? ⟨s+1,6,none⟩=some (pv):=cell_of_row W (s+1) 6 _ _ _ row
 have b7:W.cell? ⟨s+1,7,none⟩=some (cv):=cell_of_row W (s+1) 7 _ _ _ row
 have c2:=cell_of_row W (s+1+1) 0 _ _ _ rest
 have c3:=cell_of_row W (s+1+1+1) 0 _ _ _ is
 show Leaves _ _ _ _ [] (settle _) W
 refine ⟨.tuple #[.agg #[.int .i64 x.Kind,.int .i64 x.N,.int .i64 x.Req.Queue,.int .i64 x.Req.From,.int .i64 x.Req.Until,.int .i64 x.Req.Kind,pv,cv],.string (str r),.bool true],?_,hx,Or.inl ⟨x,r,pv,cv,hact,rfl,hp,hc,np,nc⟩⟩
 simp [results,Tryz.results60,h2,h3,h4,asAddr,b0,b1,b2,b3,b4,b5,b6,b7,c2,c3,go_sem]
theorem read_boxes (t:List UInt8) (w:World) (s:Nat) (hs:w.heap.size=s):ReadAt t w s ((((((w.alloc (.cells #[.string (str t)] 9)).alloc (.cells #[.int .i64 0,.int .i64 0,.int .i64 0,.int .i64 0,.int .i64 0,.int .i64 0,.slice none 0 0,.slice none 0 0] 31)).alloc (.cells #[.string ByteArray.empty] 9)).alloc (.cells #[.bool false] 4)).alloc (.cells #[.string (str t)] 147)).alloc (.cells #[.pointer (some ⟨s+1+1+1+1,0,none⟩)] 145)):=by
 obtain ⟨w1,h1⟩:∃ x,w.alloc (.cells #[.string (str t)] 9)=x:=⟨_,rfl⟩
 have e1:=heap_alloc_new w (.cells #[.string (str t)] 9)
 have s1:w1.heap.size=s+1:=by rw [← h1,World.size_alloc,hs]
 have x1:Ext w w1:=h1▸(Ext.rf w).al _
 rw [h1,hs] at e1
 rw [h1]
 obtain ⟨w2,h2⟩:∃ x,w1.alloc (.cells #[.int .i64 0,.int .i64 0,.int .i64 0,.int .i64 0,.int .i64 0,.int .i64 0,.slice none 0 0,.slice none 0 0] 31)=x:=⟨_,rfl⟩
 have e2:=heap_alloc_new w1 (.cells #[.int .i64 0,.int .i64 0,.int .i64 0,.int .i64 0,.int .i64 0,.int .i64 0,.slice none 0 0,.slice none 0 0] 31)
 have s2:w2.heap.size=s+1+1:=by rw [← h2,World.size_alloc,s1]
 have x2:Ext w1 w2:=h2▸(Ext.rf w1).al _
 rw [h2,s1] at e2
 rw [h2]
 obtain ⟨w3,h3⟩:∃ x,w2.alloc (.cells #[.string ByteArray.empty] 9)=x:=⟨_,rfl⟩
 have e3:=heap_alloc_new w2 (.cells #[.string ByteArray.empty] 9)
 have s3:w3.heap.size=s+1+1+1:=by rw [← h3,World.size_alloc,s2]
 have x3:Ext w2 w3:=h3▸(Ext.rf w2).al _
 rw [h3,s2] at e3
 rw [h3]
 obtain ⟨w4,h4⟩:∃ x,w3.alloc (.cells #[.bool false] 4)=x:=⟨_,rfl⟩
 have e4:=heap_alloc_new w3 (.cells #[.bool false] 4)
 have s4:w4.heap.size=s+1+1+1+1:=by rw [← h4,World.size_alloc,s3]
 have x4:Ext w3 w4:=h4▸(Ext.rf w3).al _
 rw [h4,s3] at e4
 rw [h4]
 obtain ⟨w5,h5⟩:∃ x,w4.alloc (.cells #[.string (str t)] 147)=x:=⟨_,rfl⟩
 have e5:=heap_alloc_new w4 (.cells #[.string (str t)] 147)
 have s5:w5.heap.size=s+1+1+1+1+1:=by rw [← h5,World.size_alloc,s4]
 have x5:Ext w4 w5:=h5▸(Ext.rf w4).al _
 rw [h5,s4] at e5
 rw [h5]
 obtain ⟨w6,h6⟩:∃ x,w5.alloc (.cells #[.pointer (some ⟨s+1+1+1+1,0,none⟩)] 145)=x:=⟨_,rfl⟩
 have e6:=heap_alloc_new w5 (.cells #[.pointer (some ⟨s+1+1+1+1,0,none⟩)] 145)
 have s6:w6.heap.size=s+1+1+1+1+1+1:=by rw [← h6,World.size_alloc,s5]
 have x6:Ext w5 w6:=h6▸(Ext.rf w5).al _
 rw [h6,s5] at e6
 rw [h6]
 have y5:=x6
 have y4:=x5.tr y5
 have y3:=x4.tr y4
 have y2:=x3.tr y3
 have y1:=x2.tr y2
 exact ⟨x1.tr y1,s6,blk_ext e1 y1,blk_ext e2 y2,blk_ext e3 y3,blk_ext e4 y4,blk_ext e5 y5,cell_of_row _ _ 0 _ _ _ e6⟩
theorem read_any (w:World) (t:List UInt8) :
  Calls Tryz.prog 60 #[.string (str t)] w (ReadPost w t):=by
 have hmf:∀ (fn:Fn) (first cap:Array Value) (w:World),(Instr.makeFunc fn first cap).run Tryz.prog w=.ok (.func fn first cap) w:=fun _ _ _ _=>rfl
 go_enter_defers Tryz.func60,Tryz.ntmps60
 go_wp2_with fail
 obtain ⟨s,hs⟩:∃ s,w.heap.size=s:=⟨_,rfl⟩
 have RA:=read_boxes t w s hs
 rw [show ByteArray.empty=(⟨#[]⟩:ByteArray) from rfl] at RA
 rw [hs]
 generalize (((((w.alloc (.cells #[.string (str t)] 9)).alloc (.cells #[.int .i64 0,.int .i64 0,.int .i64 0,.int .i64 0,.int .i64 0,.int .i64 0,.slice none 0 0,.slice none 0 0] 31)).alloc (.cells #[.string (⟨#[]⟩:ByteArray)] 9)).alloc (.cells #[.bool false] 4)).alloc (.cells #[.string (str t)] 147)).alloc (.cells #[.pointer (some ⟨s+1+1+1+1,0,none⟩)] 145)=W6 at *
 have k5:=RA.ptr
 have HRA:=hid RA
 obtain ⟨W7,hW7⟩:∃ W7,(W6.alloc (.cells #[.pointer (some ⟨s+1,0,none⟩),.pointer (some ⟨s+1,1,none⟩),.pointer (some ⟨s+1,2,none⟩),.pointer (some ⟨s+1,3,none⟩),.pointer (some ⟨s+1,4,none⟩),.pointer (some ⟨s+1,5,none⟩)] 150)).drew=W7:=⟨_,rfl⟩
 have hx7:Ext W6 W7:=hW7▸((Ext.rf W6).al _).dr
 have hl7:W7.heap[W6.heap.size]?=some (.cells #[.pointer (some ⟨s+1,0,none⟩),.pointer (some ⟨s+1,1,none⟩),.pointer (some ⟨s+1,2,none⟩),.pointer (some ⟨s+1,3,none⟩),.pointer (some ⟨s+1,4,none⟩),.pointer (some ⟨s+1,5,none⟩)] 150 (0,0)):=hW7▸blk_ext (heap_alloc_new W6 (.cells #[.pointer (some ⟨s+1,0,none⟩),.pointer (some ⟨s+1,1,none⟩),.pointer (some ⟨s+1,2,none⟩),.pointer (some ⟨s+1,3,none⟩),.pointer (some ⟨s+1,4,none⟩),.pointer (some ⟨s+1,5,none⟩)] 150)) (Ext.rf _).dr
 have hg7:=blk_ext RA.glass hx7
 have ha7:=blk_ext RA.act hx7
 have INTO:=hid (show Calls Tryz.prog 105 #[.pointer (some ⟨s+1+1+1+1,0,none⟩),.slice (some ⟨W6.heap.size,0,none⟩) 6 6] W7 (fun e w'=>e=(if 6≤t.length then .returned (.tuple #[]) else .panicked shortP)∧w'=intoW (s+1+1+1+1) [⟨s+1,0,none⟩,⟨s+1,1,none⟩,⟨s+1,2,none⟩,⟨s+1,3,none⟩,⟨s+1,4,none⟩,⟨s+1,5,none⟩] t W7) from into_any W7 (s+1+1+1+1) W6.heap.size [⟨s+1,0,none⟩,⟨s+1,1,none⟩,⟨s+1,2,none⟩,⟨s+1,3,none⟩,⟨s+1,4,none⟩,⟨s+1,5,none⟩] t (by simp) (cell_of_row _ _ 0 _ _ _ hg7) (frozen_of_row _ _ 0 _ _ hg7) hl7 (by rw [RA.size];omega) (fun a ha=>by
  simp only [List.mem_cons,List.not_mem_nil,or_false] at ha
  have hsz:=RA.size
  rcases ha with rfl | rfl | rfl | rfl | rfl | rfl
  ·exact ⟨by show s+1≠_;omega,by show s+1≠_;omega,⟨_,cell_of_row _ _ 0 _ _ _ ha7⟩,frozen_of_row _ _ 0 _ _ ha7⟩
  ·exact ⟨by show s+1≠_;omega,by show s+1≠_;omega,⟨_,cell_of_row _ _ 1 _ _ _ ha7⟩,frozen_of_row _ _ 1 _ _ ha7⟩
  ·exact ⟨by show s+1≠_;omega,by show s+1≠_;omega,⟨_,cell_of_row _ _ 2 _ _ _ ha7⟩,frozen_of_row _ _ 2 _ _ ha7⟩
  ·exact ⟨by show s+1≠_;omega,by show s+1≠_;omega,⟨_,cell_of_row _ _ 3 _ _ _ ha7⟩,frozen_of_row _ _ 3 _ _ ha7⟩
  ·exact ⟨by show s+1≠_;omega,by show s+1≠_;omega,⟨_,cell_of_row _ _ 4 _ _ _ ha7⟩,frozen_of_row _ _ 4 _ _ ha7⟩
  ·exact ⟨by show s+1≠_;omega,by show s+1≠_;omega,⟨_,cell_of_row _ _ 5 _ _ _ ha7⟩,frozen_of_row _ _ 5 _ _ ha7⟩))
 have HW7:=hid hW7
 have HX7:=hid hx7
 clear RA hW7 hl7 hg7 ha7 hx7
 refine wp_region_tail 16 (fun W=>W.cell? ⟨s+1+1+1+1+1,0,none⟩=some (.pointer (some ⟨s+1+1+1+1,0,none⟩))) (by kernel_rfl) k5 (fun hHeld=>?_)
 refine wpAnyT_take (i:=0) (v:=?_) rfl (by kernel_rfl) (fun _ _ _ h=>door_put (by decide) h) (Or.inl ⟨by rfl,?_⟩) (by assumption) ?_
 rotate_left
 ·intro W hSW
  simp only [zA,zB]
  (try dsimp only at hSW)
  go_simp
  (try with_reducible rfl)
 simp only [zA,zB,Act.put,zD,zE,zF]
 refine wpAnyT_take (i:=1) (v:=?_) rfl (by kernel_rfl) (fun _ _ _ h=>door_put (by decide) h) (Or.inl ⟨by rfl,?_⟩) (by assumption) ?_
 rotate_left
 ·intro W hSW
  simp only [zA,zB,zC]
  (try dsimp only at hSW)
  go_simp
  (try with_reducible rfl)
 simp only [zA,zB,zC,Act.put,zD,zE,zF]
 refine wpAnyT_take (i:=2) (v:=?_) rfl (by kernel_rfl) (fun _ _ _ h=>door_put (by decide) h) (Or.inl ⟨by rfl,?_⟩) (by assumption) ?_
 rotate_left
 ·intro W hSW
  simp only [zA,zB,zC]
  (try dsimp only at hSW)
  go_simp
  (try with_reducible rfl)
 simp only [zA,zB,zC,Act.put,zD,zE,zF]
 refine wpAnyT_take (i:=3) (v:=?_) rfl (by kernel_rfl) (fun _ _ _ h=>door_put (by decide) h) (Or.inl ⟨by rfl,?_⟩) (by assumption) ?_
 rotate_left
 ·intro W hSW
  simp only [zA,zB,zC]
  (try dsimp only at hSW)
  go_simp
  (try with_reducible rfl)
 simp only [zA,zB,zC,Act.put,zD,zE,zF]
 refine wpAnyT_take (i:=4) (v:=?_) rfl (by kernel_rfl) (fun _ _ _ h=>door_put (by decide) h) (Or.inl ⟨by rfl,?_⟩) (by assumption) ?_
 rotate_left
 ·intro W hSW
  simp only [zA,zB,zC]
  (try dsimp only at hSW)
  go_simp
  (try with_reducible rfl)
 simp only [zA,zB,zC,Act.put,zD,zE,zF]
 refine wpAnyT_take (i:=5) (v:=?_) rfl (by kernel_rfl) (fun _ _ _ h=>door_put (by decide) h) (Or.inl ⟨by rfl,?_⟩) (by assumption) ?_
 rotate_left
 ·intro W hSW
  simp only [zA,zB,zC]
  (try dsimp only at hSW)
  go_simp
  (try with_reducible rfl)
 simp only [zA,zB,zC,Act.put,zD,zE,zF]
 refine wpAnyT_take (i:=6) (v:=?_) rfl (by kernel_rfl) (fun _ _ _ h=>door_put (by decide) h) (Or.inl ⟨by rfl,?_⟩) (by assumption) ?_
 rotate_left
 ·intro W hSW
  simp only [zA,zB,zC]
  (try dsimp only at hSW)
  go_simp
  (try with_reducible rfl)
 simp only [zA,zB,zC,Act.put,zD,zE,zF]
 refine wpAnyT_take (i:=7) (v:=?_) rfl (by kernel_rfl) (fun _ _ _ h=>door_put (by decide) h) (Or.inl ⟨by rfl,?_⟩) (by assumption) ?_
 rotate_left
 ·intro W hSW
  simp only [zA,zB,zC]
  (try dsimp only at hSW)
  go_simp
  (try with_reducible rfl)
 simp only [zA,zB,zC,Act.put,zD,zE,zF]
 refine wpAnyT_take (i:=8) (v:=?_) rfl (by kernel_rfl) (fun _ _ _ h=>door_put (by decide) h) (Or.inl ⟨by rfl,?_⟩) (by assumption) ?_
 rotate_left
 ·intro W hSW
  simp only [zA,zB,zC]
  (try dsimp only at hSW)
  go_simp
  (try with_reducible rfl)
 simp only [zA,zB,zC,Act.put,zD,zE,zF]
 refine wpAnyT_take (i:=9) (v:=?_) rfl (by kernel_rfl) (fun _ _ _ h=>door_put (by decide) h) (Or.inl ⟨by rfl,?_⟩) (by assumption) ?_
 rotate_left
 ·intro W hSW
  simp only [zA,zB,zC]
  (try dsimp only at hSW)
  go_simp
  (try with_reducible rfl)
 simp only [zA,zB,zC,Act.put,zD,zE,zF]
 refine wpAnyT_take (i:=10) (v:=?_) rfl (by kernel_rfl) (fun _ _ _ h=>door_put (by decide) h) (Or.inl ⟨by rfl,?_⟩) (by assumption) ?_
 rotate_left
 ·intro W hSW
  simp only [zA,zB,zC]
  (try dsimp only at hSW)
  go_simp
  (try with_reducible rfl)
 simp only [zA,zB,zC,Act.put,zD,zE,zF]
 refine wpAnyT_take (i:=11) (v:=?_) rfl (by kernel_rfl) (fun _ _ _ h=>door_put (by decide) h) (Or.inl ⟨by rfl,?_⟩) (by assumption) ?_
 rotate_left
 ·intro W hSW
  simp only [zA,zB,zC]
  (try dsimp only at hSW)
  go_simp
  (try with_reducible rfl)
 simp only [zA,zB,zC,Act.put,zD,zE,zF]
 refine wpAnyT_take (i:=12) (v:=?_) rfl (by kernel_rfl) (fun _ _ _ h=>door_put (by decide) h) (Or.inl ⟨by rfl,?_⟩) (by assumption) ?_
 rotate_left
 ·intro W hSW
  simp only [zA,zB,zC]
  (try dsimp only at hSW)
  go_simp
  (try with_reducible rfl)
 simp only [zA,zB,zC,Act.put,zD,zE,zF]
 refine wpAnyT_take (i:=13) (v:=?_) rfl (by kernel_rfl) (fun _ _ _ h=>door_put (by decide) h) (Or.inl ⟨by rfl,?_⟩) (by assumption) ?_
 rotate_left
 ·intro W hSW
  simp only [zA,zB,zC]
  (try dsimp only at hSW)
  go_simp
  (try with_reducible rfl)
 simp only [zA,zB,zC,Act.put,zD,zE,zF]
 refine wpAnyT_take (i:=14) (v:=?_) rfl (by kernel_rfl) (fun _ _ _ h=>door_put (by decide) h) (Or.inl ⟨by rfl,?_⟩) (by assumption) ?_
 rotate_left
 ·intro W hSW
  simp only [zA,zB,zC]
  (try dsimp only at hSW)
  go_simp
  (try with_reducible rfl)
 simp only [zA,zB,zC,Act.put,zD,zE,zF]
 refine wpAnyT_go (i:=15) (by kernel_rfl) rfl (fun K hK=>?_)
 simp only [zA,zB,zC]
 go_simp
 rw [HW7.out]
 refine hK.out _ _ ?_ (fun hHeld=>?_)
 ·(exact HX7.out.ce' hHeld)
 clear hK K
 refine wpAnyT_last (t:=16) (by kernel_rfl) rfl (by kernel_rfl) (fun K hK=>?_)
 simp only [zA,zB,zC]
 go_simp
 have hps:∀ a∈([⟨s+1,0,none⟩,⟨s+1,1,none⟩,⟨s+1,2,none⟩,⟨s+1,3,none⟩,⟨s+1,4,none⟩,⟨s+1,5,none⟩]:List Addr),∃ i,a=⟨s+1,i,none⟩:=fun a ha=>by
  simp only [List.mem_cons,List.not_mem_nil,or_false] at ha
  rcases ha with rfl | rfl | rfl | rfl | rfl | rfl <;> exact ⟨_,rfl⟩
 by_cases h6:6≤t.length
 ·rw [if_pos h6] at INTO
  refine INTO.out.mono ?_
  rintro e W8 ⟨rfl,hW8⟩
  refine hK.out _ _ ?_
  clear hK K
  have hbk:∀ k,k≠s+1+1+1+1→k≠s+1→W8.heap[k]?=W7.heap[k]?:=fun k h1 h2=>by
   rw [hW8]
   exact intoW_block _ _ _ h1 (fun a ha=>by obtain ⟨i,rfl⟩:=hps a ha;exact h2)
  have hx8:Ext w W8:=by
   rw [hW8]
   exact intoW_ext (by omega) _ _ _ (HRA.out.ext.tr HX7.out) (fun a ha=>by obtain ⟨i,rfl⟩:=hps a ha;exact ⟨by show w.heap.size≤s+1;omega,rfl⟩)
  have hr8:=intoW_rowx (G:=s+1+1+1+1) (X:=s+1) (by omega) [⟨s+1,0,none⟩,⟨s+1,1,none⟩,⟨s+1,2,none⟩,⟨s+1,3,none⟩,⟨s+1,4,none⟩,⟨s+1,5,none⟩] t W7 _ hps (blk_ext HRA.out.act HX7.out)
  have hg8:=intoW_glass (G:=s+1+1+1+1) [⟨s+1,0,none⟩,⟨s+1,1,none⟩,⟨s+1,2,none⟩,⟨s+1,3,none⟩,⟨s+1,4,none⟩,⟨s+1,5,none⟩] t W7 (fun a ha=>by obtain ⟨i,rfl⟩:=hps a ha;show s+1+1+1+1≠s+1;omega) (blk_ext HRA.out.glass HX7.out)
  rw [← hW8] at hr8 hg8
  have ht8:=(hbk s (by omega) (by omega)).trans (blk_ext HRA.out.text HX7.out)
  have he8:=(hbk (s+1+1) (by omega) (by omega)).trans (blk_ext HRA.out.rest HX7.out)
  have hi8:=(hbk (s+1+1+1) (by omega) (by omega)).trans (blk_ext HRA.out.is HX7.out)
  have hp8:W8.cell? ⟨s+1+1+1+1+1,0,none⟩=some (.pointer (some ⟨s+1+1+1+1,0,none⟩)):=by
   rw [World.cell?_of_block (a:=⟨s+1+1+1+1+1,0,none⟩) (hbk (s+1+1+1+1+1) (by omega) (by omega))]
   exact HX7.out.ce' HRA.out.ptr
  obtain ⟨k,n,q,f,u,rk,t1,rfl⟩:∃ k n q f u rk t1,t=k::n::q::f::u::rk::t1:=six_bytes h6
  have hr8':W8.heap[s+1]?=some (.cells #[.int .i64 (byI k),.int .i64 (byI n),.int .i64 (byI q),.int .i64 (byI f),.int .i64 (byI u),.int .i64 (byI rk),.slice none 0 0,.slice none 0 0] 31 (0,0)):=hr8
  have hg8':W8.heap[s+1+1+1+1]?=some (.cells #[.string (str t1)] 147 (0,0)):=hg8
  have PL:=hid (pieceList_any W8 (s+1+1+1+1+1) (s+1+1+1+1) 3 t1 hp8 (cell_of_row _ _ 0 _ _ _ hg8') (frozen_of_row _ _ 0 _ _ hg8') (by omega) (by omega))
  rw [show ((3:Nat):Int)=3 from rfl] at PL
  have HR8:=hid hr8'
  have HT8:=hid ht8
  have HE8:=hid he8
  have HI8:=hid hi8
  have HX8:=hid hx8
  have HP8:=hid hp8
  clear hr8 hg8 hr8' hg8' ht8 he8 hi8 hx8 hbk hW8 INTO h6
  go_wp2_with fail
  refine PL.out.mono ?_
  rintro e W9 ⟨hR9,hgot⟩
  have hsz8:s+1+1+1+1+1 < W8.heap.size:=World.block_lt_of_cell? _ _ HP8.out
  have hk9:∀ j,j < W8.heap.size→j≠s+1+1+1+1→W9.heap[j]?=W8.heap[j]?:=fun j h1 h2=>hR9.block j h1 (fun e=>h2 (Option.some.inj e))
  have hx9:Ext w W9:=HX8.out.gr (v:=.slice (some ⟨s+1+1+1+1,0,none⟩) 0 0) hR9 (fun j hj=>by have e:=Option.some.inj hj;have e2:s+1+1+1+1=j:=e;omega)
  have hr9:=(hk9 (s+1) (by omega) (by omega)).trans HR8.out
  have ht9:=(hk9 s (by omega) (by omega)).trans HT8.out
  have he9:=(hk9 (s+1+1) (by omega) (by omega)).trans HE8.out
  have hi9:=(hk9 (s+1+1+1) (by omega) (by omega)).trans HI8.out
  have hp9:W9.cell? ⟨s+1+1+1+1+1,0,none⟩=some (.pointer (some ⟨s+1+1+1+1,0,none⟩)):=by
   rw [World.cell?_of_block (a:=⟨s+1+1+1+1+1,0,none⟩) (hk9 _ (by omega) (by show s+1+1+1+1+1≠s+1+1+1+1;omega))]
   exact HP8.out
  rcases hgot with ⟨n1,r1,v,rfl,hn1,hr1,rfl,hown,hg9,hf9⟩ | ⟨hno,rfl⟩
  ·have hpv:PiecesV W9 v (pieceOf n1.toNat r1):=sv_of_owns2 (base:=W8.heap.size) (e:=44) (by rw [pieceOf_len _ _ hr1];exact hown) (fun y hy=>pieceOf_i64 _ _ y hy) (by rw [pieceOf_len _ _ hr1];omega)
   obtain ⟨va,vc,hvf,_⟩:=hpv.form
   rw [pieceOf_len _ _ hr1] at hvf
   subst hvf
   have hfar:∀ j,(Value.slice va n1.toNat vc).ownBlock=some j→W8.heap.size≤j:=fun j hj=>(hown.lt j hj).1
   have k6:=cell_of_row W9 (s+1) 6 _ _ _ hr9
   have f6:=frozen_of_row W9 (s+1) 6 _ _ hr9
   have PLW:=hid PL
   clear PL hR9 hk9
   go_wp2_with fail
   obtain ⟨W10,hW10⟩:∃ W10,W9.setCell ⟨s+1,6,none⟩ (.slice va n1.toNat vc)=W10:=⟨_,rfl⟩
   have hr10:W10.heap[s+1]?=some (.cells #[.int .i64 (byI k),.int .i64 (byI n),.int .i64 (byI q),.int .i64 (byI f),.int .i64 (byI u),.int .i64 (byI rk),.slice va n1.toNat vc,.slice none 0 0] 31 (0,0)):=by rw [← hW10];exact heap_setCell_same W9 (s+1) 6 _ _ _ hr9
   have hb10:∀ j,j≠s+1→W10.heap[j]?=W9.heap[j]?:=fun j h=>by rw [← hW10];exact heap_setCell_other W9 ⟨s+1,6,none⟩ j _ h
   have ht10:=(hb10 s (by omega)).trans ht9
   have he10:=(hb10 (s+1+1) (by omega)).trans he9
   have hi10:=(hb10 (s+1+1+1) (by omega)).trans hi9
   have hx10:Ext w W10:=by rw [← hW10];exact hx9.se (b:=s+1) (o:=6) (by omega) _
   have hp10:W10.cell? ⟨s+1+1+1+1+1,0,none⟩=some (.pointer (some ⟨s+1+1+1+1,0,none⟩)):=by
    rw [World.cell?_of_block (a:=⟨s+1+1+1+1+1,0,none⟩) (hb10 _ (by show s+1+1+1+1+1≠s+1;omega))];exact hp9
   have hg10:W10.cell? ⟨s+1+1+1+1,0,none⟩=some (.string (str (r1.drop (2*n1.toNat)))):=by
    rw [World.cell?_of_block (a:=⟨s+1+1+1+1,0,none⟩) (hb10 _ (by show s+1+1+1+1≠s+1;omega))];exact hg9
   have hf10:W10.frozen? ⟨s+1+1+1+1,0,none⟩=false:=by
    rw [World.frozen?_of_block (a:=⟨s+1+1+1+1,0,none⟩) (hb10 _ (by show s+1+1+1+1≠s+1;omega))];exact hf9
   have hown10:W10.ownsRow W8.heap.size 44 2 (.slice va n1.toNat vc) n1.toNat (cells2 Piece.Len Piece.N (pieceOf n1.toNat r1)):=by
    rw [← hW10]
    exact ownsRow_grown hown (grown_set W9 (s+1) 6 _) (by omega)
   rw [hW10]
   have RL:=hid (runList_any W10 (s+1+1+1+1+1) (s+1+1+1+1) 48 (r1.drop (2*n1.toNat)) hp10 hg10 hf10 (by omega) (by omega))
   rw [show ((48:Nat):Int)=48 from rfl] at RL
   have HR10:=hid hr10
   have HT10:=hid ht10
   have HE10:=hid he10
   have HI10:=hid hi10
   have HX10:=hid hx10
   have HP10:=hid hp10
   have HOW10:=hid hown10
   clear hr10 hb10 ht10 he10 hi10 hx10 hp10 hg10 hf10 hown10 hW10 hown hg9 hf9 hr9 ht9 he9 hi9 hx9 hp9 hpv k6 f6 PLW
   refine RL.out.mono ?_
   rintro e W11 ⟨hR11,hgot⟩
   have hsz10:s+1+1+1+1+1 < W10.heap.size:=World.block_lt_of_cell? _ _ HP10.out
   have hk11:∀ j,j < W10.heap.size→j≠s+1+1+1+1→W11.heap[j]?=W10.heap[j]?:=fun j h1 h2=>hR11.block j h1 (fun e=>h2 (Option.some.inj e))
   have hx11:Ext w W11:=HX10.out.gr (v:=.slice (some ⟨s+1+1+1+1,0,none⟩) 0 0) hR11 (fun j hj=>by have e:=Option.some.inj hj;have e2:s+1+1+1+1=j:=e;omega)
   have hr11:=(hk11 (s+1) (by omega) (by omega)).trans HR10.out
   have ht11:=(hk11 s (by omega) (by omega)).trans HT10.out
   have he11:=(hk11 (s+1+1) (by omega) (by omega)).trans HE10.out
   have hi11:=(hk11 (s+1+1+1) (by omega) (by omega)).trans HI10.out
   rcases hgot with ⟨n2,r2,v2,hn2e,hn2,hr2,rfl,hown2,hg11,hf11⟩ | ⟨hno,rfl⟩
   ·have hcv:RunsV W11 v2 (runOf n2.toNat r2):=sv_of_owns2 (base:=W10.heap.size) (e:=48) (by rw [runOf_len _ _ hr2];exact hown2) (fun y hy=>runOf_i64 _ _ y hy) (by rw [runOf_len _ _ hr2];omega)
    obtain ⟨ca,cc,hvf,_⟩:=hcv.form
    rw [runOf_len _ _ hr2] at hvf
    subst hvf
    have k7:=cell_of_row W11 (s+1) 7 _ _ _ hr11
    have f7:=frozen_of_row W11 (s+1) 7 _ _ hr11
    clear RL
    go_wp2_with fail
    obtain ⟨W12,hW12⟩:∃ W12,W11.setCell ⟨s+1,7,none⟩ (.slice ca n2.toNat cc)=W12:=⟨_,rfl⟩
    rw [hW12]
    have hr12:W12.heap[s+1]?=some (.cells #[.int .i64 (byI k),.int .i64 (byI n),.int .i64 (byI q),.int .i64 (byI f),.int .i64 (byI u),.int .i64 (byI rk),.slice va n1.toNat vc,.slice ca n2.toNat cc] 31 (0,0)):=by rw [← hW12];exact heap_setCell_same W11 (s+1) 7 _ _ _ hr11
    have hb12:∀ j,j≠s+1→W12.heap[j]?=W11.heap[j]?:=fun j h=>by rw [← hW12];exact heap_setCell_other W11 ⟨s+1,7,none⟩ j _ h
    have b0:W12.cell? ⟨s+1,0,none⟩=some (.int .i64 (byI k)):=cell_of_row W12 (s+1) 0 _ _ _ hr12
    have b1:W12.cell? ⟨s+1,1,none⟩=some (.int .i64 (byI n)):=cell_of_row W12 (s+1) 1 _ _ _ hr12
    have b2:W12.cell? ⟨s+1,2,none⟩=some (.int .i64 (byI q)):=cell_of_row W12 (s+1) 2 _ _ _ hr12
    have b3:W12.cell? ⟨s+1,3,none⟩=some (.int .i64 (byI f)):=cell_of_row W12 (s+1) 3 _ _ _ hr12
    have b4:W12.cell? ⟨s+1,4,none⟩=some (.int .i64 (byI u)):=cell_of_row W12 (s+1) 4 _ _ _ hr12
    have b5:W12.cell? ⟨s+1,5,none⟩=some (.int .i64 (byI rk)):=cell_of_row W12 (s+1) 5 _ _ _ hr12
    have b6:W12.cell? ⟨s+1,6,none⟩=some (.slice va n1.toNat vc):=cell_of_row W12 (s+1) 6 _ _ _ hr12
    have b7:W12.cell? ⟨s+1,7,none⟩=some (.slice ca n2.toNat cc):=cell_of_row W12 (s+1) 7 _ _ _ hr12
    have g4:W12.cell? ⟨s+1+1+1+1,0,none⟩=some (.string (str (r2.drop (2*n2.toNat)))):=by
     rw [World.cell?_of_block (a:=⟨s+1+1+1+1,0,none⟩) (hb12 _ (by show s+1+1+1+1≠s+1;omega))];exact hg11
    have g5:W12.cell? ⟨s+1+1+1+1+1,0,none⟩=some (.pointer (some ⟨s+1+1+1+1,0,none⟩)):=by
     rw [World.cell?_of_block (a:=⟨s+1+1+1+1+1,0,none⟩) (hb12 _ (by show s+1+1+1+1+1≠s+1;omega)),World.cell?_of_block (a:=⟨s+1+1+1+1+1,0,none⟩) (hk11 _ (by show s+1+1+1+1+1 < _;omega) (by show s+1+1+1+1+1≠s+1+1+1+1;omega))]
     exact HP10.out
    replace b0:=fun p:Later W12=>p.cell b0
    replace b1:=fun p:Later W12=>p.cell b1
    replace b2:=fun p:Later W12=>p.cell b2
    replace b3:=fun p:Later W12=>p.cell b3
    replace b4:=fun p:Later W12=>p.cell b4
    replace b5:=fun p:Later W12=>p.cell b5
    replace b6:=fun p:Later W12=>p.cell b6
    replace b7:=fun p:Later W12=>p.cell b7
    replace g4:=fun p:Later W12=>p.cell g4
    replace g5:=fun p:Later W12=>p.cell g5
    refine region_later_tail 5 (by kernel_rfl) (by kernel_rfl) ?_
    simp only [List.take_succ_cons,List.take_zero,List.drop_succ_cons,List.drop_zero]
    repeat (go_big_quiet_step (fail))
    refine wpQuiet_nil ?_
    rintro w' ⟨p,rfl⟩
    have hx13:=p.h
    clear b0 b1 b2 b3 b4 b5 b6 b7 g4 g5
    generalize p.v=W13 at *
    have hr13:=blk_ext hr12 hx13
    have he13:=blk_ext ((hb12 (s+1+1) (by omega)).trans he11) hx13
    have hi13:=blk_ext ((hb12 (s+1+1+1) (by omega)).trans hi11) hx13
    have rr1:(W13.setRow (s+1) #[.int .i64 (byI k),.int .i64 (byI n),.int .i64 (byI q),.int .i64 (byI f),.int .i64 (byI u),.int .i64 (byI rk),.slice va n1.toNat vc,.slice ca n2.toNat cc]).heap[s+1+1]?=some (.cells #[.string ByteArray.empty] 9 (0,0)):=by rw [setRow_other W13 (s+1) _ _ (by omega)];exact he13
    have i1:(W13.setRow (s+1) #[.int .i64 (byI k),.int .i64 (byI n),.int .i64 (byI q),.int .i64 (byI f),.int .i64 (byI u),.int .i64 (byI rk),.slice va n1.toNat vc,.slice ca n2.toNat cc]).heap[s+1+1+1]?=some (.cells #[.bool false] 4 (0,0)):=by rw [setRow_other W13 (s+1) _ _ (by omega)];exact hi13
    have r2c:=cell_of_row _ (s+1+1) 0 _ _ _ rr1
    have r2f:=frozen_of_row _ (s+1+1) 0 _ _ rr1
    have i2h:((W13.setRow (s+1) #[.int .i64 (byI k),.int .i64 (byI n),.int .i64 (byI q),.int .i64 (byI f),.int .i64 (byI u),.int .i64 (byI rk),.slice va n1.toNat vc,.slice ca n2.toNat cc]).setCell ⟨s+1+1,0,none⟩ (.string (str (r2.drop (2*n2.toNat))))).heap[s+1+1+1]?=some (.cells #[.bool false] 4 (0,0)):=(heap_setCell_other _ ⟨s+1+1,0,none⟩ _ _ (by show s+1+1+1≠s+1+1;omega)).trans i1
    have i2c:=cell_of_row _ (s+1+1+1) 0 _ _ _ i2h
    have i2f:=frozen_of_row _ (s+1+1+1) 0 _ _ i2h
    go_wp2_with (refine wpList_store_row rfl 31 _ _ rfl (s+1) #[.int .i64 (byI k),.int .i64 (byI n),.int .i64 (byI q),.int .i64 (byI f),.int .i64 (byI u),.int .i64 (byI rk),.slice va n1.toNat vc,.slice ca n2.toNat cc] rfl rfl 31 _ hr13 act_size rfl (by simp [Value.oneCell']) ?_)
    have hsz8:s+1+1+1+1+1 < W8.heap.size:=World.block_lt_of_cell? _ _ HP8.out
    have keep:∀ (base:Nat) (T:TypeId) (v:Value) (m:Nat) (xs:List Value),s+6≤base→W13.ownsRow base T 2 v m xs→(((W13.setRow (s+1) #[.int .i64 (byI k),.int .i64 (byI n),.int .i64 (byI q),.int .i64 (byI f),.int .i64 (byI u),.int .i64 (byI rk),.slice va n1.toNat vc,.slice ca n2.toNat cc]).setCell ⟨s+1+1,0,none⟩ (.string (str (r2.drop (2*n2.toNat))))).setCell ⟨s+1+1+1,0,none⟩ (.bool true)).ownsRow base T 2 v m xs:=fun base T v m xs hb h =>
     ownsRow_grown (ownsRow_grown (ownsRow_grown h (grown_srow W13 (s+1) _) (by omega)) (grown_set _ (s+1+1) 0 _) (by omega)) (grown_set _ (s+1+1+1) 0 _) (by omega)
    have to13:∀ (base:Nat) (T:TypeId) (v:Value) (m:Nat) (xs:List Value),s+6≤base→W11.ownsRow base T 2 v m xs→W13.ownsRow base T 2 v m xs:=fun base T v m xs hb h=>by
     refine ownsRow_ext ?_ hx13
     rw [← hW12]
     exact ownsRow_grown h (grown_set W11 (s+1) 7 _) (by omega)
    have hpo:=keep _ _ _ _ _ (by omega) (to13 _ _ _ _ _ (by omega) (ownsRow_grown HOW10.out hR11 (by omega)))
    have hco:=keep _ _ _ _ _ (by omega) (to13 _ _ _ _ _ (by omega) hown2)
    have hpv:=sv_of_owns2 (f:=Piece.Len) (g:=Piece.N) (xs:=pieceOf n1.toNat r1) (by rw [pieceOf_len _ _ hr1];exact hpo) (fun y hy=>pieceOf_i64 _ _ y hy) (by rw [pieceOf_len _ _ hr1];omega)
    have hcv2:=sv_of_owns2 (f:=Run.At) (g:=Run.N) (xs:=runOf n2.toNat r2) (by rw [runOf_len _ _ hr2];exact hco) (fun y hy=>runOf_i64 _ _ y hy) (by rw [runOf_len _ _ hr2];omega)
    have hxe:Ext w (((W13.setRow (s+1) #[.int .i64 (byI k),.int .i64 (byI n),.int .i64 (byI q),.int .i64 (byI f),.int .i64 (byI u),.int .i64 (byI rk),.slice va n1.toNat vc,.slice ca n2.toNat cc]).setCell ⟨s+1+1,0,none⟩ (.string (str (r2.drop (2*n2.toNat))))).setCell ⟨s+1+1+1,0,none⟩ (.bool true)):=((((by rw [← hW12];exact hx11.se (b:=s+1) (o:=7) (by omega) _:Ext w W12).tr hx13).sr (b:=s+1) (by omega) _).se (b:=s+1+1) (o:=0) (by omega) _).se (b:=s+1+1+1) (o:=0) (by omega) _
    have hrow:(((W13.setRow (s+1) #[.int .i64 (byI k),.int .i64 (byI n),.int .i64 (byI q),.int .i64 (byI f),.int .i64 (byI u),.int .i64 (byI rk),.slice va n1.toNat vc,.slice ca n2.toNat cc]).setCell ⟨s+1+1,0,none⟩ (.string (str (r2.drop (2*n2.toNat))))).setCell ⟨s+1+1+1,0,none⟩ (.bool true)).heap[s+1]?=some (.cells #[.int .i64 (byI k),.int .i64 (byI n),.int .i64 (byI q),.int .i64 (byI f),.int .i64 (byI u),.int .i64 (byI rk),.slice va n1.toNat vc,.slice ca n2.toNat cc] 31 (0,0)):=(heap_setCell_other _ ⟨s+1+1+1,0,none⟩ _ _ (by show s+1≠s+1+1+1;omega)).trans ((heap_setCell_other _ ⟨s+1+1,0,none⟩ _ _ (by show s+1≠s+1+1;omega)).trans (setRow_heap W13 (s+1) _ _ _ _ hr13))
    have hrest:(((W13.setRow (s+1) #[.int .i64 (byI k),.int .i64 (byI n),.int .i64 (byI q),.int .i64 (byI f),.int .i64 (byI u),.int .i64 (byI rk),.slice va n1.toNat vc,.slice ca n2.toNat cc]).setCell ⟨s+1+1,0,none⟩ (.string (str (r2.drop (2*n2.toNat))))).setCell ⟨s+1+1+1,0,none⟩ (.bool true)).heap[s+1+1]?=some (.cells #[.string (str (r2.drop (2*n2.toNat)))] 9 (0,0)):=(heap_setCell_other _ ⟨s+1+1+1,0,none⟩ _ _ (by show s+1+1≠s+1+1+1;omega)).trans (heap_setCell_same _ (s+1+1) 0 _ _ _ rr1)
    have his:=heap_setCell_same _ (s+1+1+1) 0 _ _ (.bool true) i2h
    have hact:actT (k::n::q::f::u::rk::n1::r1)=some (⟨byI k,byI n,⟨byI q,byI f,byI u,byI rk,pieceOf n1.toNat r1⟩,runOf n2.toNat r2⟩,r2.drop (2*n2.toNat)):=by
     show (if n1.toNat≤3∧2*n1.toNat≤r1.length then _ else none)=_
     rw [if_pos ⟨hn1,hr1⟩,hn2e]
     exact if_pos ⟨hn2,hr2⟩
    exact read_ended w _ _ s _ ⟨byI k,byI n,⟨byI q,byI f,byI u,byI rk,pieceOf n1.toNat r1⟩,runOf n2.toNat r2⟩ (r2.drop (2*n2.toNat)) _ _ rfl rfl rfl hrow hrest his hxe hact hpv hcv2 (NewV.owned hpo (by omega)) (NewV.owned hco (by omega))
   ·have hnone:actT (k::n::q::f::u::rk::n1::r1)=none:=by
     show (if n1.toNat≤3∧2*n1.toNat≤r1.length then _ else none)=none
     rw [if_pos ⟨hn1,hr1⟩]
     cases hd:r1.drop (2*n1.toNat) with
     | nil=>rfl
     | cons n2 r2=>exact if_neg (hno n2 r2 hd)
    have CG:=hid (fun tm h2 h3 h4=>read_caught w W11 (k::n::q::f::u::rk::n1::r1) s tm _ _ _ h2 h3 h4 hs hx11 ht11 rfl hr11 he11 hi11 hnone)
    clear hR11 hk11 hx11 hr11 ht11 he11 hi11 hno hnone RL
    go_wp2_with fail
    exact CG.out _ rfl rfl rfl
  ·have hnone:actT (k::n::q::f::u::rk::t1)=none:=by
    cases t1 with
    | nil=>rfl
    | cons n1 r1=>exact if_neg (hno n1 r1 rfl)
   have CG:=hid (fun tm h2 h3 h4=>read_caught w W9 (k::n::q::f::u::rk::t1) s tm _ _ _ h2 h3 h4 hs hx9 ht9 rfl hr9 he9 hi9 hnone)
   clear hR9 hk9 hx9 hr9 ht9 he9 hi9 hp9 hno hnone PL
   go_wp2_with fail
   exact CG.out _ rfl rfl rfl
 ·rw [if_neg h6] at INTO
  refine INTO.out.mono ?_
  rintro e W8 ⟨rfl,hW8⟩
  have hbk:∀ k,k≠s+1+1+1+1→k≠s+1→W8.heap[k]?=W7.heap[k]?:=fun k h1 h2=>by
   rw [hW8]
   exact intoW_block _ _ _ h1 (fun a ha=>by obtain ⟨i,rfl⟩:=hps a ha;exact h2)
  obtain ⟨cs',c1,c2⟩:=intoW_row (G:=s+1+1+1+1) (X:=s+1) (by omega) [⟨s+1,0,none⟩,⟨s+1,1,none⟩,⟨s+1,2,none⟩,⟨s+1,3,none⟩,⟨s+1,4,none⟩,⟨s+1,5,none⟩] t W7 _ hps (blk_ext HRA.out.act HX7.out)
  rw [← hW8] at c2
  exact read_caught w W8 t s _ cs' _ _ rfl rfl rfl hs (by
   rw [hW8]
   exact intoW_ext (by omega) _ _ _ (HRA.out.ext.tr HX7.out) (fun a ha=>by obtain ⟨i,rfl⟩:=hps a ha;exact ⟨by show w.heap.size≤s+1;omega,rfl⟩)) ((hbk s (by omega) (by omega)).trans (blk_ext HRA.out.text HX7.out)) c1 c2 ((hbk (s+1+1) (by omega) (by omega)).trans (blk_ext HRA.out.rest HX7.out)) ((hbk (s+1+1+1) (by omega) (by omega)).trans (blk_ext HRA.out.is HX7.out)) (actT_short h6)
end Go.Proofs.YtdcndkojmflhnaaGreat
