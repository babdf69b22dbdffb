/- Walk of text.Read. -/
import Derived.Test.YtdcndkojmflhnaaDoorTextI
import Derived.RecoverIn
import Derived.Test.YtdcndkojmflhnaaDoorFen
set_option linter.unusedVariables false
set_option linter.unusedSimpArgs false
set_option maxRecDepth 100000
set_option maxHeartbeats 8000000
namespace Go.Proofs.YtdcndkojmflhnaaDoor
open Go.RowKit
attribute [local go_sem] Oper.semAt_some
theorem wpAt_block0 {P : Program} {f : FuncId} {n id : Nat} {c : Code} {Q : Exit → Act → World → Prop} {a : Act} {w : World} (h : wpAt f n P c (fun e a w => match e with | .normal => Q .normal a w | .panic ch => Q (.panic ch) a w | _ => False) a w) : wpAt f n P (.block id c) Q a w := by
  intro b k cs hr hf
  have i0 : (lone (b.atR a (.code (.block id c) :: k)) cs w).fenced P Fence.wide := fenced_wide _ _
  obtain ⟨e, a1, w1, q1, r1⟩ := h b (.inBlock id :: k) cs hr hf
  cases e with
  | normal => exact ⟨.normal, a1, w1, q1, .head i0 stepR_block (StepsIn.trans r1 (.one (fenced_wide _ _) stepR_inBlock))⟩
  | panic ch => exact ⟨.panic ch, a1, w1, q1, r1.elim fun todo hs => ⟨todo, .head i0 stepR_block hs⟩⟩
  | _ => exact q1.elim
def RetRead (w : World) (q : List Queue × Int) (e : Ending) (w' : World) : Prop := ∃ v, e = .returned (.tuple #[v, .int .i64 q.2]) ∧ QueuesV w' v q.1 ∧ Ext w w'
/-! ### what catches the panic -/
theorem read_caught (n L E : Nat) (u : TypeId) (pv : Value) (older : List PanicEntry) (w : World) (hL : ∃ old, w.cell? ⟨L, 0, none⟩ = some old) (hE : ∃ old, w.cell? ⟨E, 0, none⟩ = some old) (fL : w.frozen? ⟨L, 0, none⟩ = false) (fE : w.frozen? ⟨E, 0, none⟩ = false) (hLE : L ≠ E) :
    CallsDIn Fence.wide n Tryd.prog 21 #[.pointer (some ⟨L, 0, none⟩), .pointer (some ⟨E, 0, none⟩)] (.panicking ({ v := .iface u pv, recovered := false } :: older)) w fun e u' w' =>
      e = .returned (.tuple #[]) ∧ u' = .panicking ({ v := .iface u pv, recovered := true } :: older) ∧ w' = (w.setCell ⟨L, 0, none⟩ (.slice none 0 0)).setCell ⟨E, 0, none⟩ (.int .i64 1) := by
  refine callsDIn_of_wpSIn Tryd.func21 rfl trivial fun c₀ fs hu => ?_
  apply wpSIn_seq
  apply wpSIn_region
  simp [wpOpsSIn, go_sem, recoverD, hu, Tryd.ntmps21, Exit.thenS]
  refine wpSIn_cond (t := true) (by simp [Act.eval, Array.replicate]) ?_
  simp only [if_true]
  refine wpSIn_of_wpIn rfl (wpIn_wide.2 ?_)
  show Code.wp _ _ _ { tmps := #[.pointer (some ⟨L, 0, none⟩), .pointer (some ⟨E, 0, none⟩), .iface u pv, .bool true], defers := [] } w
  obtain ⟨oL, hL⟩ := hL
  obtain ⟨oE, hE⟩ := hE
  have j1 : (w.setCell ⟨L, 0, none⟩ (.slice none 0 0)).cell? ⟨E, 0, none⟩ = some oE := by rw [World.cell?_setCell_other _ _ _ _ (fun e => hLE (congrArg Addr.block e))]; exact hE
  have j2 : (w.setCell ⟨L, 0, none⟩ (.slice none 0 0)).frozen? ⟨E, 0, none⟩ = false := by rw [World.frozen?_setCell]; exact fE
  go_wp2_with fail
  simp [bodyPostS, results, Tryd.results21]
theorem read_idle (n L E : Nat) (w : World) :
    CallsDIn Fence.wide n Tryd.prog 21 #[.pointer (some ⟨L, 0, none⟩), .pointer (some ⟨E, 0, none⟩)] .returning w fun e u' w' => e = .returned (.tuple #[]) ∧ u' = .returning ∧ w' = w := by
  refine callsDIn_of_wpSIn Tryd.func21 rfl trivial fun c₀ fs hu => ?_
  apply wpSIn_seq
  apply wpSIn_region
  simp [wpOpsSIn, go_sem, recoverD, hu, Tryd.ntmps21, Exit.thenS]
  refine wpSIn_cond (t := false) (by simp [Act.eval, Array.replicate]) ?_
  simp only [Bool.false_eq_true, if_false]
  refine wpSIn_of_wpIn rfl (wpIn_wide.2 (wp_skip ?_))
  cases c₀
  simp_all [bodyPostS, results, Tryd.results21]
theorem invoke_read1 (W : World) (L E : Nat) : (invoke (.fn (.func 21) #[.pointer (some ⟨L, 0, none⟩), .pointer (some ⟨E, 0, none⟩)]) #[]).run Tryd.prog W = .ok (.enter 21 #[.pointer (some ⟨L, 0, none⟩), .pointer (some ⟨E, 0, none⟩)]) W := by simp [invoke, go_sem]
theorem put_other {W : World} {D k : Nat} {o o' : Obj} (hk : W.heap[k]? = some o) (h : k ≠ D) : (W.putObj D o').heap[k]? = some o := (World.putObj_heap_other h).trans hk
theorem Ext.put {a w : World} (h : Ext a w) {D : Nat} (hD : a.heap.size ≤ D) (o : Obj) : Ext a (w.putObj D o) :=
  h.gr (v := .slice (some ⟨D, 0, none⟩) 0 0) (grownBy_putObj' w D o) (fun k hk => by cases hk; exact hD)
/-- behind a panic -/
theorem leave_caught (w W : World) (D : Nat) (v : Value) (k : Int) (tmps : Array Value) (h2 : tmps[2]?.getD undef = .pointer (some ⟨w.heap.size, 0, none⟩)) (h3 : tmps[3]?.getD undef = .pointer (some ⟨w.heap.size + 1, 0, none⟩))
    (hx : Ext w W) (hL : Boxed W w.heap.size 22 v) (hE : Boxed W (w.heap.size + 1) 23 (.int .i64 k)) (hD0 : w.heap.size + 1 < D) (hD : W.heap[D]? = some (.deferred (some []))) (q : List Queue × Int) (hq : q = ([], 1)) :
    bodyPostM Fence.wide 5 Tryd.prog Tryd.f8 (RetRead w q) (.panic brokenP) { tmps := tmps, defers := [{ target := .collected D, args := #[] }, { target := .fn (.func 21) #[.pointer (some ⟨w.heap.size, 0, none⟩), .pointer (some ⟨w.heap.size + 1, 0, none⟩)], args := #[] }] } W := by
  refine ⟨by simp, .inl ⟨D, _, rfl, run_takeDeferred hD, ?_⟩⟩
  have hL2 : Boxed (W.putObj D (.deferred none)) w.heap.size 22 v := put_other hL (by omega)
  have hE2 : Boxed (W.putObj D (.deferred none)) (w.heap.size + 1) 23 (.int .i64 k) := put_other hE (by omega)
  have hx2 : Ext w (W.putObj D (.deferred none)) := hx.put (by omega) _
  generalize W.putObj D (.deferred none) = V at *
  refine ⟨by simp, .inr ⟨fun h => (by cases h), _, _, _, _, rfl, invoke_read1 V _ _, fun _ _ => trivial, ?_⟩⟩
  refine (read_caught _ _ _ _ _ [] V ⟨_, hL2.cell⟩ ⟨_, hE2.cell⟩ hL2.frozen hE2.frozen (by omega)).mono ?_
  rintro e u' w'' ⟨rfl, rfl, hw⟩
  have g1 : Boxed w'' w.heap.size 22 (.slice none 0 0) := by
    rw [hw]; exact (heap_setCell_other _ ⟨w.heap.size + 1, 0, none⟩ w.heap.size (.int .i64 1) (by show w.heap.size ≠ w.heap.size + 1; omega)).trans (hL2.set (.slice none 0 0))
  have g2 : Boxed w'' (w.heap.size + 1) 23 (.int .i64 1) := by
    rw [hw]
    exact Boxed.set (v := .int .i64 k) (.int .i64 1) ((heap_setCell_other _ ⟨w.heap.size, 0, none⟩ (w.heap.size + 1) (.slice none 0 0) (by show w.heap.size + 1 ≠ w.heap.size; omega)).trans hE2)
  have hx3 : Ext w w'' := by rw [hw]; exact (hx2.se (b := w.heap.size) (Nat.le_refl _) _).se (b := w.heap.size + 1) (by omega) _
  have c1 := g1.cell
  have c2 := g2.cell
  show LeavesIn _ _ _ _ _ _ [] (settle _) w''
  refine ⟨.tuple #[.slice none 0 0, .int .i64 1], ?_, ?_⟩
  · simp [results, Tryd.results8, h2, h3, asAddr, c1, c2, go_sem]
  · rw [hq]; exact ⟨_, rfl, SV.nil, hx3⟩
/-- behind the end -/
theorem leave_idle (w W : World) (D : Nat) (v : Value) (k : Int) (l : List Queue) (tmps : Array Value) (h2 : tmps[2]?.getD undef = .pointer (some ⟨w.heap.size, 0, none⟩)) (h3 : tmps[3]?.getD undef = .pointer (some ⟨w.heap.size + 1, 0, none⟩))
    (hx : Ext w W) (hL : Boxed W w.heap.size 22 v) (hE : Boxed W (w.heap.size + 1) 23 (.int .i64 k)) (hD0 : w.heap.size + 1 < D) (hD : W.heap[D]? = some (.deferred (some []))) (hv2 : QueuesV (W.putObj D (.deferred none)) v l) (q : List Queue × Int) (hq : q = (l, k)) :
    bodyPostM Fence.wide 5 Tryd.prog Tryd.f8 (RetRead w q) .ret { tmps := tmps, defers := [{ target := .collected D, args := #[] }, { target := .fn (.func 21) #[.pointer (some ⟨w.heap.size, 0, none⟩), .pointer (some ⟨w.heap.size + 1, 0, none⟩)], args := #[] }] } W := by
  refine ⟨by simp, .inl ⟨D, _, rfl, run_takeDeferred hD, ?_⟩⟩
  have hL2 : Boxed (W.putObj D (.deferred none)) w.heap.size 22 v := put_other hL (by omega)
  have hE2 : Boxed (W.putObj D (.deferred none)) (w.heap.size + 1) 23 (.int .i64 k) := put_other hE (by omega)
  have hx2 : Ext w (W.putObj D (.deferred none)) := hx.put (by omega) _
  generalize W.putObj D (.deferred none) = V at *
  refine ⟨by simp, .inr ⟨fun h => (by cases h), _, _, _, _, rfl, invoke_read1 V _ _, fun _ _ => trivial, ?_⟩⟩
  refine (read_idle _ _ _ V).mono ?_
  rintro e u' w'' ⟨rfl, rfl, rfl⟩
  obtain ⟨va, vc, rfl, _⟩ := hv2.form
  have c1 := hL2.cell
  have c2 := hE2.cell
  show LeavesIn _ _ _ _ _ _ [] (settle _) _
  refine ⟨.tuple #[.slice va l.length vc, .int .i64 k], ?_, ?_⟩
  · simp [results, Tryd.results8, h2, h3, asAddr, c1, c2, go_sem]
  · rw [hq]; exact ⟨_, rfl, hv2, hx2⟩
/-! ### what the loop keeps -/
/-- all blocks of cells but q lie as they lay -/
structure KeepQ (q : Nat) (W W' : World) : Prop where
  size : W.heap.size ≤ W'.heap.size
  same : ∀ (k : Nat) (o : Obj), W.heap[k]? = some o → o.isCells = true → k ≠ q → W'.heap[k]? = some o
theorem KeepQ.cells {q : Nat} {W W' : World} {row : Option Nat} (hg : W.grownBy W' row) (hr : ∀ r, row = some r → ∃ o : Obj, W.heap[r]? = some o ∧ o.isCells = false) : KeepQ q W W' :=
  ⟨hg.size, fun k o hk hc _ => (hg.block k (Array.getElem?_eq_some_iff.1 hk).1 (fun e => by
    obtain ⟨o', ho', hc'⟩ := hr k e.symm
    rw [hk] at ho'
    cases ho'
    rw [hc] at hc'; cases hc')).trans hk⟩
theorem KeepQ.turn {q : Nat} {W W' : World} {row : Option Nat} (hg : W.grownBy W' row) (hr : ∀ r, row = some r → r = q) : KeepQ q W W' :=
  ⟨hg.size, fun k o hk _ hq => (hg.block k (Array.getElem?_eq_some_iff.1 hk).1 (fun e => hq (hr k e.symm))).trans hk⟩
theorem KeepQ.ext {q : Nat} {W W' : World} (h : Ext W W') : KeepQ q W W' := ⟨h.size, fun k o hk _ _ => (h.block k (Array.getElem?_eq_some_iff.1 hk).1).trans hk⟩
theorem Boxed.keep {q B : Nat} {W W' : World} {t : TypeId} {v : Value} (h : Boxed W B t v) (hk : KeepQ q W W') (hq : B ≠ q) : Boxed W' B t v := hk.same B _ h rfl hq
theorem sv_keep {α : Type} {f g : α → Int} {q base : Nat} {W W' : World} {v : Value} {xs : List α} (h : SV 2 (E2 f g) W v xs) (hk : KeepQ q W W') (hq : q < base) (hb : ∀ a n c, v = .slice (some a) n c → base ≤ a.block) : SV 2 (E2 f g) W' v xs := by
  rcases h with h | ⟨b, off, cap, rfl, h1, h2, h3, h4, h5⟩
  · exact .inl h
  · cases hxs : xs with
    | nil => subst hxs; exact .inl ⟨rfl, _, cap, rfl, by simpa using h2⟩
    | cons y ys =>
      have hbb : base ≤ b := hb ⟨b, off, Option.none⟩ _ _ rfl
      obtain ⟨c1, _⟩ := h5 0 y (by rw [hxs]; rfl)
      obtain ⟨o, ho, hc⟩ := cells_of_cell c1
      have hs := hk.same b o ho hc (by omega)
      have hbe : W'.heap[b]? = W.heap[b]? := hs.trans ho.symm
      rw [← hxs]
      refine .inr ⟨b, off, cap, rfl, h1, h2, h3, Nat.lt_of_lt_of_le h4 hk.size, fun k x hx => ?_⟩
      obtain ⟨d1, d2, d3⟩ := h5 k x hx
      exact ⟨(World.cell?_of_block (a := ⟨b, off + k * 2, none⟩) hbe).trans d1, (World.cell?_of_block (a := ⟨b, off + k * 2 + 1, none⟩) hbe).trans d2, d3⟩
/-- the queues that the call owns, all in blocks of its own -/
def OwnL (base : Nat) (W : World) (v : Value) (l : List Queue) : Prop := ∃ css, Qs3 base W v l css ∧ ∀ cs ∈ css, ∀ u ∈ cs, ∀ a n c, u = .slice (some a) n c → base ≤ a.block
theorem OwnL.none (base : Nat) (W : World) : OwnL base W (.slice none 0 0) [] :=
  ⟨[], ⟨World.ownsRow_nil _ _ _ _, rfl, fun k cs x h => by simp at h, fun cs h => by simp at h⟩, fun cs h => by simp at h⟩
theorem OwnL.t {base : Nat} {W : World} {v : Value} {l : List Queue} (h : OwnL base W v l) : OwnT base W v l := h.elim fun css h => ⟨css, h.1⟩
theorem OwnL.keep {q base : Nat} {W W' : World} {v : Value} {l : List Queue} (h : OwnL base W v l) (hk : KeepQ q W W') (hq : q < base) : OwnL base W' v l := by
  obtain ⟨css, h, hlow⟩ := h
  refine ⟨css, ⟨?_, h.len, fun k cs x h1 h2 => ?_, fun cs hc u hu a n c e => ⟨Nat.lt_of_lt_of_le (h.low cs hc u hu a n c e).1 hk.size, (h.low cs hc u hu a n c e).2⟩⟩, hlow⟩
  · refine ⟨h.row.1, ?_⟩
    rcases h.row.2 with h0 | ⟨g, cap, cur, rfl, hb, hg, rest⟩
    · exact .inl h0
    · exact .inr ⟨g, cap, cur, rfl, hb, hk.same g _ hg rfl (by omega), rest⟩
  · obtain ⟨cv, rfl, hp, hi⟩ := h.each k cs x h1 h2
    exact ⟨cv, rfl, sv_keep hp hk hq (fun a n c e => hlow _ (List.mem_of_getElem? h1) cv (by simp) a n c e), hi⟩
theorem Ext.gro {a w w' : World} {row : Option Nat} (h : Ext a w) (hg : w.grownBy w' row) (hr : ∀ r, row = some r → a.heap.size ≤ r) : Ext a w' := by
  cases row with
  | none => exact h.gr (v := .slice none 0 0) hg (fun k hk => by cases hk)
  | some r => exact h.gr (v := .slice (some ⟨r, 0, none⟩) 0 0) hg (fun k hk => by cases hk; exact hr r rfl)
/-- behind some lines -/
def ReadI (w : World) (pre : List By) (W : World) : Prop := ∃ l v, readLs [] pre = some l ∧ Boxed W w.heap.size 22 v ∧ Boxed W (w.heap.size + 1) 23 (.int .i64 0) ∧ OwnL (w.heap.size + 3) W v l ∧ w.heap.size + 3 ≤ W.heap.size ∧ Ext w W
/-- behind a line that is broken -/
def ReadP (w : World) (s : By) (ch : List PanicEntry) (W : World) : Prop := ch = brokenP ∧ (∃ v, Boxed W w.heap.size 22 v) ∧ Boxed W (w.heap.size + 1) 23 (.int .i64 0) ∧ Ext w W ∧ readL s = none
theorem ReadI.keep {w : World} {pre : List By} {W W' : World} (h : ReadI w pre W) (hk : KeepQ (w.heap.size + 2) W W') (hx : Ext w W') : ReadI w pre W' := by
  obtain ⟨l, v, h1, h2, h3, h4, h5, h6⟩ := h
  exact ⟨l, v, h1, Boxed.keep h2 hk (by omega), Boxed.keep h3 hk (by omega), h4.keep hk (by omega), Nat.le_trans h5 hk.size, hx⟩
theorem ReadI.ext {w : World} {pre : List By} {W : World} (h : ReadI w pre W) : Ext w W := by obtain ⟨_, _, _, _, _, _, _, h⟩ := h; exact h
theorem ReadI.own (w : World) (B : Nat) (hB : w.heap.size ≤ B) : OwnFrom B (ReadI w) := fun s W W' row h hg hr =>
  h.keep (KeepQ.cells hg (fun r e => (hr r e).2)) (h.ext.gro hg (fun r e => Nat.le_trans hB (hr r e).1))
theorem ReadI.turns (w : World) : Turns (w.heap.size + 2) (ReadI w) := fun s W W' row h hg hr =>
  h.keep (KeepQ.turn hg hr) (h.ext.gro hg (fun r e => by have := hr r e; omega))
/-- a region that draws its order, in a round: the last operation writes; it may panic -/
theorem wpIn_round_tail {P : Program} {ops : Array Oper} {Q : Exit → Act → World → Prop} {S : World → Prop} {n l id t : Nat} {a : Act} {w : World} (G : Act → World → Prop) (Gp : List PanicEntry → World → Prop) (hm : P.follows .mixedOrders = true) (hd : noDeferB ops = true)
    (hG : ∀ a' w', G a' w' → Q .normal a' w') (hP : ∀ ch a' w', a'.defers = [] → Gp ch w' → Q (.panic ch) a' w') (hS : S w.drew)
    (h : S w.drew → wpAnyT P .any ops (fun e a' w' => match e with | .normal => G a' w' | .panic ch => a'.defers = [] ∧ Gp ch w' | _ => False) S t ops.size (Array.replicate ops.size false) a w.drew) : (Code.region id ops true).wpIn (Fence.wide.inRound l) n P Q a w := by
  refine wpIn_mono (Q := fun e a' w' => match e with | .normal => G a' w' | .panic ch => a'.defers = [] ∧ Gp ch w' | _ => False) (wpIn_region_any hm (wpAnyIn_of_wpAny hd (fun h => by obtain ⟨_, _, h⟩ := h; exact h) _ _ _ _ (wpAny_of_tail _ _ _ _ (h hS)))) ?_
  rintro e a' w' h
  cases e with
  | normal => exact hG a' w' h
  | panic ch => exact hP ch a' w' h.1 h.2
  | _ => exact h.elim
theorem Read_many (w : World) (s : By) (h : 4096 < s.length) (hs : s.length ≤ 9223372036854775807) : Calls Tryd.prog 8 #[.string (tx s)] w (RetRead w (readR s)) := by
  have HR := hid (show readR s = ([], 2) from by unfold readR; rw [if_pos h])
  have hz := tx_size s
  have hb : (4096 : Int) < (s.length : Int) := by omega
  have HX := hid (show Ext w ((w.alloc (.cells #[.slice none 0 0] 22)).alloc (.cells #[.int .i64 2] 23)) from ((Ext.rf w).al _).al _)
  have c1 : ((w.alloc (.cells #[.slice none 0 0] 22)).alloc (.cells #[.int .i64 2] 23)).cell? ⟨w.heap.size, 0, none⟩ = some (.slice none 0 0) := by
    have := (Ext.rf (w.alloc (.cells #[.slice none 0 0] 22))).al (.cells #[.int .i64 2] 23)
    exact this.ce' (cell_of_row _ _ 0 _ _ _ (heap_alloc_new w _))
  have c2 : ((w.alloc (.cells #[.slice none 0 0] 22)).alloc (.cells #[.int .i64 2] 23)).cell? ⟨w.heap.size + 1, 0, none⟩ = some (.int .i64 2) := by
    have := cell_of_row _ _ 0 _ _ _ (heap_alloc_new (w.alloc (.cells #[.slice none 0 0] 22)) (.cells #[.int .i64 2] 23))
    rwa [World.size_alloc] at this
  have C1 := hid c1
  have C2 := hid c2
  clear c1 c2
  go_enter Tryd.func8, Tryd.ntmps8
  go_wp2_with fail
  have c1 := C1.out
  have c2 := C2.out
  refine ⟨rfl, .tuple #[.slice none 0 0, .int .i64 2], ?_, ?_⟩
  · simp [results, Tryd.results8, asAddr, c1, c2, go_sem]
  · rw [HR.out]; exact ⟨_, rfl, SV.nil, HX.out⟩
theorem Read_some (w : World) (hw : TextW w) (s : By) (hs : s.length ≤ 4096) : Calls Tryd.prog 8 #[.string (tx s)] w (RetRead w (readR s)) := by
  have hz := tx_size s
  have hb : ¬ (4096 : Int) < (s.length : Int) := by omega
  have HW := hid hw
  have HLI := hid (fun (W : World) => Lines_any W (tx s))
  obtain ⟨w2, hw2⟩ : ∃ w2, ((w.alloc (.cells #[.slice none 0 0] 22)).alloc (.cells #[.int .i64 0] 23)).alloc (.cells #[.string (tx s)] 9) = w2 := ⟨_, rfl⟩
  have HB0 := hid (show Boxed w2 w.heap.size 22 (.slice none 0 0) from by rw [← hw2]; exact ((Boxed.new w _ _).alloc _).alloc _)
  have HB1 := hid (show Boxed w2 (w.heap.size + 1) 23 (.int .i64 0) from by
    rw [← hw2]; have := (Boxed.new (w.alloc (.cells #[.slice none 0 0] 22)) 23 (.int .i64 0)).alloc (.cells #[.string (tx s)] 9); rwa [World.size_alloc] at this)
  have HB2 := hid (show Boxed w2 (w.heap.size + 1 + 1) 9 (.string (tx s)) from by
    rw [← hw2]; have := Boxed.new ((w.alloc (.cells #[.slice none 0 0] 22)).alloc (.cells #[.int .i64 0] 23)) 9 (.string (tx s)); rwa [World.size_alloc, World.size_alloc] at this)
  have HX2 := hid (show Ext w w2 from by rw [← hw2]; exact (((Ext.rf w).al _).al _).al _)
  have hs2 : w2.heap.size = w.heap.size + 3 := by rw [← hw2]; simp
  have HS2 := hid hs2
  have HW2 := hid hw2
  have HSEQ := hid (lines_seq 4 (by omega) (w.heap.size + 1 + 1) s hs w2 HB2.out)
  clear hw hw2 hs2
  refine calls_of_wpAt (n := 5) Tryd.func8 rfl ?_
  simp only [Tryd.ntmps8, List.size_toArray, List.length_cons, List.length_nil, Nat.reduceAdd, Nat.reduceSub, Array.replicate_succ, Array.replicate_zero, List.push_toArray, List.append_toArray, List.nil_append, List.cons_append]
  refine wpAt_seq (wpAt_of ?_)
  gi_wp2
  refine wpAt_seq (wpAt_of ?_)
  gi_wp2
  refine wpAt_seq (wpAt_of ?_)
  gi_wp2
  refine wpAt_seq (wpAt_seq (wpAt_of ?_))
  gi_wp2
  refine ⟨trivial, (callsIn_wide.2 (HLI.out _)).mono ?_⟩
  rintro e w1 ⟨rfl, rfl⟩
  gi_wp2
  refine wpAt_block0 ?_
  rw [HW2.out]
  obtain ⟨d9, hd9⟩ : ∃ d, decide ((4096 : Int) < (s.length : Int)) = d := ⟨_, rfl⟩
  rw [hd9]
  refine wpAt_range Tryd.func8 (gf := 41) (lb := #[.pointer (some ⟨w.heap.size + 1 + 1, 0, none⟩)]) rfl (enters_of Tryd.func41 (by kernel_rfl) rfl)
    HSEQ.out (fun h k => h.tr k) (KeepB.put (by have := HS2.out; intro j hj; simp only [List.mem_cons, List.not_mem_nil, or_false] at hj; omega)) (Below.refl _ _) (by have := HS2.out; omega) (fun _ => rfl)
    (ReadI w) (ReadP w s) (ReadI.own w _ (by have := HS2.out; omega)) (ReadI.turns w) ⟨[], _, rfl, HB0.out, HB1.out, OwnL.none _ _, by rw [HS2.out]; exact Nat.le_refl _, HX2.out⟩ (fun x => { tmps := #[.string (tx s), undef, .pointer (some ⟨w.heap.size, 0, none⟩), .pointer (some ⟨w.heap.size + 1, 0, none⟩), .string (tx x), undef, undef, .string (tx s), .int .i64 s.length, .bool d9, .func (.func 21) #[] #[.pointer (some ⟨w.heap.size, 0, none⟩), .pointer (some ⟨w.heap.size + 1, 0, none⟩)], .string (tx s), .func (.func 41) #[] #[.pointer (some ⟨w.heap.size + 1 + 1, 0, none⟩)], .string (tx x), undef, undef, undef, undef, undef, undef, undef, undef, undef, undef, undef, undef, undef, undef, undef, undef, undef, undef, undef, undef, undef], defers := [] }) ?assign ?body ?done ?pan
  case assign =>
    intro y x W K hK
    have HK := hid hK
    clear hK
    gi_wp2
    exact HK.out
  case body =>
    intro y pre x post W hxs hI
    refine wpIn_block ?_
    dsimp only
    obtain ⟨l, v, hr, hL, hE, hO, hsz, hx⟩ := hI
    have hlen := readLs_len _ _ _ hr
    have hll := linesOf_len s
    rw [hxs] at hll
    simp only [List.length_append, List.length_cons, List.length_nil] at hll hlen
    have hl4 : l.length ≤ 4096 := by omega
    have hxl : x.length ≤ 4096 := by have := linesOf_mem (s := s) x (by rw [hxs]; simp); omega
    obtain ⟨t, ht⟩ : ∃ t, Lib.trimSuffix x [10] = t := ⟨_, rfl⟩
    have htl : t.length ≤ 4096 := by
      rw [← ht]; unfold Lib.trimSuffix; split
      · rw [List.length_take]; omega
      · exact hxl
    have TR := hid (fun (V : World) => show Calls Tryd.prog 24 #[.string (tx x), .string ⟨#[10]⟩] V fun e w' => e = .returned (.string (tx t)) ∧ w' = V from by rw [← ht]; exact Tryd.strings_TrimSuffix (tx x) ⟨#[10]⟩ V (by rw [tx_size]; omega))
    have LN := hid (fun (V : World) (h : Ext W V) => line_any V (HW.out.ext (hx.tr h)) v l ((hO.t.v (by omega)).mono h) t htl hl4)
    obtain ⟨css, hQ, hlow⟩ := hO
    obtain ⟨va, vc, rfl⟩ := (show OwnT _ W v l from ⟨css, hQ⟩).form
    have hcL := hL.cell
    have hs2 := HS2.out
    obtain ⟨iq, iq1, iq2, iq3, iq4⟩ := info_parts queue_info
    obtain ⟨n, hn⟩ : ∃ n, l.length = n := ⟨_, rfl⟩
    have HN := hid hn
    rw [hn] at LN hL hcL hQ hl4
    clear hn
    have HQ := hid hQ
    have HLOW := hid hlow
    have HHL := hid hL
    have HHE := hid hE
    have HHX := hid hx
    have HRD := hid hr
    have HTT := hid ht
    have HXS := hid hxs
    clear hQ hlow hL hE hx hr ht hxs
    refine wpIn_round_tail (S := fun V => V.cell? ⟨w.heap.size, 0, none⟩ = some (.slice va n vc)) (t := 7) (fun a' V => KeepsFrom w2.heap.size W V ∧ KeepB [w.heap.size + 1 + 1] W V ∧ ReadI w (pre ++ [x]) V) (fun ch V => KeepsFrom w2.heap.size W V ∧ ReadP w s ch V) (by kernel_rfl) (by kernel_rfl) (fun a' w' h => h) (fun ch a' w' hd h => ⟨hd, h.1, h.2⟩) hcL (fun hHeld => ?_)
    have hxd : Ext W W.drew := (Ext.rf W).dr
    refine wpAnyT_take (i := 0) (v := ?_) rfl (by kernel_rfl) (fun _ _ _ h => h) (Or.inl ⟨by rfl, ?_⟩) (by assumption) ?_
    rotate_left
    · intro W hSW
      simp only [List.getElem_toArray, List.getElem_cons_zero]
      (try dsimp only at hSW)
      go_simp
      (try with_reducible rfl)
    simp only [List.getElem_toArray, List.getElem_cons_zero, Act.put, List.setIfInBounds_toArray, List.set_cons_zero, List.set_cons_succ]
    refine wpAnyT_take (i := 1) (v := ?_) rfl (by kernel_rfl) (fun _ _ _ h => h) (Or.inl ⟨by rfl, ?_⟩) (by assumption) ?_
    rotate_left
    · intro W hSW
      simp only [List.getElem_toArray, List.getElem_cons_zero, List.getElem_cons_succ]
      (try dsimp only at hSW)
      go_simp
      (try with_reducible rfl)
    simp only [List.getElem_toArray, List.getElem_cons_zero, List.getElem_cons_succ, Act.put, List.setIfInBounds_toArray, List.set_cons_zero, List.set_cons_succ]
    refine wpAnyT_take (i := 2) (v := ?_) rfl (by kernel_rfl) (fun _ _ _ h => h) (Or.inl ⟨by rfl, ?_⟩) (by assumption) ?_
    rotate_left
    · intro W hSW
      simp only [List.getElem_toArray, List.getElem_cons_zero, List.getElem_cons_succ]
      (try dsimp only at hSW)
      go_simp
      (try with_reducible rfl)
    simp only [List.getElem_toArray, List.getElem_cons_zero, List.getElem_cons_succ, Act.put, List.setIfInBounds_toArray, List.set_cons_zero, List.set_cons_succ]
    refine wpAnyT_go (i := 3) (by kernel_rfl) rfl (fun K hK => ?_)
    simp only [List.getElem_toArray, List.getElem_cons_zero, List.getElem_cons_succ]
    go_simp
    refine (TR.out _).mono ?_
    rintro e W1 ⟨rfl, rfl⟩
    go_wp2_with fail
    refine hK.out _ _ ?_ (fun hHeld => ?_)
    · (exact hcL)
    clear hK K
    refine wpAnyT_go (i := 4) (by kernel_rfl) rfl (fun K hK => ?_)
    simp only [List.getElem_toArray, List.getElem_cons_zero, List.getElem_cons_succ]
    go_simp
    refine (LN.out _ hxd).mono ?_
    rintro e W1 ⟨hx1, he⟩
    cases hq : lineQ l t with
    | none =>
      rw [hq] at he
      have he' : e = .panicked brokenP := he
      subst he'
      have hxa := hxd.tr hx1
      exact ⟨KeepsFrom.ext hxa, rfl, ⟨_, blk_extT HHL.out hxa⟩, blk_extT HHE.out hxa, HHX.out.tr hxa, by rw [readL_lines, HXS.out]; exact readLs_bad HRD.out (by rw [HTT.out]; exact hq)⟩
    | some y =>
      rw [hq] at he
      obtain ⟨cv, rfl, hrv, hnw, hnz, hpi⟩ := he
      have HQY := hid hq
      have hxa := hxd.tr hx1
      go_wp2_with fail
      refine hK.out _ _ ?_ (fun hHeld => ?_)
      · (exact hxa.ce' hcL)
      clear hK K
      refine wpAnyT_go (i := 5) (by kernel_rfl) rfl (fun K hK => ?_)
      simp only [List.getElem_toArray, List.getElem_cons_zero, List.getElem_cons_succ]
      go_simp
      obtain ⟨ca, cc, hcf, _⟩ := hrv.form
      obtain ⟨W3, hW3⟩ : ∃ W3, W1.alloc (.cells #[.string y.Name, .int .i64 y.Parent, cv] 41) = W3 := ⟨_, rfl⟩
      have hx3 : Ext W1 W3 := hW3 ▸ (Ext.rf W1).al _
      have hxb := hxa.tr hx3
      have hn3 := cell_three_new W1 (.string y.Name) (.int .i64 y.Parent) cv 41
      have hs13 : W3.heap.size = W1.heap.size + 1 := by rw [← hW3]; simp
      have hqc : QueueC W3 [.string y.Name, .int .i64 y.Parent, cv] y := ⟨cv, rfl, hrv.mono hx3, by omega, hpi⟩
      have hnew : ∀ u ∈ ([.string y.Name, .int .i64 y.Parent, cv] : List Value), NewT W.heap.size W3 u := fun u hu => by
        simp only [List.mem_cons, List.not_mem_nil, or_false] at hu
        rcases hu with rfl | rfl | rfl
        · intro a n c e; cases e
        · intro a n c e; cases e
        · exact fun a n c e => ⟨(hnw a n c e).1, Nat.lt_of_lt_of_le (hnw a n c e).2 hx3.size⟩
      have hrow : W.ownsRow (w.heap.size + 3) 41 3 (.slice va n vc) n css.flatten := by have := HQ.out.row; rwa [HN.out] at this
      have hrow3 := ownsRow_ext hrow hxb
      have hob : ∀ r, (Value.slice va n vc).ownBlock = some r → w.heap.size + 3 ≤ r := fun r hr => own_lt hrow r hr
      have hoc : ∀ (r : Nat) (o : Obj), (Value.slice va n vc).ownBlock = some r → W3.heap[r]? = some o → o.isCells = true := fun r o hr ho => by
        rcases hrow3.2 with ⟨h0, _⟩ | ⟨g, cap, cur, h0, _, hg, _⟩
        · rw [h0] at hr; cases hr
        · rw [h0] at hr
          obtain rfl : g = r := by simpa [Value.ownBlock] using hr
          rw [hg] at ho
          cases ho; rfl
      have hb3 := hxb.size
      rw [hW3] at hn3 ⊢
      refine hK.out _ _ ?_ (fun hHeld => ?_)
      · (exact hxb.ce' hcL)
      clear hK K
      refine wpAnyT_go (i := 6) (by kernel_rfl) rfl (fun K hK => ?_)
      simp only [List.getElem_toArray, List.getElem_cons_zero, List.getElem_cons_succ]
      refine wp_append_lies _ _ _ _ (by rfl) (w.heap.size + 3) 41 iq _ 3 48 Tryd.underlying22 iq1 iq2 iq3 iq4 rfl (by decide) (.slice va n vc) n css.flatten (by rfl) hrow3 ⟨W1.heap.size, 0, none⟩ 1 1 [.string y.Name, .int .i64 y.Parent, cv] (by rfl) (by rfl) hn3 hqc.one (by omega) (by unfold maxLen; omega) (by omega) (by omega) (W1.heap.size + 1) hs13 ?_
      intro g2 cp2 W5 hown hgrow hlie hlt
      have hL5 : Boxed W5 w.heap.size 22 (.slice va n vc) := (hgrow.block _ (by omega) (fun e => by have := hob _ e.symm; omega)).trans (blk_extT HHL.out hxb)
      have hE5 : Boxed W5 (w.heap.size + 1) 23 (.int .i64 0) := (hgrow.block _ (by omega) (fun e => by have := hob _ e.symm; omega)).trans (blk_extT HHE.out hxb)
      have c5 := hL5.cell
      have f5 := hL5.frozen
      have hx5 : Ext w W5 := (HHX.out.tr hxb).gr hgrow (fun g hg => by have := hob g hg; omega)
      have hsn := HQ.out.snocC (g := g2) (cap := cp2) hxb hqc hnew (by rw [HN.out]; exact hown) hgrow (hlie.imp_right fun e => e.trans hs13.symm)
      have hk1 := ((KeepsFrom.ext hxb : KeepsFrom (w.heap.size + 3) W W3).trans ((KeepsOthers.of_grownBy hgrow (fun j o hj ho => hoc j o hj ho)).from _)).trans (KeepsFrom.se W5 w.heap.size (.slice (some ⟨g2, 0, none⟩) (n + 1) cp2))
      have hk2 := ((KeepB.ext hxb : KeepB [w.heap.size + 1 + 1] W W3).tr (KeepB.grown hgrow (fun r hr hm => by have := hob r hr; simp only [List.mem_cons, List.not_mem_nil, or_false] at hm; omega))).tr (KeepB.se (A := W5) (b := w.heap.size) (.slice (some ⟨g2, 0, none⟩) (n + 1) cp2) (by simp only [List.mem_cons, List.not_mem_nil, or_false]; omega))
      have hnl : (l ++ [y]).length = n + 1 := by rw [List.length_append, HN.out]; rfl
      have hol : OwnL (w.heap.size + 3) W5 (.slice (some ⟨g2, 0, none⟩) (n + 1) cp2) (l ++ [y]) := ⟨_, by rw [hnl] at hsn; exact hsn, fun cs hc u hu a m c e => by
        rcases List.mem_append.1 hc with h | h
        · exact HLOW.out cs h u hu a m c e
        · rw [List.mem_singleton.1 h] at hu
          have := (hnew u hu a m c e).1; omega⟩
      have hri : ReadI w (pre ++ [x]) (W5.setCell ⟨w.heap.size, 0, none⟩ (.slice (some ⟨g2, 0, none⟩) (n + 1) cp2)) :=
        ⟨l ++ [y], _, readLs_one HRD.out (by rw [HTT.out]; exact HQY.out), hL5.set _, (heap_setCell_other W5 ⟨w.heap.size, 0, none⟩ (w.heap.size + 1) _ (by show w.heap.size + 1 ≠ w.heap.size; omega)).trans hE5,
          hol.keep (KeepQ.turn (q := w.heap.size) (grownBy_setCell' W5 w.heap.size _) (fun r e => (Option.some.inj e).symm)) (by omega), by have := hx5.size; have := hgrow.size; simp [World.setCell]; omega, hx5.se (b := w.heap.size) (Nat.le_refl _) _⟩
      refine hK.out _ _ ?_ (fun hHeld => ?_)
      · (exact c5)
      clear hK K
      refine wpAnyT_last (t := 7) (by kernel_rfl) rfl (by kernel_rfl) (fun K hK => ?_)
      simp only [List.getElem_toArray, List.getElem_cons_zero, List.getElem_cons_succ]
      go_simp
      refine hK.out _ _ ?_
      clear hK K
      exact ⟨by rw [HS2.out]; exact hk1, hk2, hri⟩
  case done =>
    rintro D W hDl ⟨l, v, hr, hL, hE, hO, hsz, hx⟩ hD
    have hs2 := HS2.out
    have hrl : readL s = some l := by rw [readL_lines]; exact hr
    have hlen := readLs_len _ _ _ hr
    have hll := linesOf_len s
    simp only [List.length_nil, Nat.zero_add] at hlen
    have SH := hid (Show_any W v l (hO.t.v (by omega)))
    have hDs : D < W.heap.size := (Array.getElem?_eq_some_iff.1 hD).1
    have HO := hid hO
    have HLc := hid hL
    have HEc := hid hE
    have HXc := hid hx
    have HDc := hid hD
    have hDl' : w.heap.size + 3 ≤ D := by omega
    have hcL := hL.cell
    obtain ⟨va, vc, rfl⟩ := hO.t.form
    have hl4 : l.length ≤ 4096 := by omega
    clear hr hO hL hE hx hD hs2 hDl hlen hll
    refine wpAt_of (n := 5) ?_
    generalize hQQ : bodyPostM Fence.wide 5 Tryd.prog Tryd.f8 (RetRead w (readR s)) = QQ
    have HQQ := hid hQQ
    clear hQQ
    by_cases hok : checkT l = 0 ∧ treeB l = s
    · obtain ⟨hc, ht⟩ := hok
      have HRR := hid (show readR s = (l, 0) from by unfold readR; rw [if_neg (by omega), hrl]; simp [hc, ht])
      have hsr : showR l = (s, 0) := by unfold showR; rw [if_pos hc, ht]
      rw [hsr] at SH
      have hq := nameT (x := tx s) (y := tx s) rfl
      clear hsr hc ht hrl
      gi_wp2
      refine ⟨trivial, (callsIn_wide.2 SH.out).mono ?_⟩
      rintro e W1 ⟨rfl, hx1⟩
      have HX1 := hid hx1
      have hL1 : Boxed W1 w.heap.size 22 (.slice va l.length vc) := blk_extT HLc.out hx1
      have hE1 : Boxed W1 (w.heap.size + 1) 23 (.int .i64 0) := blk_extT HEc.out hx1
      have HL1 := hid hL1
      have HE1 := hid hE1
      have cL := hL1.cell
      have fL := hL1.frozen
      have cE := hE1.cell
      have fE := hE1.frozen
      clear hx1 hL1 hE1 hcL
      gi_wp2
      refine ⟨trivial, (callsIn_wide.2 (must_yes _)).mono ?_⟩
      rintro e W2 ⟨rfl, hw2⟩
      obtain rfl := hw2.symm
      have e1 : (W1.setCell ⟨w.heap.size, 0, none⟩ (.slice va l.length vc)).cell? ⟨w.heap.size + 1, 0, none⟩ = some (.int .i64 0) := by rw [World.cell?_setCell_other _ _ _ _ (fun e => by have := congrArg Addr.block e; simp at this)]; exact cE
      have e2 : (W1.setCell ⟨w.heap.size, 0, none⟩ (.slice va l.length vc)).frozen? ⟨w.heap.size + 1, 0, none⟩ = false := by rw [World.frozen?_setCell]; exact fE
      gi_wp2
      rw [← HQQ.out]
      have hO1 := HO.out.keep (KeepQ.ext (q := w.heap.size) HX1.out) (by omega)
      have hg1 := grownBy_setCell' W1 w.heap.size (.slice va l.length vc)
      have hO2 := hO1.keep (KeepQ.turn (q := w.heap.size) hg1 (fun r e => (Option.some.inj e).symm)) (by omega)
      have hg2 := grownBy_setCell' (W1.setCell ⟨w.heap.size, 0, none⟩ (.slice va l.length vc)) (w.heap.size + 1) (.int .i64 0)
      have hO3 := hO2.keep (KeepQ.turn (q := w.heap.size + 1) hg2 (fun r e => (Option.some.inj e).symm)) (by omega)
      have hD1 := blk_extT HDc.out HX1.out
      have hD3 : ((W1.setCell ⟨w.heap.size, 0, none⟩ (.slice va l.length vc)).setCell ⟨w.heap.size + 1, 0, none⟩ (.int .i64 0)).heap[D]? = some (.deferred (some [])) :=
        (heap_setCell_other _ ⟨w.heap.size + 1, 0, none⟩ D _ (by show D ≠ w.heap.size + 1; omega)).trans ((heap_setCell_other _ ⟨w.heap.size, 0, none⟩ D _ (by show D ≠ w.heap.size; omega)).trans hD1)
      have hL3 : Boxed ((W1.setCell ⟨w.heap.size, 0, none⟩ (.slice va l.length vc)).setCell ⟨w.heap.size + 1, 0, none⟩ (.int .i64 0)) w.heap.size 22 (.slice va l.length vc) :=
        (heap_setCell_other _ ⟨w.heap.size + 1, 0, none⟩ w.heap.size _ (by show w.heap.size ≠ w.heap.size + 1; omega)).trans (HL1.out.set _)
      have hE3 : Boxed ((W1.setCell ⟨w.heap.size, 0, none⟩ (.slice va l.length vc)).setCell ⟨w.heap.size + 1, 0, none⟩ (.int .i64 0)) (w.heap.size + 1) 23 (.int .i64 0) :=
        Boxed.set (v := .int .i64 0) (.int .i64 0) ((heap_setCell_other _ ⟨w.heap.size, 0, none⟩ (w.heap.size + 1) _ (by show w.heap.size + 1 ≠ w.heap.size; omega)).trans HE1.out)
      have hX3 : Ext w ((W1.setCell ⟨w.heap.size, 0, none⟩ (.slice va l.length vc)).setCell ⟨w.heap.size + 1, 0, none⟩ (.int .i64 0)) := ((HXc.out.tr HX1.out).se (b := w.heap.size) (Nat.le_refl _) _).se (b := w.heap.size + 1) (by omega) _
      generalize (W1.setCell ⟨w.heap.size, 0, none⟩ (.slice va l.length vc)).setCell ⟨w.heap.size + 1, 0, none⟩ (.int .i64 0) = W9 at *
      exact leave_idle w W9 D _ 0 l _ rfl rfl hX3 hL3 hE3 (by omega) hD3 ((hO3.keep (KeepQ.cells (q := w.heap.size) (grownBy_putObj' W9 D _) (fun r e => ⟨_, by cases e; exact hD3, rfl⟩)) (by omega)).t.v (by omega)) _ HRR.out
    · have HRR := hid (show readR s = ([], 1) from by unfold readR; rw [if_neg (by omega), hrl]; simp only [if_neg hok])
      have fin : ∀ (W1 : World) (tmps : Array Value), Ext W W1 → tmps[2]?.getD undef = .pointer (some ⟨w.heap.size, 0, none⟩) → tmps[3]?.getD undef = .pointer (some ⟨w.heap.size + 1, 0, none⟩) →
          QQ (.panic brokenP) { tmps := tmps, defers := [{ target := .collected D, args := #[] }, { target := .fn (.func 21) #[.pointer (some ⟨w.heap.size, 0, none⟩), .pointer (some ⟨w.heap.size + 1, 0, none⟩)], args := #[] }] } W1 := fun W1 tmps hx1 h2 h3 => by
        rw [← HQQ.out]
        exact leave_caught w W1 D _ 0 tmps h2 h3 (HXc.out.tr hx1) (blk_extT HLc.out hx1) (blk_extT HEc.out hx1) (by omega) (blk_extT HDc.out hx1) _ HRR.out
      have FIN := hid fin
      clear fin
      by_cases hc : checkT l = 0
      · have ht : ¬ treeB l = s := fun h => hok ⟨hc, h⟩
        have hsr : showR l = (treeB l, 0) := by unfold showR; rw [if_pos hc]
        rw [hsr] at SH
        have hq := nameF (x := tx (treeB l)) (y := tx s) (fun e => ht (by have := congrArg bs e; simpa [bs_tx] using this))
        clear hsr hc ht hok hrl
        gi_wp2
        refine ⟨trivial, (callsIn_wide.2 SH.out).mono ?_⟩
        rintro e W1 ⟨rfl, hx1⟩
        have HX1 := hid hx1
        clear hx1 hcL
        gi_wp2
        refine ⟨trivial, (callsIn_wide.2 (must_no _)).mono ?_⟩
        rintro e W2 ⟨rfl, hw2⟩
        obtain rfl := hw2.symm
        exact FIN.out _ _ HX1.out rfl rfl
      · have hsr : showR l = ([], checkT l) := by unfold showR; rw [if_neg hc]
        rw [hsr] at SH
        clear hsr hok hrl
        generalize checkT l = ec at *
        gi_wp2
        refine ⟨trivial, (callsIn_wide.2 SH.out).mono ?_⟩
        rintro e W1 ⟨rfl, hx1⟩
        have HX1 := hid hx1
        clear hx1 hcL
        gi_wp2
        refine ⟨trivial, (callsIn_wide.2 (must_no _)).mono ?_⟩
        rintro e W2 ⟨rfl, hw2⟩
        obtain rfl := hw2.symm
        exact FIN.out _ _ HX1.out rfl rfl
  case pan =>
    rintro D ch W hD ⟨rfl, ⟨v, hL⟩, hE, hx, hn⟩ hd
    have hs2 := HS2.out
    refine leave_caught w W D v 0 _ rfl rfl hx hL hE (by omega) hd _ ?_
    unfold readR
    rw [if_neg (by omega), hn]
theorem Read_any (w : World) (hw : TextW w) (s : By) (hs : s.length ≤ 9223372036854775807) : Calls Tryd.prog 8 #[.string (tx s)] w (RetRead w (readR s)) := by
  by_cases h : 4096 < s.length
  · exact Read_many w s h hs
  · exact Read_some w hw s (by omega)
end Go.Proofs.YtdcndkojmflhnaaDoor
