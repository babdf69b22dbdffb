/- A range over a function whose rounds may panic: the way in and out of it. -/
import Derived.Test.YtdcndkojmflhnaaDoorTextD
set_option linter.unusedVariables false
set_option linter.unusedSimpArgs false
namespace Go.Proofs.YtdcndkojmflhnaaDoor
open Go.RowKit
section
variable {P : Program}
/-- how the body of a round may be left -/
def endP (P : Program) (l : Nat) (R : Ending → World → Prop) : Exit → Act → World → Prop
  | .normal, _, w => ∃ v w', (Instr.endRound l none).run P w = .ok v w' ∧ R (.returned v) w'
  | .panic ch, a, w => a.defers = [] ∧ R (.panicked ch) w
  | _, _, _ => False
/-- a round, out of its body's walk -/
theorem round_panics {F : Fence} {n l : Nat} {f : FuncId} {fn : Func} {tmps : Array Value} {assign body : Code} {w : World} {R : Ending → World → Prop} (hfn : P.funcs[f]? = some fn) (hF : F.fn f)
    (h : assign.wpIn (F.inRound l) n P (Exit.then (fun a₁ w₁ => ∃ w₂, (Instr.beginRound l).run P w₁ = .ok () w₂ ∧ body.wpIn (F.inRound l) n P (endP P l R) a₁ w₂) (fun _ _ _ => False)) { tmps := tmps, defers := [] } w) :
    RoundIn F n P l f tmps assign body w R := by
  refine ⟨hF, fun c cs hr => ?_⟩
  obtain ⟨b, hb⟩ : ∃ b : Frame, { (default : Frame) with fn := f, kind := .normal, roundOf := some l } = b := ⟨_, rfl⟩
  have e0 : Frame.round l f tmps assign body .normal = b.atR { tmps := tmps, defers := [] } [.code assign, .beginRound, .code body] := by subst hb; simp [Frame.round, Frame.atR]
  have hro : b.roundOf = (F.inRound l).round := by subst hb; rfl
  have hbf : b.fn = f := by subst hb; rfl
  have hkn : b.kind = .normal := by subst hb; rfl
  have hF' : (F.inRound l).fn b.fn := by rw [hbf]; exact hF
  have hr' : (F.inRound l).room ((c :: cs).length + 1 + n) := hr
  obtain ⟨e, a1, w1, q1, r1⟩ := h b [.beginRound, .code body] (c :: cs) hro hF' hr'
  rw [e0]
  cases e with
  | normal =>
    obtain ⟨w2, hbr, hbody⟩ := q1
    have s1 := (StepsIn.one (fenced_calm (fr := b.atR a1 [.beginRound, .code body]) hF' hr' rfl) (stepR_beginRound (P := P) hro hbr) : StepsIn (Machine.fenced P (F.inRound l)) P _ _)
    obtain ⟨e2, a2, w3, q2, r2⟩ := hbody b [] (c :: cs) hro hF' hr'
    cases e2 with
    | normal =>
      obtain ⟨v, w4, he, hR⟩ := q2
      exact ⟨.returned v, w4, hR, (StepsIn.trans r1 s1).trans (StepsIn.trans r2 (.one (fenced_calm (fr := b.atR a2 []) hF' hr' rfl) (stepR_round_end hro hkn he)))⟩
    | panic ch =>
      obtain ⟨hd, hR⟩ := q2
      obtain ⟨todo, hs⟩ := r2
      have hl : Frame.leaving P { b.atR a2 todo with mode := .panicking ch } w3 (.panicked ch) := ⟨rfl, hd, fn, by rw [← hfn, ← hbf]; rfl⟩
      have hcl : (lone { b.atR a2 todo with mode := .panicking ch } (c :: cs) w3).fenced P (F.inRound l) := fenced_leaving hF' hr' hl
      exact ⟨.panicked ch, w3, hR, (StepsIn.trans r1 s1).trans (StepsIn.trans hs (.one hcl (step_leave_panicked hl)))⟩
    | _ => exact q2.elim
  | _ => exact q1.elim
/-- a walk in the frames of one function -/
def wpAt (f : FuncId) (n : Nat) (P : Program) (c : Code) (Q : Exit → Act → World → Prop) (a : Act) (w : World) : Prop :=
  ∀ (b : Frame) (k : List Item) (cs : List Frame), b.roundOf = none → b.fn = f →
    ∃ e a' w', Q e a' w' ∧ ArrivesIn (Machine.fenced P Fence.wide) P (lone (b.atR a (.code c :: k)) cs w) b k cs e a' w'
theorem wpAt_of {f : FuncId} {n : Nat} {c : Code} {Q : Exit → Act → World → Prop} {a : Act} {w : World} (h : c.wpIn Fence.wide n P Q a w) : wpAt f n P c Q a w :=
  fun b k cs hr _ => h b k cs hr trivial (room_wide _)
theorem wpAt_seq {f : FuncId} {n : Nat} {x y : Code} {Q : Exit → Act → World → Prop} {a : Act} {w : World} (h : wpAt f n P x (Exit.then (wpAt f n P y Q) Q) a w) : wpAt f n P (.seq x y) Q a w := by
  intro b k cs hr hf
  have i0 : (lone (b.atR a (.code (.seq x y) :: k)) cs w).fenced P Fence.wide := fenced_wide _ _
  obtain ⟨e, a1, w1, q1, r1⟩ := h b (.code y :: k) cs hr hf
  have pass := fun (e' : Exit) (q : Q e' a1 w1) (he : e' = e) (hne : e ≠ .normal) => (⟨e', a1, w1, q, .of_steps (.one i0 stepR_seq) (.pass (x := .code y) rfl (fun _ _ => .inl (by rw [he]; exact hne)) (he ▸ r1))⟩ : ∃ e a' w', Q e a' w' ∧ ArrivesIn (Machine.fenced P Fence.wide) P (lone (b.atR a (.code (.seq x y) :: k)) cs w) b k cs e a' w')
  cases e with
  | normal =>
    obtain ⟨e2, a2, w2, q2, r2⟩ := q1 b k cs hr hf
    exact ⟨e2, a2, w2, q2, .of_steps (.head i0 stepR_seq r1) r2⟩
  | exit id => exact pass _ q1 rfl (by simp)
  | goto l => exact pass _ q1 rfl (by simp)
  | ret => exact pass _ q1 rfl (by simp)
  | panic ch => exact pass _ q1 rfl (by simp)
  | outgrown => exact pass _ q1 rfl (by simp)
/-- the function's contract -/
theorem calls_of_wpAt {f : FuncId} {fn : Func} {n : Nat} {c : Code} {args : Array Value} {w : World} {R : Ending → World → Prop} (hf : P.funcs[f]? = some fn) (hb : fn.body = some c)
    (h : wpAt f n P c (bodyPostM Fence.wide n P fn R) { tmps := args ++ Array.replicate (fn.ntmps - args.size) undef, defers := [] } w) : Calls P f args w R := by
  refine (callsIn_wide (n := n)).1 ⟨trivial, fun cs hr => ?_⟩
  obtain ⟨b, hbb⟩ : ∃ b : Frame, { (default : Frame) with fn := f, kind := .normal, roundOf := none } = b := ⟨_, rfl⟩
  have e0 : Frame.enter P f args .normal = b.atR { tmps := args ++ Array.replicate (fn.ntmps - args.size) undef, defers := [] } [.code c] := by subst hbb; simp [Frame.enter, Frame.atR, hf, hb]
  have hro : b.roundOf = none := by subst hbb; rfl
  have hbf : b.fn = f := by subst hbb; rfl
  have hk : b.kind = .normal := by subst hbb; rfl
  have hfb : P.funcs[b.fn]? = some fn := by rw [hbf]; exact hf
  obtain ⟨e, a', w', q, r⟩ := h b [] cs hro hbf
  rw [e0]
  cases e with
  | normal =>
    obtain ⟨e', w2, fr', hR, hs, hn, hl⟩ := leaves_stepsInM a'.defers .returning w' { b.atR a' [] with mode := .returning } cs rfl rfl rfl hfb hk trivial hr q
    exact ⟨e', w2, fr', hR, ComesIn.of_steps (StepsIn.trans r (.one (fenced_wide _ _) (stepR_end hro))) hs, hn.trans hbf, hl⟩
  | ret =>
    obtain ⟨todo, hs0⟩ := r.1 hro
    obtain ⟨e', w2, fr', hR, hs, hn, hl⟩ := leaves_stepsInM a'.defers .returning w' { b.atR a' todo with mode := .returning } cs rfl rfl rfl hfb hk trivial hr q
    exact ⟨e', w2, fr', hR, ComesIn.of_steps hs0 hs, hn.trans hbf, hl⟩
  | panic ch =>
    obtain ⟨todo, hs0⟩ := r
    obtain ⟨e', w2, fr', hR, hs, hn, hl⟩ := leaves_stepsInM a'.defers (.panicking ch) w' { b.atR a' todo with mode := .panicking ch } cs rfl rfl rfl hfb hk trivial hr q
    exact ⟨e', w2, fr', hR, ComesIn.of_steps hs0 hs, hn.trans hbf, hl⟩
  | exit id => exact q.elim
  | goto l => exact q.elim
  | outgrown => exact ⟨.outgrown, w', b, q, r.resolve_left (by rw [hk]; simp), hbf, trivial⟩
/-- an iterator that keeps a value of its own at block q, and gives just xs; a round of it may panic -/
def SeqP {α : Type} (n : Nat) (P : Program) (g : Nat) (lb : Array Value) (encs : α → Array Value) (Kp : World → World → Prop) (xs : List α) (q : Nat) (w : World) : Prop :=
  ∀ (l : Nat) (J : List α → World → Prop) (Jp : List PanicEntry → World → Prop) (W : World), Below w.heap.size w W → Turns q J →
    (∀ pre x post W1, xs = pre ++ x :: post → J pre W1 → YieldAt Fence.wide (n - 1) P l (encs x) W1 fun e W' =>
      (e = .returned (.bool true) ∧ J (pre ++ [x]) W' ∧ Kp W1 W') ∨ (∃ ch, e = .panicked ch ∧ Jp ch W')) →
    J [] W →
    CallsIn Fence.wide n P g (#[.func (.yield l) #[] #[]] ++ lb) W fun e W' => (∃ v, e = .returned v ∧ J xs W') ∨ (∃ ch, e = .panicked ch ∧ Jp ch W')
def ownPostP {α : Type} (B : Nat) (Kp : World → World → Prop) (I : List α → World → Prop) (Ip : List PanicEntry → World → Prop) (xs : List α) (W : World) : Exit → Act → World → Prop
  | .normal, _, W' => KeepsFrom B W W' ∧ Kp W W' ∧ I xs W'
  | .panic ch, a, W' => a.defers = [] ∧ KeepsFrom B W W' ∧ Ip ch W'
  | _, _, _ => False
/-- the loop over such an iterator -/
theorem wpAt_range {α : Type} {f : FuncId} {fnn : Func} (hfn : P.funcs[f]? = some fnn) {n : Nat} {g : Operand} {ps : Array Tmp} {assign body : Code} {Q : Exit → Act → World → Prop} {a : Act} {w : World} {gf : Nat} {lb : Array Value} (hg : a.eval g = .func (.func gf) #[] lb)
    (eg : ∀ args w, (callFunc gf args).run P w = .ok (.enter gf args) w) {encs : α → Array Value} {Kp : World → World → Prop} {xs : List α} {q : Nat} {w0 : World} (hseq : SeqP (n - 1) P gf lb encs Kp xs q w0)
    (hKt : ∀ {A B C : World}, Kp A B → Kp B C → Kp A C) (hKb : ∀ (W : World) (l : Nat) (o o' : Obj), w.heap.size ≤ l → W.heap[l]? = some o → o.isCells = false → o.isWalk = false → Kp W (W.putObj l o'))
    (hb0 : Below w0.heap.size w0 w) (hq : q < w.heap.size) (hps : ∀ x, (encs x).size = ps.size)
    (I : List α → World → Prop) (Ip : List PanicEntry → World → Prop) (hI : OwnFrom w.heap.size I) (hIq : Turns q I) (h0 : I [] w) (a₁ : α → Act)
    (hassign : ∀ (l : Nat) (x : α) (W : World) (K : Act → World → Prop), K (a₁ x) W →
      assign.wpIn (Fence.wide.inRound l) (n - 1 - 1) P (Exit.then K (fun _ _ _ => False)) { tmps := (ps.zip (encs x)).foldl (fun t (p, v) => t.setIfInBounds p v) a.tmps, defers := [] } W)
    (hbody : ∀ (l : Nat) (pre : List α) (x : α) (post : List α) (W : World), xs = pre ++ x :: post → I pre W → body.wpIn (Fence.wide.inRound l) (n - 1 - 1) P (ownPostP w.heap.size Kp I Ip (pre ++ [x]) W) (a₁ x) W)
    (hdone : ∀ (D : Nat) (W : World), w.heap.size ≤ D → I xs W → W.heap[D]? = some (.deferred (some [])) → Q .normal { a with defers := { target := .collected D, args := #[] } :: a.defers } W)
    (hpan : ∀ (D : Nat) (ch : List PanicEntry) (W : World), w.heap.size ≤ D → Ip ch W → W.heap[D]? = some (.deferred (some [])) → Q (.panic ch) { a with defers := { target := .collected D, args := #[] } :: a.defers } W) :
    wpAt f n P (Code.rangeFunc g ps assign body) Q a w := by
  intro b k cs hro hbf
  obtain ⟨D, hD⟩ : ∃ D, w.heap.size = D := ⟨_, rfl⟩
  let R := recOf f a.tmps ps assign body D
  let wd := w.alloc (.deferred (some []))
  let wl := wd.alloc (.loop (R .ready none))
  have hsd : wd.heap.size = D + 1 := by simp [wd, hD]
  have hL : wl.heap[D + 1]? = some (.loop (R .ready none)) := by rw [← hsd]; exact World.alloc_heap_new wd _
  have hDf : wl.heap[D]? = some (.deferred (some [])) := (Below.heap_alloc _ _ _ (by omega)).trans (by rw [← hD]; exact World.alloc_heap_new w _)
  have hIl : I [] wl := hI.alloc _ (hI.alloc _ h0)
  have hbl : Below w0.heap.size w0 wl := hb0.trans ((((Below.refl _ w).alloc (Nat.le_refl _) _).alloc (by simp) _).mono hb0.size)
  have hqD : q < D := by omega
  let J : List α → World → Prop := fun pre W => I pre W ∧ W.heap[D + 1]? = some (.loop (R .ready none)) ∧ W.heap[D]? = some (.deferred (some []))
  let Jp : List PanicEntry → World → Prop := fun ch W => Ip ch W ∧ W.heap[D]? = some (.deferred (some []))
  have keep : ∀ {A B : World} {row : Option Nat} {j : Nat} {o : Obj}, A.grownBy B row → (∀ r, row = some r → r = q) → D ≤ j → A.heap[j]? = some o → B.heap[j]? = some o := fun hg' hr hj ho =>
    (hg'.block _ (Array.getElem?_eq_some_iff.1 ho).1 (fun e => by have := hr _ e.symm; omega)).trans ho
  have tJ : Turns q J := fun s A B row h hg' hr => ⟨hIq s A B row h.1 hg' hr, keep hg' hr (by omega) h.2.1, keep hg' hr (Nat.le_refl _) h.2.2⟩
  have hcall := hseq (D + 1) J Jp wl hbl tJ (fun pre x post W hxs hJ => by
    obtain ⟨hi, hl, hk⟩ := hJ
    have hlt : D + 1 < W.heap.size := (Array.getElem?_eq_some_iff.1 hl).1
    refine ⟨f, _, assign, body, run_yield (P := P) (args := encs x) hl (hps x), round_panics hfn trivial (hassign _ x W _ ⟨_, run_beginRound hl rfl, ?_⟩)⟩
    obtain ⟨W2, hW2⟩ : ∃ W2, W.putObj (D + 1) (.loop { R .ready none with state := .busy }) = W2 := ⟨_, rfl⟩
    have hl2 : W2.heap[D + 1]? = some (.loop { R .ready none with state := .busy }) := by rw [← hW2]; exact World.putObj_heap_same hlt
    have hk2 : W2.heap[D]? = some (.deferred (some [])) := by rw [← hW2]; exact (World.putObj_heap_other (by omega)).trans hk
    have hp2 : Kp W W2 := by rw [← hW2]; exact hKb _ _ _ _ (by omega) hl rfl rfl
    have hi2 : I pre W2 := by rw [← hW2]; exact hI.putObj _ hi (by omega) hl rfl
    show body.wpIn _ _ _ _ _ (W.putObj (D + 1) (.loop { R .ready none with state := .busy }))
    rw [hW2]
    refine wpIn_mono (hbody _ pre x post _ hxs hi2) ?_
    rintro e a3 W3 hp
    cases e with
    | normal =>
      obtain ⟨hk3, hkp3, hi3⟩ := hp
      have hl3 := hk3.same _ _ (by omega) hl2 rfl
      exact ⟨_, _, run_endRound (P := P) none hl3, .inl ⟨rfl, ⟨hI.putObj _ hi3 (by omega) hl3 rfl, World.putObj_heap_same (Array.getElem?_eq_some_iff.1 hl3).1, (World.putObj_heap_other (by omega)).trans (hk3.same _ _ (by omega) hk2 rfl)⟩, hKt (hKt hp2 hkp3) (hKb _ _ _ _ (by omega) hl3 rfl rfl)⟩⟩
    | panic ch =>
      obtain ⟨hd, hk3, hi3⟩ := hp
      exact ⟨hd, .inr ⟨ch, rfl, hi3, hk3.same _ _ (by omega) hk2 rfl⟩⟩
    | _ => exact hp.elim) ⟨hIl, hL, hDf⟩
  have he : (Instr.enterLoop b.fn a.tmps ps assign body b.roundOf).run P w = .ok (D + 1, [{ target := .collected D, args := #[] }]) wl := by
    have := run_enterLoop_outer (P := P) (w := w) f a.tmps ps assign body
    rw [hD] at this
    rw [hro, hbf]; exact this
  have hres : (resolve a.eval (rangeCall g (D + 1)) 0).run P wl = .ok { target := .fn (.func gf) lb, args := #[.func (.yield (D + 1)) #[] #[]] } wl := by
    simp only [resolve, hg]
    simp [go_sem]
  have hinv : (invoke (.fn (.func gf) lb) #[.func (.yield (D + 1)) #[] #[]]).run P wl = .ok (.enter gf (#[.func (.yield (D + 1)) #[] #[]] ++ lb)) wl := by simp [invoke, go_sem, eg]
  have henter := stepR_rangeFunc (P := P) (b := b) (a := a) (k := k) (cs := cs) (w := w) he hres hinv
  have iw : ∀ m : Machine, m.fenced P Fence.wide := fun m => fenced_wide _ m
  obtain ⟨e, w3, fr, hR, hsteps, hfr, hleave⟩ := hcall.2 (b.atR { a with defers := [{ target := .collected D, args := #[] }] ++ a.defers } (.inRangeFunc (D + 1) :: k) :: cs) (room_wide _)
  cases e with
  | outgrown => rcases hR with ⟨v, h, _⟩ | ⟨ch, h, _⟩ <;> cases h
  | returned v =>
    rcases hR with ⟨v', h', hi, hl, hk⟩ | ⟨ch, h, _⟩
    · have hend := run_endLoop (P := P) hl (by simp [R, recOf])
      have hq := hdone D (w3.putObj (D + 1) (.loop { R .ready none with state := .exhausted })) (by omega) (hI.putObj _ hi (by omega) hl rfl) ((World.putObj_heap_other (by omega)).trans hk)
      refine ⟨.normal, _, _, hq, .head (iw _) henter (StepsIn.trans hsteps (.head (iw _) ?_ (.one (iw _) (stepR_endRangeFunc hend))))⟩
      rw [← finish_atR_inRangeFunc (D + 1) v]; exact step_leave_returned hleave
    · cases h
  | panicked chain =>
    rcases hR with ⟨v', h, _⟩ | ⟨ch, h, hi, hk⟩
    · cases h
    · cases h
      refine ⟨.panic chain, _, w3, hpan D chain w3 (by omega) hi hk, .inRangeFunc (D + 1) :: k, .head (iw _) henter (StepsIn.trans hsteps (.one (iw _) ?_))⟩
      rw [← Frame.raise_atR]; exact step_leave_panicked hleave
end
end Go.Proofs.YtdcndkojmflhnaaDoor
