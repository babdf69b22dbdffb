/- The iterator tree.Up; lines, and who is under whom. -/
import Derived.RangeFuncNested
import Derived.RangeFuncBound
import Derived.RangeFuncCalls
import Derived.RangeFuncLeaves
import Derived.RangeFuncBox
import Derived.Shelf.Abstract
import Derived.Shelf.RegionOpen
import Derived.WalkKit
import Derived.OwnWalkIn
import Derived.TacticsInMore
import Derived.LoopNIn
import Derived.LoopIn
import Derived.Maps.AppendAt
import Derived.Test.YtdcndkojmflhnaaDoorCore
import Derived.Test.YtdcndkojmflhnaaDoorTree
import Derived.Test.YtdcndkojmflhnaaDoorSeekS
import Derived.Test.YtdcndkojmflhnaaDoorRunsY

/- A range over a function whose iterator keeps a number of its own in a cell. -/
set_option linter.unusedVariables false
namespace Go.Proofs.YtdcndkojmflhnaaDoor
open Go.RowKit

/-- what the iterator's own steps leave: it makes blocks, and turns block q -/
def Turns {β : Type} (q : Nat) (J : β → World → Prop) : Prop :=
  ∀ s W W' row, J s W → W.grownBy W' row → (∀ r, row = some r → r = q) → J s W'

/-- the blocks of a list lie as they lay -/
structure KeepB (bs : List Nat) (W W' : World) : Prop where
  size : W.heap.size ≤ W'.heap.size
  same : ∀ j ∈ bs, j < W.heap.size → W'.heap[j]? = W.heap[j]?

theorem KeepB.rf (bs : List Nat) (W : World) : KeepB bs W W := ⟨Nat.le_refl _, fun _ _ _ => rfl⟩
theorem KeepB.tr {bs : List Nat} {A B C : World} (h : KeepB bs A B) (k : KeepB bs B C) : KeepB bs A C :=
  ⟨Nat.le_trans h.size k.size, fun j hj hl => (k.same j hj (Nat.lt_of_lt_of_le hl h.size)).trans (h.same j hj hl)⟩
theorem KeepB.ext {bs : List Nat} {A B : World} (h : Ext A B) : KeepB bs A B := ⟨h.size, fun j _ hl => h.block j hl⟩
theorem KeepB.grown {bs : List Nat} {A B : World} {row : Option Nat} (hg : A.grownBy B row) (hr : ∀ r, row = some r → r ∉ bs) : KeepB bs A B :=
  ⟨hg.size, fun j hj hl => hg.block j hl (fun e => hr j e.symm hj)⟩
theorem KeepB.se {bs : List Nat} {A : World} {b : Nat} (v : Value) (hb : b ∉ bs) : KeepB bs A (A.setCell ⟨b, 0, none⟩ v) :=
  KeepB.grown (grownBy_setCell' A b v) (fun r e => by cases e; exact hb)
theorem KeepB.put {bs : List Nat} {n : Nat} (hn : ∀ j ∈ bs, j < n) (W : World) (l : Nat) (o o' : Obj) (hl : n ≤ l) (_ : W.heap[l]? = some o) (_ : o.isCells = false) (_ : o.isWalk = false) : KeepB bs W (W.putObj l o') :=
  KeepB.grown (grownBy_putObj' W l o') (fun r e hr => by cases e; have := hn _ hr; omega)

theorem KeepsFrom.ext {B : Nat} {W W' : World} (h : Ext W W') : KeepsFrom B W W' := ⟨h.size, fun k o _ hk _ => by rw [h.block k (Array.getElem?_eq_some_iff.1 hk).1]; exact hk⟩
theorem KeepsFrom.se {B : Nat} (W : World) (b : Nat) (v : Value) : KeepsFrom B W (W.setCell ⟨b, 0, none⟩ v) := (KeepsOthers.setCell W _ v).from B

/-- an iterator that keeps a number of its own at block q: what it gives to whatever loop -/
def SeqOf {α : Type} (n : Nat) (P : Program) (g : Nat) (lb : Array Value) (encs : α → Array Value) (Kp : World → World → Prop) (S Sp : List α → Prop) (N q : Nat) (w : World) : Prop :=
  ∀ (l : Nat) (J Jx : List α → World → Prop) (W : World), Below w.heap.size w W → Turns q J → Turns q Jx →
    (∀ pre x W1, J pre W1 → pre.length < N → YieldAt Fence.wide (n - 1) P l (encs x) W1 fun e W' =>
      (e = .returned (.bool true) ∧ J (pre ++ [x]) W' ∧ Kp W1 W') ∨ (e = .returned (.bool false) ∧ Jx (pre ++ [x]) W')) →
    J [] W →
    CallsIn Fence.wide n P g (#[.func (.yield l) #[] #[]] ++ lb) W fun e W' => (∃ v, e = .returned v) ∧ ((∃ xs, S xs ∧ J xs W') ∨ (∃ pre, Sp pre ∧ Jx pre W'))

variable {P : Program}

/-- the loop's record -/
def recOf (fn : FuncId) (tmps : Array Value) (ps : Array Tmp) (assign body : Code) (D : Nat) (st : LoopState) (pe : Option Code) : Loop :=
  { state := st, pending := pe, fn := fn, tmps := tmps, params := ps, assign := assign, body := body, defers := D }

/-- the loop over such an iterator -/
theorem wp_rangeOf {α : Type} {n : Nat} {g : Operand} {ps : Array Tmp} {assign body : Code} {Q : Exit → Act → World → Prop} {a : Act} {w : World} (h1 : 1 ≤ n) {gf : Nat} {lb : Array Value} (hg : a.eval g = .func (.func gf) #[] lb)
    (eg : ∀ args w, (callFunc gf args).run P w = .ok (.enter gf args) w) {encs : α → Array Value} {Kp : World → World → Prop} {S Sp : List α → Prop} {N q : Nat} {w0 : World} (hseq : SeqOf (n - 1) P gf lb encs Kp S Sp N q w0)
    (hKt : ∀ {A B C : World}, Kp A B → Kp B C → Kp A C) (hKb : ∀ (W : World) (l : Nat) (o o' : Obj), w.heap.size ≤ l → W.heap[l]? = some o → o.isCells = false → o.isWalk = false → Kp W (W.putObj l o'))
    (hb0 : Below w0.heap.size w0 w) (hq : q < w.heap.size) (hps : ∀ x, (encs x).size = ps.size)
    (I : List α → World → Prop) (Ix : Code → List α → World → Prop) (hI : OwnFrom w.heap.size I) (hIx : ∀ c, OwnFrom w.heap.size (Ix c)) (hIq : Turns q I) (hIxq : ∀ c, Turns q (Ix c)) (h0 : I [] w) (a₁ : α → Act)
    (hassign : ∀ (l : Nat) (x : α) (W : World) (K : Act → World → Prop), K (a₁ x) W →
      assign.wpIn (Fence.wide.inRound l) (n - 1 - 1) P (Exit.then K (fun _ _ _ => False)) { tmps := (ps.zip (encs x)).foldl (fun t (p, v) => t.setIfInBounds p v) a.tmps, defers := [] } W)
    (hbody : ∀ (l : Nat) (pre : List α) (x : α) (W : World), I pre W → pre.length < N → body.wpIn (Fence.wide.inRound l) (n - 1 - 1) P (ownPostG w.heap.size Kp I Ix (pre ++ [x]) W) (a₁ x) W)
    (hdone : ∀ (D : Nat) (xs : List α) (W : World), w.heap.size ≤ D → S xs → I xs W → W.heap[D]? = some (.deferred (some [])) → Q .normal { a with defers := { target := .collected D, args := #[] } :: a.defers } W)
    (hstop : ∀ (D : Nat) (c : Code) (pre : List α) (W : World), w.heap.size ≤ D → Sp pre → Ix c pre W → W.heap[D]? = some (.deferred (some [])) → c.wpIn Fence.wide n P Q { a with defers := { target := .collected D, args := #[] } :: a.defers } W) :
    (Code.rangeFunc g ps assign body).wpIn Fence.wide n P Q a w := by
  refine wpIn_rangeFunc (fun fn hfn => ?_)
  -- D: the block of deferred calls; L: the record
  obtain ⟨D, hD⟩ : ∃ D, w.heap.size = D := ⟨_, rfl⟩
  let R := recOf fn a.tmps ps assign body D
  let wd := w.alloc (.deferred (some []))
  let wl := wd.alloc (.loop (R .ready none))
  have hsd : wd.heap.size = D + 1 := by simp [wd, hD]
  have hL : wl.heap[D + 1]? = some (.loop (R .ready none)) := by rw [← hsd]; exact World.alloc_heap_new wd _
  have hDf : wl.heap[D]? = some (.deferred (some [])) := (Below.heap_alloc _ _ _ (by omega)).trans (by rw [← hD]; exact World.alloc_heap_new w _)
  have hIl : I [] wl := hI.alloc _ (hI.alloc _ h0)
  have hbl : Below w0.heap.size w0 wl := hb0.trans ((((Below.refl _ w).alloc (Nat.le_refl _) _).alloc (by simp) _).mono hb0.size)
  have hqD : q < D := by omega
  -- what is kept between two rounds, and behind the last one
  let J : List α → World → Prop := fun pre W => I pre W ∧ W.heap[D + 1]? = some (.loop (R .ready none)) ∧ W.heap[D]? = some (.deferred (some []))
  let Jx : List α → World → Prop := fun pre W => ∃ c, Ix c pre W ∧ W.heap[D + 1]? = some (.loop (R .done (some c))) ∧ W.heap[D]? = some (.deferred (some []))
  have keep : ∀ {A B : World} {row : Option Nat} {j : Nat} {o : Obj}, A.grownBy B row → (∀ r, row = some r → r = q) → D ≤ j → A.heap[j]? = some o → B.heap[j]? = some o := fun hg' hr hj ho =>
    (hg'.block _ (Array.getElem?_eq_some_iff.1 ho).1 (fun e => by have := hr _ e.symm; omega)).trans ho
  have tJ : Turns q J := fun s A B row h hg' hr => ⟨hIq s A B row h.1 hg' hr, keep hg' hr (by omega) h.2.1, keep hg' hr (Nat.le_refl _) h.2.2⟩
  have tJx : Turns q Jx := fun s A B row ⟨c, h, h2, h3⟩ hg' hr => ⟨c, hIxq c s A B row h hg' hr, keep hg' hr (by omega) h2, keep hg' hr (Nat.le_refl _) h3⟩
  refine ⟨D + 1, [{ target := .collected D, args := #[] }], wl, { target := .fn (.func gf) lb, args := #[.func (.yield (D + 1)) #[] #[]] }, wl, gf, #[.func (.yield (D + 1)) #[] #[]] ++ lb, wl, ?_, ?_, fun _ _ => trivial, ?_, fun _ => h1, ?_⟩
  · have := run_enterLoop_outer (P := P) (w := w) fn a.tmps ps assign body
    rw [hD] at this
    exact this
  · simp only [resolve, hg]
    simp [go_sem]
  · simp [invoke, go_sem, eg]
  · refine (hseq (D + 1) J Jx wl hbl tJ tJx (fun pre x W hJ hlen => ?_) ⟨hIl, hL, hDf⟩).mono ?_
    · obtain ⟨hi, hl, hk⟩ := hJ
      have hlt : D + 1 < W.heap.size := (Array.getElem?_eq_some_iff.1 hl).1
      refine ⟨fn, _, assign, body, run_yield (P := P) (args := encs x) hl (hps x), roundIn_of_wpIn hfn (hassign _ x W _ ⟨_, run_beginRound hl rfl, ?_⟩)⟩
      obtain ⟨W2, hW2⟩ : ∃ W2, W.putObj (D + 1) (.loop { R .ready none with state := .busy }) = W2 := ⟨_, rfl⟩
      have hl2 : W2.heap[D + 1]? = some (.loop { R .ready none with state := .busy }) := by rw [← hW2]; exact World.putObj_heap_same hlt
      have hk2 : W2.heap[D]? = some (.deferred (some [])) := by rw [← hW2]; exact (World.putObj_heap_other (by omega)).trans hk
      have hp2 : Kp W W2 := by rw [← hW2]; exact hKb _ _ _ _ (by omega) hl rfl rfl
      have hi2 : I pre W2 := by rw [← hW2]; exact hI.putObj _ hi (by omega) hl rfl
      show body.wpIn _ _ _ _ _ (W.putObj (D + 1) (.loop { R .ready none with state := .busy }))
      rw [hW2]
      refine wpIn_mono (hbody _ pre x _ hi2 hlen) ?_
      -- the end of a round, whichever way it is left
      have fin : ∀ (jump : Option Code) (W3 : World), KeepsFrom w.heap.size W2 W3 →
          ∃ W4, (Instr.endRound (D + 1) jump).run P W3 = .ok (.bool jump.isNone) W4 ∧ W4 = W3.putObj (D + 1) (.loop (R (if jump.isNone then .ready else .done) jump)) ∧
            W3.heap[D + 1]? = some (.loop { R .ready none with state := .busy }) ∧ W4.heap[D + 1]? = some (.loop (R (if jump.isNone then .ready else .done) jump)) ∧ W4.heap[D]? = some (.deferred (some [])) := fun jump W3 hk3 => by
        have hl3 := hk3.same _ _ (by omega) hl2 rfl
        exact ⟨_, run_endRound (P := P) jump hl3, rfl, hl3, World.putObj_heap_same (Array.getElem?_eq_some_iff.1 hl3).1, (World.putObj_heap_other (by omega)).trans (hk3.same _ _ (by omega) hk2 rfl)⟩
      rintro e a3 W3 hp
      cases e with
      | normal =>
        obtain ⟨hk3, hkp3, hi3⟩ := hp
        obtain ⟨W4, hr, rfl, hl3, hl4, hk4⟩ := fin none W3 hk3
        exact ⟨_, _, hr, .inl ⟨rfl, ⟨hI.putObj _ hi3 (by omega) hl3 rfl, hl4, hk4⟩, hKt (hKt hp2 hkp3) (hKb _ _ _ _ (by omega) hl3 rfl rfl)⟩⟩
      | ret =>
        obtain ⟨hk3, hi3⟩ := hp
        obtain ⟨W4, hr, rfl, hl3, hl4, hk4⟩ := fin (some .ret) W3 hk3
        exact ⟨_, _, hr, .inr ⟨rfl, .ret, (hIx _).putObj _ hi3 (by omega) hl3 rfl, hl4, hk4⟩⟩
      | exit id =>
        obtain ⟨hk3, hi3⟩ := hp
        obtain ⟨W4, hr, rfl, hl3, hl4, hk4⟩ := fin (some (.exit id)) W3 hk3
        exact ⟨_, _, hr, .inr ⟨rfl, .exit id, (hIx _).putObj _ hi3 (by omega) hl3 rfl, hl4, hk4⟩⟩
      | goto t =>
        obtain ⟨hk3, hi3⟩ := hp
        obtain ⟨W4, hr, rfl, hl3, hl4, hk4⟩ := fin (some (.goto t)) W3 hk3
        exact ⟨_, _, hr, .inr ⟨rfl, .goto t, (hIx _).putObj _ hi3 (by omega) hl3 rfl, hl4, hk4⟩⟩
      | panic ch => exact hp.elim
      | outgrown => exact hp.elim
    · rintro e W2 ⟨⟨v, rfl⟩, (⟨xs, hS, hi, hl, hk⟩ | ⟨pre, hSp, c, hi, hl, hk⟩)⟩
      · exact ⟨none, _, run_endLoop (P := P) hl (by simp [R, recOf]), hdone _ xs _ (by omega) hS (hI.putObj _ hi (by omega) hl rfl) ((World.putObj_heap_other (by omega)).trans hk)⟩
      · exact ⟨some c, _, run_endLoop (P := P) hl (by simp [R, recOf]), hstop _ c pre _ (by omega) hSp ((hIx c).putObj _ hi (by omega) hl rfl) ((World.putObj_heap_other (by omega)).trans hk)⟩

end Go.Proofs.YtdcndkojmflhnaaDoor

/- The iterator tree.Up: a queue, and all above it. -/
set_option linter.unusedVariables false
namespace Go.Proofs.YtdcndkojmflhnaaDoor
open Go.RowKit

attribute [local go_sem] Oper.semAt_some

/-- numbers fall -/
def ParsOk (l : List Queue) : Prop := ∀ k, k < l.length → ParOk (par l k) k

def lineN (l : List Queue) : Nat → Int → List Nat
  | 0, _ => []
  | f + 1, q => if 0 ≤ q then q.toNat :: lineN l f (par l q.toNat) else []
/-- a queue, and all above it -/
def lineL (l : List Queue) (q : Int) : List Nat := lineN l (q + 1).toNat q

theorem lineN_neg {l : List Queue} {q : Int} (h : q < 0) : ∀ f, lineN l f q = []
  | 0 => rfl
  | f + 1 => by simp only [lineN]; rw [if_neg (by omega)]
theorem lineN_fuel {l : List Queue} (hp : ParsOk l) : ∀ (f g : Nat) (q : Int), q < l.length → q < f → q < g → lineN l f q = lineN l g q
  | 0, g, q, _, h1, _ => by rw [lineN_neg (by omega), lineN_neg (by omega)]
  | f + 1, 0, q, _, _, h2 => by rw [lineN_neg (by omega), lineN_neg (by omega)]
  | f + 1, g + 1, q, h0, h1, h2 => by
    simp only [lineN]
    by_cases h : 0 ≤ q
    · rw [if_pos h, if_pos h]
      have hk := hp q.toNat (by omega)
      rw [lineN_fuel hp f g (par l q.toNat) (by have := hk.2; omega) (by have := hk.2; omega) (by have := hk.2; omega)]
    · rw [if_neg h, if_neg h]
theorem lineL_neg {l : List Queue} {q : Int} (h : q < 0) : lineL l q = [] := lineN_neg h _
theorem lineL_pos {l : List Queue} (hp : ParsOk l) {k : Nat} (hk : k < l.length) : lineL l (k : Int) = k :: lineL l (par l k) := by
  have h := hp k hk
  unfold lineL
  rw [show ((k : Int) + 1).toNat = k + 1 by omega]
  simp only [lineN]
  rw [if_pos (by omega), Int.toNat_natCast]
  rw [lineN_fuel hp k ((par l k) + 1).toNat (par l k) (by have := h.2; omega) h.2 (by omega)]

theorem lineL_lt {l : List Queue} (hp : ParsOk l) : ∀ (n : Nat) (q : Int), q < n → q < l.length → ∀ k ∈ lineL l q, k < l.length ∧ (k : Int) ≤ q
  | n, q, hn, hq, k, hk => by
    by_cases h : q < 0
    · rw [lineL_neg h] at hk; cases hk
    · obtain ⟨m, rfl⟩ : ∃ m : Nat, q = m := ⟨q.toNat, by omega⟩
      rw [lineL_pos hp (by omega)] at hk
      rcases List.mem_cons.1 hk with rfl | hk
      · exact ⟨by omega, Int.le_refl _⟩
      · have h2 := hp m (by omega)
        match n, hn with
        | n + 1, hn =>
          have := lineL_lt hp n (par l m) (by have := h2.2; omega) (by have := h2.2; omega) k hk
          exact ⟨this.1, by have := h2.2; omega⟩

theorem lineL_len {l : List Queue} (hp : ParsOk l) : ∀ (n : Nat) (q : Int), q < n → q < l.length → (lineL l q).length ≤ (q + 1).toNat
  | n, q, hn, hq => by
    by_cases h : q < 0
    · rw [lineL_neg h]; simp
    · obtain ⟨m, rfl⟩ : ∃ m : Nat, q = m := ⟨q.toNat, by omega⟩
      rw [lineL_pos hp (by omega)]
      have h2 := hp m (by omega)
      match n, hn with
      | n + 1, hn =>
        have := lineL_len hp n (par l m) (by have := h2.2; omega) (by have := h2.2; omega)
        have := h2.2
        simp only [List.length_cons]; omega

/-- the number in a box -/
def boxNum (B : Nat) (W : World) : Int := match W.cell? ⟨B, 0, none⟩ with | some (.int _ x) => x | _ => 0
theorem boxNum_of {W : World} {B : Nat} {t : TypeId} {k : IntKind} {x : Int} (h : Boxed W B t (.int k x)) : boxNum B W = x := by unfold boxNum; rw [h.cell]

end Go.Proofs.YtdcndkojmflhnaaDoor

/- slices.Collect of tree.Up; tree.Beneath. -/
set_option linter.unusedVariables false
namespace Go.Proofs.YtdcndkojmflhnaaDoor
open Go.RowKit

attribute [local go_sem] Oper.semAt_some

theorem KeepB.below {bs : List Nat} {n : Nat} {A B : World} (h : Below n A B) (hn : ∀ j ∈ bs, j < n) : KeepB bs A B := ⟨h.size, fun j hj _ => h.block j (hn j hj)⟩

/-- numbers, as they lie -/
def nums (l : List Nat) : List Value := l.map fun k : Nat => .int .i64 (k : Int)
theorem nums_snoc (l : List Nat) (k : Nat) : nums (l ++ [k]) = nums l ++ [.int .i64 (k : Int)] := by simp [nums]
theorem nums_len (l : List Nat) : (nums l).length = l.length := by simp [nums]

/-- numbers that the call made by appends, as a slice -/
theorem ints_of_owns {w : World} {base e : Nat} {v : Value} {xs : List Nat} (h : w.ownsRow base e 1 v xs.length (nums xs)) (hi : ∀ x ∈ xs, x ≤ 17592186044416) (hl : xs.length ≤ 17592186044416) : IntsV w v (xs.map fun k : Nat => (k : Int)) := by
  obtain ⟨h1, h2⟩ := h
  rcases h2 with ⟨rfl, h2⟩ | ⟨b, cap, cur, rfl, hb, hg, hn, hm, hs, ht⟩
  · obtain rfl := List.eq_nil_of_length_eq_zero h2
    exact .inl ⟨rfl, none, 0, rfl, by omega⟩
  · refine .inr ⟨b, 0, cap, by simp, by simpa using hn, hm, by simpa using hl, (Array.getElem?_eq_some_iff.1 hg).1, fun k x hk => ?_⟩
    rw [List.getElem?_map] at hk
    cases hx : xs[k]? with
    | none => rw [hx] at hk; cases hk
    | some y =>
      rw [hx] at hk
      obtain rfl : (y : Int) = x := by simpa using hk
      have hkl : k < xs.length := (List.getElem?_eq_some_iff.1 hx).1
      have h3 : (nums xs)[k]? = some (.int .i64 (y : Int)) := by simp [nums, hx]
      rw [← ht, List.getElem?_take] at h3
      refine ⟨?_, I64.of (by omega) (by have := hi y (List.mem_of_getElem? hx); omega)⟩
      simp only [World.cell?, hg, Option.isSome_none, Bool.false_eq_true, if_false]
      split at h3
      · simpa using h3
      · cases h3

/-- the state of a loop over Up: what an iterator needs -/
structure UpAt (w : World) (Bl Bq b off cap : Nat) (l : List Queue) (q : Int) : Prop where
  ne1 : Bl ≠ Bq
  ne2 : b ≠ Bq
  pars : ParsOk l
  q1 : -1 ≤ q
  q2 : q < l.length
  l5 : l.length ≤ 5
  boxL : Boxed w Bl 22 (.slice (some ⟨b, off, none⟩) l.length cap)
  boxQ : Boxed w Bq 3 (.int .i64 q)
  hb : b < w.heap.size
  cells : ∀ k x, l[k]? = some x → w.cell? ⟨b, off + k * 3 + 1, none⟩ = some (.int .i64 x.Parent)

theorem UpAt.ext {w w' : World} {Bl Bq b off cap : Nat} {l : List Queue} {q : Int} (h : UpAt w Bl Bq b off cap l q) (hx : Ext w w') : UpAt w' Bl Bq b off cap l q :=
  { h with boxL := (hx.block Bl h.boxL.lt).trans h.boxL, boxQ := (hx.block Bq h.boxQ.lt).trans h.boxQ, hb := Nat.lt_of_lt_of_le h.hb hx.size, cells := fun k x hk => hx.ce' (h.cells k x hk) }

theorem UpAt.lt {w : World} {Bl Bq b off cap : Nat} {l : List Queue} {q : Int} (h : UpAt w Bl Bq b off cap l q) : ∀ j ∈ [Bl, Bq, b], j < w.heap.size := by
  intro j hj
  simp only [List.mem_cons, List.not_mem_nil, or_false] at hj
  rcases hj with rfl | rfl | rfl
  · exact h.boxL.lt
  · exact h.boxQ.lt
  · exact h.hb

theorem lineL_five {l : List Queue} {q : Int} (hp : ParsOk l) (h2 : q < l.length) (h5 : l.length ≤ 5) : (lineL l q).length ≤ 5 := by
  have := lineL_len hp l.length q (by omega) h2
  omega

theorem Tryd.info3 : (Tryd.prog.info? 3).map (fun i => (i.zero, i.size, i.bytes)) = some (some (.int .i64 0), 1, 8) := by kernel_rfl

end Go.Proofs.YtdcndkojmflhnaaDoor

/- Walks: tree.There, Line; the reference's QueueError, LineOf. -/
set_option linter.unusedVariables false
namespace Go.Proofs.YtdcndkojmflhnaaDoor
open Go.RowKit

theorem any_false {n : Nat} {p : Nat → Bool} (h : (List.range n).any p = false) : ∀ k, k < n → p k = false := fun k hk => by
  have := List.any_eq_false.1 h k (List.mem_range.2 hk)
  simpa using this

/-- right queues -/
structure TreeOk (l : List Queue) : Prop where
  n1 : 1 ≤ l.length
  n5 : l.length ≤ 5
  names : ∀ k, k < l.length → NameOk (nm l k)
  diff : ∀ i k, i < k → k < l.length → nm l i ≠ nm l k
  pars : ParsOk l
  caps : ∀ k, k < l.length → CapOk (cp l k)

theorem checkT_ok {l : List Queue} (h : checkT l = 0) : TreeOk l := by
  unfold checkT at h
  by_cases h1 : ¬ (1 ≤ l.length ∧ l.length ≤ 5)
  · rw [if_pos h1] at h; omega
  rw [if_neg h1] at h
  by_cases h2 : (List.range l.length).any (p2 l) = true
  · rw [if_pos h2] at h; omega
  rw [if_neg h2] at h
  by_cases h3 : (List.range l.length).any (p3 l) = true
  · rw [if_pos h3] at h; omega
  rw [if_neg h3] at h
  by_cases h4 : (List.range l.length).any (p4 l) = true
  · rw [if_pos h4] at h; omega
  rw [if_neg h4] at h
  by_cases h5 : (List.range l.length).any (p5 l) = true
  · rw [if_pos h5] at h; omega
  have g2 := any_false (Bool.eq_false_iff.2 h2)
  have g3 := any_false (Bool.eq_false_iff.2 h3)
  have g4 := any_false (Bool.eq_false_iff.2 h4)
  have g5 := any_false (Bool.eq_false_iff.2 h5)
  exact {
    n1 := by omega
    n5 := by omega
    names := fun k hk => Classical.byContradiction fun h => by have := g2 k hk; unfold p2 at this; exact of_decide_eq_false this h
    diff := fun i k hi hk e => by have := g3 k hk; rw [p3_true hi e] at this; cases this
    pars := fun k hk => Classical.byContradiction fun h => by have := g4 k hk; unfold p4 at this; rw [deF h] at this; cases this
    caps := fun k hk => Classical.byContradiction fun h => by have := g5 k hk; unfold p5 at this; exact of_decide_eq_false this h }

theorem checkT_ne {l : List Queue} (h : ¬ (1 ≤ l.length ∧ l.length ≤ 5)) : checkT l = 2 := by unfold checkT; rw [if_pos h]
theorem checkT_nums (l : List Queue) : 0 ≤ checkT l ∧ checkT l ≤ 5 := by
  unfold checkT; repeat' split
  all_goals omega

/-- Check's error, and ErrNone -/
@[irreducible] def queueE (l : List Queue) (q : Int) : Int := if checkT l = 0 then (if 0 ≤ q ∧ q < l.length then 0 else 6) else checkT l
theorem queueE_bad {l : List Queue} {q : Int} (h : checkT l ≠ 0) : queueE l q = checkT l := by unfold queueE; rw [if_neg h]
theorem queueE_none {l : List Queue} {q : Int} (h : checkT l = 0) (hq : ¬ (0 ≤ q ∧ q < l.length)) : queueE l q = 6 := by unfold queueE; rw [if_pos h, if_neg hq]
theorem queueE_ok {l : List Queue} {q : Int} (h : checkT l = 0) (hq : 0 ≤ q ∧ q < l.length) : queueE l q = 0 := by unfold queueE; rw [if_pos h, if_pos hq]
theorem queueE_zero {l : List Queue} {q : Int} (h : queueE l q = 0) : checkT l = 0 ∧ 0 ≤ q ∧ q < l.length := by
  by_cases h1 : checkT l = 0
  · by_cases h2 : 0 ≤ q ∧ q < l.length
    · exact ⟨h1, h2⟩
    · rw [queueE_none h1 h2] at h; omega
  · rw [queueE_bad h1] at h; exact absurd h h1

/-- queues that are there: where they lie -/
theorem queues_at {w : World} {v : Value} {l : List Queue} (hv : QueuesV w v l) (h1 : 1 ≤ l.length) : ∃ b off cap, v = .slice (some ⟨b, off, none⟩) l.length cap ∧ l.length ≤ cap ∧ cap ≤ 9223372036854775807 ∧ b < w.heap.size ∧ ∀ k x, l[k]? = some x → EQueue w b (off + k * 3) x := by
  rcases hv with ⟨rfl, _⟩ | ⟨b, off, cap, rfl, h2, h3, h4, h5, h6⟩
  · simp at h1
  · exact ⟨b, off, cap, rfl, h2, h3, h5, h6⟩

theorem upAt_new (w : World) (b off cap : Nat) (l : List Queue) (q : Int) (hp : ParsOk l) (hq1 : -1 ≤ q) (hq2 : q < l.length) (h5 : l.length ≤ 5) (hb : b < w.heap.size) (hE : ∀ k x, l[k]? = some x → EQueue w b (off + k * 3) x) :
    UpAt ((w.alloc (.cells #[.slice (some ⟨b, off, none⟩) l.length cap] 22)).alloc (.cells #[.int .i64 q] 3)) w.heap.size (w.heap.size + 1) b off cap l q := by
  have hx := ((Ext.rf w).al (.cells #[.slice (some ⟨b, off, none⟩) l.length cap] 22)).al (.cells #[.int .i64 q] 3)
  refine { ne1 := by omega, ne2 := by omega, pars := hp, q1 := hq1, q2 := hq2, l5 := h5, boxL := (Boxed.new w _ _).alloc _, boxQ := ?_, hb := Nat.lt_of_lt_of_le hb hx.size, cells := fun k x hk => ?_ }
  · have := Boxed.new (w.alloc (.cells #[.slice (some ⟨b, off, none⟩) l.length cap] 22)) 3 (.int .i64 q)
    rwa [World.size_alloc] at this
  · exact hx.ce' (hE k x hk).2.2.1

/-- a queue's line, and an error -/
@[irreducible] def lineR (l : List Queue) (q : Int) : List Int × Int := if queueE l q = 0 then ((lineL l q).map fun k : Nat => (k : Int), 0) else ([], queueE l q)
theorem lineR_ok {l : List Queue} {q : Int} (h : queueE l q = 0) : lineR l q = ((lineL l q).map fun k : Nat => (k : Int), 0) := by unfold lineR; rw [if_pos h]
theorem lineR_bad {l : List Queue} {q : Int} (h : queueE l q ≠ 0) : lineR l q = ([], queueE l q) := by unfold lineR; rw [if_neg h]

def RetInts2 (w : World) (r : List Int × Int) (e : Ending) (w' : World) : Prop := ∃ v, e = .returned (.tuple #[v, .int .i64 r.2]) ∧ IntsV w' v r.1 ∧ Ext w w'
theorem retInts2_of {w w' : World} {r : List Int × Int} {l : List Int} {n : Int} {v : Value} (h : r = (l, n)) (hv : IntsV w' v l) (hx : Ext w w') : RetInts2 w r (.returned (.tuple #[v, .int .i64 n])) w' := by
  subst h; exact ⟨v, rfl, hv, hx⟩

theorem line_ints {l : List Queue} {q : Int} (hp : ParsOk l) (h2 : q < l.length) (h5 : l.length ≤ 5) : (∀ x ∈ lineL l q, x ≤ 17592186044416) ∧ (lineL l q).length ≤ 17592186044416 :=
  ⟨fun x hx => by have := lineL_lt hp l.length q (by omega) h2 x hx; omega, by have := lineL_five hp h2 h5; omega⟩

theorem one1 (k : IntKind) (a : Int) : ∀ u ∈ [Value.int k a], u.oneCell' = true := by simp [Value.oneCell']
theorem new1 (W : World) {B : Nat} (hB : B = W.heap.size) (a : Value) (t : TypeId) : ∀ (j : Nat) u, [a][j]? = some u → (W.alloc (.cells #[a] t)).cell? ((⟨B, 0, none⟩ : Addr).add j) = some u := by
  subst hB; exact cell_one_new W a t

end Go.Proofs.YtdcndkojmflhnaaDoor

/- Walks: tree.Beneath, the reference's beneath. -/
set_option linter.unusedVariables false
namespace Go.Proofs.YtdcndkojmflhnaaDoor
open Go.RowKit

attribute [local go_sem] Oper.semAt_some

/-- does q stand in k's line? -/
def under (l : List Queue) (k q : Int) : Bool := ((lineL l k).map fun j : Nat => (j : Int)).contains q

theorem under_iff {l : List Queue} {k q : Int} : under l k q = true ↔ ∃ j ∈ lineL l k, (j : Int) = q := by
  unfold under
  rw [List.contains_iff_mem, List.mem_map]
theorem under_no {l : List Queue} {k q : Int} (h : ∀ j ∈ lineL l k, (j : Int) ≠ q) : under l k q = false := by
  rw [Bool.eq_false_iff]
  intro h'
  obtain ⟨j, h1, h2⟩ := under_iff.1 h'
  exact h j h1 h2

end Go.Proofs.YtdcndkojmflhnaaDoor

/- Walks: the reference's beneath, UnderOf; tree.Under. -/
set_option linter.unusedVariables false
namespace Go.Proofs.YtdcndkojmflhnaaDoor
open Go.RowKit

/-- who is under q: the first k of n are told -/
def vecB (l : List Queue) (q : Int) (n k : Nat) : List Value := (List.range n).map fun j => Value.bool (decide (j < k) && under l j q)
theorem vecB_zero (l : List Queue) (q : Int) (n : Nat) : vecB l q n 0 = List.replicate n (.bool false) := by
  apply List.ext_getElem?
  intro j
  by_cases h : j < n
  · simp [vecB, h]
  · simp [vecB, h]
theorem vecB_step (l : List Queue) (q : Int) {n k : Nat} (hk : k < n) : (vecB l q n k).set k (.bool (under l k q)) = vecB l q n (k + 1) := by
  apply List.ext_getElem?
  intro j
  by_cases h : j < n
  · by_cases e : j = k
    · subst e
      simp [vecB, h]
    · rw [List.getElem?_set_ne (fun h => e h.symm)]
      have e2 : (decide (j < k + 1)) = decide (j < k) := by simp; omega
      simp [vecB, h, e2]
  · rw [List.getElem?_eq_none (by simp [vecB]; omega), List.getElem?_eq_none (by simp [vecB]; omega)]
theorem vecB_at (l : List Queue) (q : Int) {n k : Nat} (hk : k < n) : ∃ v, (vecB l q n k)[k]? = some v := getA (by simpa [vecB] using hk)

/-- who is under q -/
def underL (l : List Queue) (q : Int) : List Bool := (List.range l.length).map fun j : Nat => under l j q

theorem underL_v {w : World} {B : Nat} {l : List Queue} {q : Int} (h5 : l.length ≤ 5) (h : RowAt 4 w B (vecB l q l.length l.length)) : BoolsV w (.slice (some ⟨B, 0, none⟩) l.length l.length) (underL l q) := by
  have hlen : (underL l q).length = l.length := by simp [underL]
  refine .inr ⟨B, 0, l.length, by rw [hlen], by omega, by omega, by omega, h.lt, fun k x hk => ?_⟩
  have hkl : k < l.length := by have := (List.getElem?_eq_some_iff.1 hk).1; omega
  rw [Nat.zero_add, Nat.mul_one]
  refine h.cell ?_
  have : x = under l k q := by
    simp [underL, hkl] at hk; exact hk.symm
  simp [vecB, hkl, this]

theorem Tryd.info4 : (Tryd.prog.info? 4).map (fun i => (i.zero, i.size, i.bytes)) = some (some (.bool false), 1, 1) := by kernel_rfl
/-- who is under q, and an error -/
@[irreducible] def underR (l : List Queue) (q : Int) : List Bool × Int := if queueE l q = 0 then (underL l q, 0) else ([], queueE l q)
theorem underR_ok {l : List Queue} {q : Int} (h : queueE l q = 0) : underR l q = (underL l q, 0) := by unfold underR; rw [if_pos h]
theorem underR_bad {l : List Queue} {q : Int} (h : queueE l q ≠ 0) : underR l q = ([], queueE l q) := by unfold underR; rw [if_neg h]

def RetBools2 (w : World) (r : List Bool × Int) (e : Ending) (w' : World) : Prop := ∃ v, e = .returned (.tuple #[v, .int .i64 r.2]) ∧ BoolsV w' v r.1 ∧ Ext w w'
theorem retBools2_of {w w' : World} {r : List Bool × Int} {l : List Bool} {n : Int} {v : Value} (h : r = (l, n)) (hv : BoolsV w' v l) (hx : Ext w w') : RetBools2 w r (.returned (.tuple #[v, .int .i64 n])) w' := by
  subst h; exact ⟨v, rfl, hv, hx⟩

end Go.Proofs.YtdcndkojmflhnaaDoor
