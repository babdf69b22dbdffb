/- runs: walks, second part -/
import Derived.Test.YtdcndkojmflhnaaDoorCore
import Derived.Laws.Rows
import Derived.Laws.MakeOwn
import Derived.Test.YtdcndkojmflhnaaDoorRunsX
import Derived.Deep.DeepCutAuto
import Derived.Deep.DeepMust

/- Blocks of 48 cells; rows of cells. -/

/- A block that holds a number for each time: the references' tables. -/
set_option linter.unusedVariables false
namespace Go.Proofs.YtdcndkojmflhnaaDoor
open Go.RowKit

/-- the cells of a table -/
@[irreducible] def tab (x : Nat → Int) : Array Value := ((List.range 48).map (fun t => Value.int .i64 (x t))).toArray

theorem tab_size (x : Nat → Int) : (tab x).size = 48 := by unfold tab; simp
theorem tab_get {x : Nat → Int} {t : Nat} (h : t < 48) : (tab x)[t]? = some (.int .i64 (x t)) := by
  unfold tab; simp [h]
theorem tab_congr {x y : Nat → Int} (h : ∀ t, t < 48 → x t = y t) : tab x = tab y := by
  unfold tab
  congr 1
  exact List.map_congr_left fun t ht => by rw [h t (List.mem_range.1 ht)]
theorem tab_one (x : Nat → Int) : (tab x).all (·.oneCell') = true := by
  unfold tab
  simp [Value.oneCell']

/-- a table turned at one time -/
def upd (x : Nat → Int) (t : Nat) (n : Int) : Nat → Int := fun s => if s = t then n else x s
theorem upd_same (x : Nat → Int) (t : Nat) (n : Int) : upd x t n t = n := by simp [upd]
theorem upd_other (x : Nat → Int) {t s : Nat} (n : Int) (h : s ≠ t) : upd x t n s = x s := by simp [upd, h]

theorem tab_set {x : Nat → Int} {t : Nat} (n : Int) (h : t < 48) : (tab x).setIfInBounds t (.int .i64 n) = tab (upd x t n) := by
  apply Array.ext
  · simp [tab_size]
  · intro i h1 h2
    have hi : i < 48 := by simpa [tab_size] using h2
    have e1 : (tab (upd x t n))[i]? = some (.int .i64 (upd x t n i)) := tab_get hi
    have e2 : ((tab x).setIfInBounds t (.int .i64 n))[i]? = some (.int .i64 (upd x t n i)) := by
      rw [Array.getElem?_setIfInBounds]
      by_cases e : t = i
      · subst e; rw [if_pos rfl, if_pos (by rw [tab_size]; exact h), upd_same]
      · rw [if_neg e, tab_get hi, upd_other x n (fun h => e h.symm)]
    rw [Array.getElem?_eq_getElem h1] at e2
    rw [Array.getElem?_eq_getElem h2] at e1
    rw [Option.some.inj e2, Option.some.inj e1]

theorem tab_zero : (#[.int .i64 0, .int .i64 0, .int .i64 0, .int .i64 0, .int .i64 0, .int .i64 0, .int .i64 0, .int .i64 0, .int .i64 0, .int .i64 0, .int .i64 0, .int .i64 0, .int .i64 0, .int .i64 0, .int .i64 0, .int .i64 0, .int .i64 0, .int .i64 0, .int .i64 0, .int .i64 0, .int .i64 0, .int .i64 0, .int .i64 0, .int .i64 0, .int .i64 0, .int .i64 0, .int .i64 0, .int .i64 0, .int .i64 0, .int .i64 0, .int .i64 0, .int .i64 0, .int .i64 0, .int .i64 0, .int .i64 0, .int .i64 0, .int .i64 0, .int .i64 0, .int .i64 0, .int .i64 0, .int .i64 0, .int .i64 0, .int .i64 0, .int .i64 0, .int .i64 0, .int .i64 0, .int .i64 0, .int .i64 0] : Array Value) = tab (fun _ => 0) := by
  unfold tab; rfl

/-- block b holds the table x -/
def TabAt (T : TypeId) (w : World) (b : Nat) (x : Nat → Int) : Prop := w.heap[b]? = some (.cells (tab x) T (0, 0))

section
variable {T : TypeId} {w w' : World} {b : Nat} {x : Nat → Int}
theorem TabAt.lt (h : TabAt T w b x) : b < w.heap.size := (Array.getElem?_eq_some_iff.1 h).1
theorem TabAt.cell (h : TabAt T w b x) {t : Nat} (ht : t < 48) : w.cell? ⟨b, t, none⟩ = some (.int .i64 (x t)) := by
  rw [cell_of_row w b t _ T _ h]; exact tab_get ht
theorem TabAt.free (h : TabAt T w b x) (t : Nat) : w.frozen? ⟨b, t, none⟩ = false := frozen_of_row w b t _ T h
theorem TabAt.set (h : TabAt T w b x) {t : Nat} (ht : t < 48) (n : Int) : TabAt T (w.setCell ⟨b, t, none⟩ (.int .i64 n)) b (upd x t n) := by
  unfold TabAt
  rw [heap_setCell_same w b t _ T _ h, tab_set n ht]
theorem TabAt.other (h : TabAt T w b x) {c o : Nat} (hc : b ≠ c) (v : Value) : TabAt T (w.setCell ⟨c, o, none⟩ v) b x := by
  unfold TabAt
  rw [heap_setCell_other w ⟨c, o, none⟩ b v hc]; exact h
theorem TabAt.ext (h : TabAt T w b x) (hx : Ext w w') : TabAt T w' b x := by
  unfold TabAt
  rw [hx.block b h.lt]; exact h
theorem TabAt.congr {y : Nat → Int} (h : TabAt T w b x) (e : ∀ t, t < 48 → x t = y t) : TabAt T w b y := by
  unfold TabAt at *; rw [← tab_congr e]; exact h
theorem TabAt.new (w : World) (x : Nat → Int) : TabAt T (w.alloc (.cells (tab x) T)) w.heap.size x := heap_alloc_new w _
theorem TabAt.grown (h : TabAt T w b x) {v : Value} (hg : w.grownBy w' v.ownBlock) (hv : ∀ k, v.ownBlock = some k → b < k) : TabAt T w' b x := by
  unfold TabAt
  rw [hg.block b h.lt (fun e => by have := hv b e.symm; omega)]; exact h
theorem TabAt.srow (h : TabAt T w b x) {c : Nat} (hc : b ≠ c) (cs : Array Value) : TabAt T (w.setRow c cs) b x := by
  unfold TabAt
  rw [setRow_other w c b cs hc]; exact h
theorem TabAt.row (h : TabAt T w b x) (y : Nat → Int) : TabAt T (w.setRow b (tab y)) b y := setRow_heap w b _ _ T _ h
end

/-- after a store of a whole table into a new block -/
theorem Ext.sr {a w : World} (h : Ext a w) {b : Nat} (hb : a.heap.size ≤ b) (cs : Array Value) : Ext a (w.setRow b cs) :=
  h.trans ⟨rfl, rfl, rfl, by simp [World.setRow], fun k hk => setRow_other w b k cs (by omega)⟩

end Go.Proofs.YtdcndkojmflhnaaDoor

/- A block of one-cell elements that the call made. -/
set_option linter.unusedVariables false
namespace Go.Proofs.YtdcndkojmflhnaaDoor
open Go.RowKit

/-- block b holds just the cells vs -/
def RowAt (T : TypeId) (w : World) (b : Nat) (vs : List Value) : Prop := w.heap[b]? = some (.cells vs.toArray T (0, 0))

section
variable {T : TypeId} {w w' : World} {b : Nat} {vs : List Value}
theorem RowAt.lt (h : RowAt T w b vs) : b < w.heap.size := (Array.getElem?_eq_some_iff.1 h).1
theorem RowAt.cell (h : RowAt T w b vs) {k : Nat} {v : Value} (hk : vs[k]? = some v) : w.cell? ⟨b, k, none⟩ = some v := by
  rw [cell_of_row w b k _ T _ h]; simpa using hk
theorem RowAt.free (h : RowAt T w b vs) (k : Nat) : w.frozen? ⟨b, k, none⟩ = false := frozen_of_row w b k _ T h
theorem RowAt.set (h : RowAt T w b vs) (k : Nat) (v : Value) : RowAt T (w.setCell ⟨b, k, none⟩ v) b (vs.set k v) := by
  unfold RowAt
  rw [heap_setCell_same w b k _ T _ h]; simp
theorem RowAt.other (h : RowAt T w b vs) {c o : Nat} (hc : b ≠ c) (v : Value) : RowAt T (w.setCell ⟨c, o, none⟩ v) b vs := by
  unfold RowAt
  rw [heap_setCell_other w ⟨c, o, none⟩ b v hc]; exact h
theorem RowAt.ext (h : RowAt T w b vs) (hx : Ext w w') : RowAt T w' b vs := by
  unfold RowAt
  rw [hx.block b h.lt]; exact h
theorem RowAt.new (w : World) (vs : List Value) : RowAt T (w.alloc (.cells vs.toArray T)) w.heap.size vs := heap_alloc_new w _
theorem RowAt.kept (h : RowAt T w b vs) {row : Option Nat} (hg : w.grownBy w' row) (hne : some b ≠ row) : RowAt T w' b vs := (hg.block b h.lt hne).trans h
end

/-- make of n one-cell elements -/
theorem run_make_one {P : Program} {t e : TypeId} {i : TypeInfo} {z : Value} (ht : P.underlying t = some (.slice e)) (hi : P.info? e = some i) (hz : i.zero = some z) (hzc : z.cells = #[z]) (hs : i.size = 1) (n : Nat) (hb : i.bytes * n ≤ 281474976710656) (hn : n ≤ 17592186044416) (w : World) :
    (Instr.makeSlice t (.int .i64 (n : Int)) (.int .i64 (n : Int))).run P w = .ok (.slice (some ⟨w.heap.size, 0, none⟩) n n) (w.alloc (.cells (List.replicate n z).toArray e)) := by
  have hb' : (i.bytes : Int) * (n : Int) ≤ 281474976710656 := by
    have h : ((i.bytes * n : Nat) : Int) ≤ 281474976710656 := by omega
    rwa [Int.natCast_mul] at h
  have := run_make (P := P) w t e i z ht hi hz .i64 .i64 n n (by omega) (Int.le_refl _) hb' (by omega)
  rw [this]
  simp only [Int.toNat_natCast, hzc, hs, Nat.mul_one]
  congr 2
  congr 1
  apply Array.toList_inj.1
  apply List.ext_getElem?
  intro j
  by_cases hj : j < n
  · simp [madeCells, hj, Nat.mod_one]
  · simp [madeCells, hj]

end Go.Proofs.YtdcndkojmflhnaaDoor

/- Walk of runs.Zip. -/
set_option linter.unusedVariables false
namespace Go.Proofs.YtdcndkojmflhnaaDoor
open Go.RowKit
attribute [local go_sem] quiet2

/-- runs are told, in new memory -/
def RetRuns (w : World) (rs : List Run) (e : Ending) (w' : World) : Prop := ∃ v, e = .returned v ∧ RunsV w' v rs ∧ Ext w w'

/-- runs are told, in memory that the call made -/
def RetRunsF (w : World) (rs : List Run) (e : Ending) (w' : World) : Prop := ∃ v, e = .returned v ∧ RunsV w' v rs ∧ (∀ a n c, v = .slice (some a) n c → w.heap.size ≤ a.block) ∧ Ext w w'
theorem RetRunsF.ret {w w' : World} {rs : List Run} {e : Ending} (h : RetRunsF w rs e w') : RetRuns w rs e w' := by
  obtain ⟨v, h1, h2, _, h3⟩ := h; exact ⟨v, h1, h2, h3⟩
theorem own_fresh {w : World} {base e sz n : Nat} {v : Value} {xs : List Value} (h : w.ownsRow base e sz v n xs) : ∀ a m c, v = .slice (some a) m c → base ≤ a.block := fun a m c e => h.lt a.block (by rw [e]; rfl) |>.1

theorem foldTo_num {x : Nat → Int} : ∀ n r, r ∈ foldTo x n → ∃ t, t < n ∧ r.N = x t
  | 0, r, h => by simp [foldTo] at h
  | n + 1, r, h => by
    simp only [foldTo, List.mem_append] at h
    rcases h with h | h
    · obtain ⟨t, h1, h2⟩ := foldTo_num n r h; exact ⟨t, by omega, h2⟩
    · split at h
      · simp at h; subst h; exact ⟨n, by omega, rfl⟩
      · simp at h

/-- the form of a row that was gathered -/
theorem owns2_form {w : World} {base e : Nat} {v : Value} {out : List Run} (h : w.ownsRow base e 2 v out.length (cells2 Run.At Run.N out)) (hnil : out = [] → v = .slice none 0 0) :
    (out = [] ∧ v = .slice none 0 0) ∨ ∃ ob cp r, v = .slice (some ⟨ob, 0, none⟩) out.length cp ∧ base ≤ ob ∧ ob < w.heap.size ∧ out.getLast? = some r ∧ 0 < out.length ∧ w.cell? ⟨ob, (out.length - 1) * 2 + 1, none⟩ = some (.int .i64 r.N) := by
  by_cases h0 : out = []
  · exact .inl ⟨h0, hnil h0⟩
  · obtain ⟨_, h2⟩ := h
    have hp : 0 < out.length := List.length_pos_iff.2 h0
    rcases h2 with ⟨rfl, h2⟩ | ⟨b, cap, cur, rfl, hb, hg, hn, hm, hs, ht⟩
    · omega
    · right
      obtain ⟨r, hr⟩ : ∃ r, out.getLast? = some r := ⟨out.getLast h0, List.getLast?_eq_some_getLast h0⟩
      refine ⟨b, cap, r, rfl, hb, (Array.getElem?_eq_some_iff.1 hg).1, hr, hp, ?_⟩
      have hk : out[out.length - 1]? = some r := by rw [← List.getLast?_eq_getElem?]; exact hr
      have := (cells2_get Run.At Run.N out _ r hk).2
      simp only [World.cell?, hg, Option.isSome_none, Bool.false_eq_true, if_false]
      rw [← ht, List.getElem?_take] at this
      split at this
      · simpa using this
      · cases this

theorem sp_mem : ∀ (l : List Run) (t : Nat), l ≠ [] → ∃ r ∈ l, sp l t = r.N
  | [], _, h => absurd rfl h
  | [a], _, _ => ⟨a, by simp, rfl⟩
  | a :: b :: l, t, _ => by
    rw [sp]
    split
    · obtain ⟨r, h1, h2⟩ := sp_mem (b :: l) t (by simp)
      exact ⟨r, List.mem_cons_of_mem _ h1, h2⟩
    · exact ⟨a, by simp, rfl⟩

theorem shape_ne {f : List Run} (h : Shape f) : f ≠ [] := by
  intro e; subst e; exact h

theorem zip_nums {f g : List Run} {of : Int → Int → Int} (hf : Shape f) (hg : Shape g) (h : ∀ x ∈ f, ∀ y ∈ g, I64 (of x.N y.N)) : ∀ r ∈ fold (fun t => of (sp f t) (sp g t)), I64 r.At ∧ I64 r.N := fun r hr => by
  rw [fold_eq] at hr
  have h1 := foldTo_at _ _ hr
  obtain ⟨t, _, h2⟩ := foldTo_num _ _ hr
  obtain ⟨x, hx, e1⟩ := sp_mem f t (shape_ne hf)
  obtain ⟨y, hy, e2⟩ := sp_mem g t (shape_ne hg)
  refine ⟨I64.of (by omega) (by omega), ?_⟩
  rw [h2]
  simp only [e1, e2]
  exact h x hx y hy

theorem Tryd.info48 : (Tryd.prog.info? 48).map (fun i => (i.zero, i.size, i.bytes)) = some (some (.agg #[.int .i64 0, .int .i64 0]), 2, 16) := by kernel_rfl

end Go.Proofs.YtdcndkojmflhnaaDoor

/- Walks of the references over tables: spread, folded, told. -/
set_option linter.unusedVariables false
namespace Go.Proofs.YtdcndkojmflhnaaDoor
open Go.RowKit

/-- a table is told, in new memory -/
def RetTab (w : World) (x : Nat → Int) (e : Ending) (w' : World) : Prop := e = .returned (.agg (tab x)) ∧ Ext w w'

/-- where spread's loop stands -/
def SpreadAt (f : List Run) (k t : Nat) : Prop := k < f.length ∧ curAt f k ≤ (t : Int) ∧ (t : Int) ≤ nextAt f k

/-- what has been spread so far -/
def upto (x : Nat → Int) (t : Nat) : Nat → Int := fun s => if s < t then x s else 0
theorem upto_zero (x : Nat → Int) : upto x 0 = fun _ => 0 := by funext s; simp [upto]
theorem upto_step (x : Nat → Int) (t : Nat) : upd (upto x t) t (x t) = upto x (t + 1) := by
  funext s
  unfold upd upto
  by_cases h : s = t
  · subst h; simp
  · rw [if_neg h]
    by_cases h2 : s < t
    · rw [if_pos h2, if_pos (by omega)]
    · rw [if_neg h2, if_neg (by omega)]
theorem upto_all (x : Nat → Int) : ∀ t, t < 48 → upto x 48 t = x t := fun t h => by simp [upto, h]

theorem fold_nums {x : Nat → Int} (h : ∀ t, t < 48 → I64 (x t)) : ∀ r ∈ fold x, I64 r.At ∧ I64 r.N := fun r hr => by
  rw [fold_eq] at hr
  have h1 := foldTo_at _ _ hr
  obtain ⟨t, ht, h2⟩ := foldTo_num _ _ hr
  exact ⟨I64.of (by omega) (by omega), by rw [h2]; exact h t ht⟩

theorem fold_len (x : Nat → Int) : (fold x).length ≤ 48 := by rw [fold_eq]; exact foldTo_le 48

theorem foldTo_put {x : Nat → Int} {t : Nat} (h : t = 0 ∨ x (t - 1) ≠ x t) : foldTo x (t + 1) = foldTo x t ++ [⟨(t : Int), x t⟩] := by simp only [foldTo]; rw [if_pos h]
theorem foldTo_skip {x : Nat → Int} {t : Nat} (h0 : t ≠ 0) (h : x (t - 1) = x t) : foldTo x (t + 1) = foldTo x t := by
  simp only [foldTo]; rw [if_neg (by rintro (h1 | h1); exact h0 h1; exact h1 h), List.append_nil]

end Go.Proofs.YtdcndkojmflhnaaDoor

/- slices.IndexFunc, slices.ContainsFunc at slices of structs: by a contract of the function that is handed in. -/
set_option linter.unusedVariables false
namespace Go.Proofs.YtdcndkojmflhnaaDoor
open Go.RowKit

/-- the index of the first one of which p holds; -1: none -/
@[irreducible] def idxOf {α : Type} (p : α → Bool) (xs : List α) : Int := match xs.findIdx? p with | some i => (i : Int) | none => -1

theorem idxOf_at {α : Type} {p : α → Bool} {xs : List α} {k : Nat} {x : α} (hk : xs[k]? = some x) (hp : p x = true) (hall : ∀ j y, j < k → xs[j]? = some y → p y = false) : idxOf p xs = k := by
  unfold idxOf
  have hkl := (List.getElem?_eq_some_iff.1 hk).1
  have : xs.findIdx? p = some k := by
    rw [List.findIdx?_eq_some_iff_getElem]
    refine ⟨hkl, ?_, fun j hj => ?_⟩
    · have := (List.getElem?_eq_some_iff.1 hk).2; rw [this]; exact hp
    · rw [hall j (xs[j]'(by omega)) hj (by simp)]; simp
  rw [this]

theorem idxOf_none {α : Type} {p : α → Bool} {xs : List α} (hall : ∀ j y, j < xs.length → xs[j]? = some y → p y = false) : idxOf p xs = -1 := by
  unfold idxOf
  have : xs.findIdx? p = none := by
    rw [List.findIdx?_eq_none_iff]
    intro x hx
    obtain ⟨j, hj, rfl⟩ := List.mem_iff_getElem.1 hx
    exact hall j _ hj (by simp)
  rw [this]

theorem idxOf_any {α : Type} (p : α → Bool) (xs : List α) : decide (0 ≤ idxOf p xs) = xs.any p := by
  unfold idxOf
  cases h : xs.findIdx? p with
  | none =>
    rw [List.findIdx?_eq_none_iff] at h
    have : xs.any p = false := by rw [List.any_eq_false]; intro x hx; rw [h x hx]; simp
    rw [this]; rfl
  | some i =>
    rw [List.findIdx?_eq_some_iff_getElem] at h
    obtain ⟨hi, hp, _⟩ := h
    have : xs.any p = true := List.any_eq_true.2 ⟨xs[i], List.getElem_mem _, hp⟩
    rw [this]; simp

theorem hall_snoc {α : Type} {p : α → Bool} {xs : List α} {k : Nat} {x : α} (hk : xs[k]? = some x) (hp : p x = false) (hall : ∀ j y, j < k → xs[j]? = some y → p y = false) : ∀ j y, j < k + 1 → xs[j]? = some y → p y = false := fun j y hj hy => by
  by_cases e : j = k
  · subst e; rw [hk] at hy; obtain rfl := Option.some.inj hy; exact hp
  · exact hall j y (by omega) hy

set_option maxHeartbeats 1000000 in
theorem IndexFunc_Run (w : World) (b off cap : Nat) (f : List Run) (G : Nat) (lb : Array Value) (p : Run → Bool) (hl : f.length ≤ 17592186044416) (hb : b < w.heap.size) (hE : ∀ k x, f[k]? = some x → ERun w b (off + k * 2) x)
    (heg : ∀ (args : Array Value) (w : World), (callFunc G args).run Tryd.prog w = .ok (.enter G args) w)
    (hp : ∀ (k : Nat) (x : Run), f[k]? = some x → ∀ W, Ext w W → Calls Tryd.prog G (#[.agg #[.int .i64 x.At, .int .i64 x.N]] ++ lb) W fun e w' => e = .returned (.bool (p x)) ∧ Ext W w') :
    Calls Tryd.prog 65 #[.slice (some ⟨b, off, none⟩) f.length cap, .func (.func G) #[] lb] w fun e w' => e = .returned (.int .i64 (idxOf p f)) ∧ Ext w w' := by
  have HE := hid hE
  have Hp := hid hp
  clear hE hp
  generalize hn : f.length = n at *
  have Hn := hid hn
  clear hn
  go_enter Tryd.func65, Tryd.ntmps65
  go_wp2_with fail
  go_loopw [8] (fun i wr => ∃ k : Nat, k ≤ n ∧ i = .int .i64 k ∧ Hid (∀ j y, j < k → f[j]? = some y → p y = false) ∧ Ext w wr) (fun i _ => n - (intOf i).toNat)
  case atStart => exact ⟨0, Nat.zero_le _, rfl, fun j y hj => absurd hj (Nat.not_lt_zero _), Ext.rf _⟩
  case round =>
    obtain ⟨k, hk, rfl, Hall, hx⟩ := hrel
    have hbw : b < wr.heap.size := Nat.lt_of_lt_of_le hb hx.size
    by_cases hlt : k < n
    · obtain ⟨x, hxk⟩ := getE (f := f) (k := k) (by rw [Hn.out]; exact hlt)
      obtain ⟨c1, c2, c3, c4⟩ := HE.out k x hxk
      replace c1 := hx.ce' c1
      replace c2 := hx.ce' c2
      have hc := Hp.out k x hxk wr hx
      have Hc := hid hc
      have Hx := hid hxk
      clear hc hxk
      cases hpx : p x with
      | true =>
        rw [hpx] at Hc
        have Hpx := hid hpx
        clear hpx
        go_wp2_with fail
        refine Hc.out.mono ?_
        rintro e w1 ⟨rfl, hx1⟩
        go_wp2_with fail
        go_ret
        exact ⟨ret_int (idxOf_at Hx.out Hpx.out Hall.out).symm, hx.tr hx1⟩
      | false =>
        rw [hpx] at Hc
        have Hpx := hid hpx
        clear hpx
        go_wp2_with fail
        refine Hc.out.mono ?_
        rintro e w1 ⟨rfl, hx1⟩
        go_wp2_with fail
        go_roundw
        case rel => exact ⟨k + 1, by omega, by go_num, hall_snoc Hx.out Hpx.out Hall.out, hx.tr hx1⟩
        case measure => simp [intOf]; omega
    · obtain rfl : k = n := by omega
      go_wp2_with fail
      go_ret
      exact ⟨ret_int (idxOf_none (fun j y hj hy => Hall.out j y (by rw [Hn.out] at hj; exact hj) hy)).symm, hx⟩

theorem ContainsFunc_Run (w : World) (v : Value) (f : List Run) (G : Nat) (lb : Array Value) (p : Run → Bool) (hv : RunsV w v f)
    (heg : ∀ (args : Array Value) (w : World), (callFunc G args).run Tryd.prog w = .ok (.enter G args) w)
    (hp : ∀ (k : Nat) (x : Run), f[k]? = some x → ∀ W, Ext w W → Calls Tryd.prog G (#[.agg #[.int .i64 x.At, .int .i64 x.N]] ++ lb) W fun e w' => e = .returned (.bool (p x)) ∧ Ext W w') :
    Calls Tryd.prog 52 #[v, .func (.func G) #[] lb] w fun e w' => e = .returned (.bool (f.any p)) ∧ Ext w w' := by
  rcases hv with ⟨rfl, a0, c0, rfl, hc0⟩ | ⟨b, off, cap, rfl, h1, h2, h3, h4, h5⟩
  · go_enter Tryd.func52, Tryd.ntmps52
    go_wp2
    go_loopw [8] (fun i wr => i = .int .i64 0 ∧ wr = w) (fun i _ => 0)
    case atStart => exact ⟨rfl, rfl⟩
    case round =>
      obtain ⟨rfl, rfl⟩ := hrel
      go_wp2
      go_ret
      exact ⟨rfl, Ext.rf _⟩
  · have hi := IndexFunc_Run w b off cap f G lb p h3 h4 h5 heg hp
    have Hi := hid hi
    have ha := hid (idxOf_any p f)
    clear hi hp h5
    generalize idxOf p f = q at *
    generalize hn : f.length = n at *
    clear hn
    generalize f.any p = r at *
    go_enter Tryd.func52, Tryd.ntmps52
    go_wp2_with fail
    refine Hi.out.mono ?_
    rintro e w1 ⟨rfl, hx1⟩
    go_wp2_with fail
    go_ret
    exact ⟨ret_bool ha.out, hx1⟩

end Go.Proofs.YtdcndkojmflhnaaDoor
