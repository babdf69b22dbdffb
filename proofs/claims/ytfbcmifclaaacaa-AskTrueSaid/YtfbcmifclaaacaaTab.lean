/- Blocks of 48 cells; rows of cells. -/
import Derived.Test.YtfbcmifclaaacaaBase
import Derived.Laws.Rows
import Derived.Laws.MakeOwn

/- A block that holds a number for each time: the references' tables. -/
set_option linter.unusedVariables false
namespace Go.Proofs.Ytfbcmifclaaacaa
open Go.RowKit

/-- the cells of a table -/
@[irreducible] def tab (x : Nat → Int) : Array Value := ((List.range 48).map (fun t => Value.int .i64 (x t))).toArray

theorem tab_size (x : Nat → Int) : (tab x).size = 48 := by unfold tab; simp
theorem tab_get {x : Nat → Int} {t : Nat} (h : t < 48) : (tab x)[t]? = some (.int .i64 (x t)) := by
  unfold tab; simp [h]
theorem tab_congr {x y : Nat → Int} (h : ∀ t, t < 48 → x t = y t) : tab x = tab y := by
  unfold tab
  congr 1
  exact List.map_congr_left fun t ht => by rw [h t (List.mem_range.1 ht)]
theorem tab_one (x : Nat → Int) : (tab x).all (·.oneCell') = true := by
  unfold tab
  simp [Value.oneCell']

/-- a table turned at one time -/
def upd (x : Nat → Int) (t : Nat) (n : Int) : Nat → Int := fun s => if s = t then n else x s
theorem upd_same (x : Nat → Int) (t : Nat) (n : Int) : upd x t n t = n := by simp [upd]
theorem upd_other (x : Nat → Int) {t s : Nat} (n : Int) (h : s ≠ t) : upd x t n s = x s := by simp [upd, h]

theorem tab_set {x : Nat → Int} {t : Nat} (n : Int) (h : t < 48) : (tab x).setIfInBounds t (.int .i64 n) = tab (upd x t n) := by
  apply Array.ext
  · simp [tab_size]
  · intro i h1 h2
    have hi : i < 48 := by simpa [tab_size] using h2
    have e1 : (tab (upd x t n))[i]? = some (.int .i64 (upd x t n i)) := tab_get hi
    have e2 : ((tab x).setIfInBounds t (.int .i64 n))[i]? = some (.int .i64 (upd x t n i)) := by
      rw [Array.getElem?_setIfInBounds]
      by_cases e : t = i
      · subst e; rw [if_pos rfl, if_pos (by rw [tab_size]; exact h), upd_same]
      · rw [if_neg e, tab_get hi, upd_other x n (fun h => e h.symm)]
    rw [Array.getElem?_eq_getElem h1] at e2
    rw [Array.getElem?_eq_getElem h2] at e1
    rw [Option.some.inj e2, Option.some.inj e1]

theorem tab_zero : (#[.int .i64 0, .int .i64 0, .int .i64 0, .int .i64 0, .int .i64 0, .int .i64 0, .int .i64 0, .int .i64 0, .int .i64 0, .int .i64 0, .int .i64 0, .int .i64 0, .int .i64 0, .int .i64 0, .int .i64 0, .int .i64 0, .int .i64 0, .int .i64 0, .int .i64 0, .int .i64 0, .int .i64 0, .int .i64 0, .int .i64 0, .int .i64 0, .int .i64 0, .int .i64 0, .int .i64 0, .int .i64 0, .int .i64 0, .int .i64 0, .int .i64 0, .int .i64 0, .int .i64 0, .int .i64 0, .int .i64 0, .int .i64 0, .int .i64 0, .int .i64 0, .int .i64 0, .int .i64 0, .int .i64 0, .int .i64 0, .int .i64 0, .int .i64 0, .int .i64 0, .int .i64 0, .int .i64 0, .int .i64 0] : Array Value) = tab (fun _ => 0) := by
  unfold tab; rfl

/-- block b holds the table x -/
def TabAt (T : TypeId) (w : World) (b : Nat) (x : Nat → Int) : Prop := w.heap[b]? = some (.cells (tab x) T (0, 0))

section
variable {T : TypeId} {w w' : World} {b : Nat} {x : Nat → Int}
theorem TabAt.lt (h : TabAt T w b x) : b < w.heap.size := (Array.getElem?_eq_some_iff.1 h).1
theorem TabAt.cell (h : TabAt T w b x) {t : Nat} (ht : t < 48) : w.cell? ⟨b, t, none⟩ = some (.int .i64 (x t)) := by
  rw [cell_of_row w b t _ T _ h]; exact tab_get ht
theorem TabAt.free (h : TabAt T w b x) (t : Nat) : w.frozen? ⟨b, t, none⟩ = false := frozen_of_row w b t _ T h
theorem TabAt.set (h : TabAt T w b x) {t : Nat} (ht : t < 48) (n : Int) : TabAt T (w.setCell ⟨b, t, none⟩ (.int .i64 n)) b (upd x t n) := by
  unfold TabAt
  rw [heap_setCell_same w b t _ T _ h, tab_set n ht]
theorem TabAt.other (h : TabAt T w b x) {c o : Nat} (hc : b ≠ c) (v : Value) : TabAt T (w.setCell ⟨c, o, none⟩ v) b x := by
  unfold TabAt
  rw [heap_setCell_other w ⟨c, o, none⟩ b v hc]; exact h
theorem TabAt.ext (h : TabAt T w b x) (hx : Ext w w') : TabAt T w' b x := by
  unfold TabAt
  rw [hx.block b h.lt]; exact h
theorem TabAt.congr {y : Nat → Int} (h : TabAt T w b x) (e : ∀ t, t < 48 → x t = y t) : TabAt T w b y := by
  unfold TabAt at *; rw [← tab_congr e]; exact h
theorem TabAt.new (w : World) (x : Nat → Int) : TabAt T (w.alloc (.cells (tab x) T)) w.heap.size x := heap_alloc_new w _
theorem TabAt.grown (h : TabAt T w b x) {v : Value} (hg : w.grownBy w' v.ownBlock) (hv : ∀ k, v.ownBlock = some k → b < k) : TabAt T w' b x := by
  unfold TabAt
  rw [hg.block b h.lt (fun e => by have := hv b e.symm; omega)]; exact h
theorem TabAt.srow (h : TabAt T w b x) {c : Nat} (hc : b ≠ c) (cs : Array Value) : TabAt T (w.setRow c cs) b x := by
  unfold TabAt
  rw [setRow_other w c b cs hc]; exact h
theorem TabAt.row (h : TabAt T w b x) (y : Nat → Int) : TabAt T (w.setRow b (tab y)) b y := setRow_heap w b _ _ T _ h
end

/-- after a store of a whole table into a new block -/
theorem Ext.sr {a w : World} (h : Ext a w) {b : Nat} (hb : a.heap.size ≤ b) (cs : Array Value) : Ext a (w.setRow b cs) :=
  h.trans ⟨rfl, rfl, rfl, by simp [World.setRow], fun k hk => setRow_other w b k cs (by omega)⟩

end Go.Proofs.Ytfbcmifclaaacaa

/- A block of one-cell elements that the call made. -/
set_option linter.unusedVariables false
namespace Go.Proofs.Ytfbcmifclaaacaa
open Go.RowKit

/-- block b holds just the cells vs -/
def RowAt (T : TypeId) (w : World) (b : Nat) (vs : List Value) : Prop := w.heap[b]? = some (.cells vs.toArray T (0, 0))

section
variable {T : TypeId} {w w' : World} {b : Nat} {vs : List Value}
theorem RowAt.lt (h : RowAt T w b vs) : b < w.heap.size := (Array.getElem?_eq_some_iff.1 h).1
theorem RowAt.cell (h : RowAt T w b vs) {k : Nat} {v : Value} (hk : vs[k]? = some v) : w.cell? ⟨b, k, none⟩ = some v := by
  rw [cell_of_row w b k _ T _ h]; simpa using hk
theorem RowAt.free (h : RowAt T w b vs) (k : Nat) : w.frozen? ⟨b, k, none⟩ = false := frozen_of_row w b k _ T h
theorem RowAt.set (h : RowAt T w b vs) (k : Nat) (v : Value) : RowAt T (w.setCell ⟨b, k, none⟩ v) b (vs.set k v) := by
  unfold RowAt
  rw [heap_setCell_same w b k _ T _ h]; simp
theorem RowAt.other (h : RowAt T w b vs) {c o : Nat} (hc : b ≠ c) (v : Value) : RowAt T (w.setCell ⟨c, o, none⟩ v) b vs := by
  unfold RowAt
  rw [heap_setCell_other w ⟨c, o, none⟩ b v hc]; exact h
theorem RowAt.ext (h : RowAt T w b vs) (hx : Ext w w') : RowAt T w' b vs := by
  unfold RowAt
  rw [hx.block b h.lt]; exact h
theorem RowAt.new (w : World) (vs : List Value) : RowAt T (w.alloc (.cells vs.toArray T)) w.heap.size vs := heap_alloc_new w _
theorem RowAt.kept (h : RowAt T w b vs) {row : Option Nat} (hg : w.grownBy w' row) (hne : some b ≠ row) : RowAt T w' b vs := (hg.block b h.lt hne).trans h
end

/-- make of n one-cell elements -/
theorem run_make_one {P : Program} {t e : TypeId} {i : TypeInfo} {z : Value} (ht : P.underlying t = some (.slice e)) (hi : P.info? e = some i) (hz : i.zero = some z) (hzc : z.cells = #[z]) (hs : i.size = 1) (n : Nat) (hb : i.bytes * n ≤ 281474976710656) (hn : n ≤ 17592186044416) (w : World) :
    (Instr.makeSlice t (.int .i64 (n : Int)) (.int .i64 (n : Int))).run P w = .ok (.slice (some ⟨w.heap.size, 0, none⟩) n n) (w.alloc (.cells (List.replicate n z).toArray e)) := by
  have hb' : (i.bytes : Int) * (n : Int) ≤ 281474976710656 := by
    have h : ((i.bytes * n : Nat) : Int) ≤ 281474976710656 := by omega
    rwa [Int.natCast_mul] at h
  have := run_make (P := P) w t e i z ht hi hz .i64 .i64 n n (by omega) (Int.le_refl _) hb' (by omega)
  rw [this]
  simp only [Int.toNat_natCast, hzc, hs, Nat.mul_one]
  congr 2
  congr 1
  apply Array.toList_inj.1
  apply List.ext_getElem?
  intro j
  by_cases hj : j < n
  · simp [madeCells, hj, Nat.mod_one]
  · simp [madeCells, hj]

end Go.Proofs.Ytfbcmifclaaacaa
