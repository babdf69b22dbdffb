/- A block of one-cell elements that the call made. -/
import Derived.Test.YtoclbapkgfmphaaTab
import Derived.Laws.MakeOwn
set_option linter.unusedVariables false
namespace Go.Proofs.Ytoclbapkgfmphaa
open Go.RowKit

/-- block b holds just the cells vs -/
def RowAt (T : TypeId) (w : World) (b : Nat) (vs : List Value) : Prop := w.heap[b]? = some (.cells vs.toArray T (0, 0))

section
variable {T : TypeId} {w w' : World} {b : Nat} {vs : List Value}
theorem RowAt.lt (h : RowAt T w b vs) : b < w.heap.size := (Array.getElem?_eq_some_iff.1 h).1
theorem RowAt.cell (h : RowAt T w b vs) {k : Nat} {v : Value} (hk : vs[k]? = some v) : w.cell? ⟨b, k, none⟩ = some v := by
  rw [cell_of_row w b k _ T _ h]; simpa using hk
theorem RowAt.free (h : RowAt T w b vs) (k : Nat) : w.frozen? ⟨b, k, none⟩ = false := frozen_of_row w b k _ T h
theorem RowAt.set (h : RowAt T w b vs) (k : Nat) (v : Value) : RowAt T (w.setCell ⟨b, k, none⟩ v) b (vs.set k v) := by
  unfold RowAt
  rw [heap_setCell_same w b k _ T _ h]; simp
theorem RowAt.other (h : RowAt T w b vs) {c o : Nat} (hc : b ≠ c) (v : Value) : RowAt T (w.setCell ⟨c, o, none⟩ v) b vs := by
  unfold RowAt
  rw [heap_setCell_other w ⟨c, o, none⟩ b v hc]; exact h
theorem RowAt.ext (h : RowAt T w b vs) (hx : Ext w w') : RowAt T w' b vs := by
  unfold RowAt
  rw [hx.block b h.lt]; exact h
theorem RowAt.new (w : World) (vs : List Value) : RowAt T (w.alloc (.cells vs.toArray T)) w.heap.size vs := heap_alloc_new w _
theorem RowAt.kept (h : RowAt T w b vs) {row : Option Nat} (hg : w.grownBy w' row) (hne : some b ≠ row) : RowAt T w' b vs := (hg.block b h.lt hne).trans h
end

/-- make of n one-cell elements -/
theorem run_make_one {P : Program} {t e : TypeId} {i : TypeInfo} {z : Value} (ht : P.underlying t = some (.slice e)) (hi : P.info? e = some i) (hz : i.zero = some z) (hzc : z.cells = #[z]) (hs : i.size = 1) (n : Nat) (hb : i.bytes * n ≤ 281474976710656) (hn : n ≤ 17592186044416) (w : World) :
    (Instr.makeSlice t (.int .i64 (n : Int)) (.int .i64 (n : Int))).run P w = .ok (.slice (some ⟨w.heap.size, 0, none⟩) n n) (w.alloc (.cells (List.replicate n z).toArray e)) := by
  have hb' : (i.bytes : Int) * (n : Int) ≤ 281474976710656 := by
    have h : ((i.bytes * n : Nat) : Int) ≤ 281474976710656 := by omega
    rwa [Int.natCast_mul] at h
  have := run_make (P := P) w t e i z ht hi hz .i64 .i64 n n (by omega) (Int.le_refl _) hb' (by omega)
  rw [this]
  simp only [Int.toNat_natCast, hzc, hs, Nat.mul_one]
  congr 2
  congr 1
  apply Array.toList_inj.1
  apply List.ext_getElem?
  intro j
  by_cases hj : j < n
  · simp [madeCells, hj, Nat.mod_one]
  · simp [madeCells, hj]

end Go.Proofs.Ytoclbapkgfmphaa
