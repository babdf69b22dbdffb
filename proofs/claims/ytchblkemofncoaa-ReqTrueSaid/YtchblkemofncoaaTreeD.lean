/- Walks of tree.Check's tests. -/
import Derived.Test.YtchblkemofncoaaTreeC
set_option linter.unusedVariables false
namespace Go.Proofs.Ytchblkemofncoaa
open Go.RowKit

theorem check2 (W : World) (s : ByteArray) (p : Int) (a : Option Addr) (n cap : Nat) (hs : s.size ≤ 9223372036854775807) :
    Calls Try.prog 68 #[.agg #[.string s, .int .i64 p, .slice a n cap]] W fun e w' => e = .returned (.bool (decide (¬ NameOk s))) ∧ Ext W w' := by
  have C := hid (fun (W : World) => Name_any W s hs)
  obtain ⟨c, h1, h2⟩ : ∃ c, decide (NameOk s) = c ∧ decide (¬ NameOk s) = !c := ⟨_, rfl, by simp⟩
  rw [h1] at C
  rw [h2]
  clear h1 h2
  go_enter Try.func68, Try.ntmps68
  go_wp2_with fail
  refine (C.out _).mono ?_
  rintro e w1 ⟨rfl, hx⟩
  go_wp2_with fail
  go_ret
  exact ⟨rfl, ((Ext.rf _).al _).tr hx⟩

theorem check5 (W : World) (s : ByteArray) (p : Int) (v : Value) (f : List Run) (hv : RunsV W v f) :
    Calls Try.prog 71 #[.agg #[.string s, .int .i64 p, v]] W fun e w' => e = .returned (.bool (decide (¬ CapOk f))) ∧ Ext W w' := by
  have C := hid (fun (W' : World) (h : Ext W W') => Cap_any W' v f (hv.mono h))
  obtain ⟨c, h1, h2⟩ : ∃ c, decide (CapOk f) = c ∧ decide (¬ CapOk f) = !c := ⟨_, rfl, by simp⟩
  rw [h1] at C
  rw [h2]
  obtain ⟨a, cap, rfl, _⟩ := hv.form
  clear h1 h2 hv
  generalize f.length = n at *
  go_enter Try.func71, Try.ntmps71
  go_wp2_with fail
  refine (C.out _ ((Ext.rf _).al _)).mono ?_
  rintro e w1 ⟨rfl, hx⟩
  go_wp2_with fail
  go_ret
  exact ⟨rfl, ((Ext.rf _).al _).tr hx⟩

/-- may q's Parent be? -/
def ParOk (p : Int) (k : Nat) : Prop := -1 ≤ p ∧ p < (k : Int)
instance (p : Int) (k : Nat) : Decidable (ParOk p k) := inferInstanceAs (Decidable (_ ∧ _))

/-- a cell of the call's own that holds a number -/
def NumAt (c : Nat) (n : Int) (W : World) : Prop := W.heap[c]? = some (.cells #[.int .i64 n] 3 (0, 0))
theorem NumAt.ext {c : Nat} {n : Int} {w w' : World} (h : NumAt c n w) (hx : Ext w w') : NumAt c n w' := by
  unfold NumAt
  rw [hx.block c (Array.getElem?_eq_some_iff.1 h).1]; exact h
theorem NumAt.set {c : Nat} {n : Int} {w : World} (h : NumAt c n w) (m : Int) : NumAt c m (w.setCell ⟨c, 0, none⟩ (.int .i64 m)) := by
  unfold NumAt
  rw [heap_setCell_same w c 0 _ _ _ h]; rfl
theorem NumAt.cell {c : Nat} {n : Int} {w : World} (h : NumAt c n w) : w.cell? ⟨c, 0, none⟩ = some (.int .i64 n) := by rw [cell_of_row _ _ _ _ _ _ h]; rfl
theorem NumAt.lt {c : Nat} {n : Int} {w : World} (h : NumAt c n w) : c < w.heap.size := (Array.getElem?_eq_some_iff.1 h).1

set_option maxHeartbeats 1000000 in
theorem check4 (w0 W : World) (s : ByteArray) (p : Int) (a : Option Addr) (n cap : Nat) (c k : Nat) (hk : k ≤ 17592186044416) (hc : w0.heap.size ≤ c) (hx : Ext w0 W) (hn : NumAt c ((k : Int) - 1) W) :
    Calls Try.prog 70 #[.agg #[.string s, .int .i64 p, .slice a n cap], .pointer (some ⟨c, 0, none⟩)] W fun e w' => e = .returned (.bool (!decide (ParOk p k))) ∧ Ext w0 w' ∧ NumAt c (k : Int) w' ∧ (∀ j o, j ≠ c → W.heap[j]? = some o → w'.heap[j]? = some o) := by
  have hcl := hn.cell
  have hfr := frozen_of_row W c 0 _ _ hn
  have hcw := hn.lt
  have Hend := hid (fun (o : Obj) => show NumAt c (k : Int) ((W.setCell ⟨c, 0, none⟩ (.int .i64 (k : Int))).alloc o) from (hn.set _).ext ((Ext.rf _).al o))
  have Hold := hid (fun (b : Obj) => show ∀ j o, j ≠ c → W.heap[j]? = some o → ((W.setCell ⟨c, 0, none⟩ (.int .i64 (k : Int))).alloc b).heap[j]? = some o from fun j o hj ho => by
    have h1 : (W.setCell ⟨c, 0, none⟩ (.int .i64 (k : Int))).heap[j]? = some o := by rw [heap_setCell_other W ⟨c, 0, none⟩ j _ hj]; exact ho
    rw [((Ext.rf _).al b).block j (Array.getElem?_eq_some_iff.1 h1).1]; exact h1)
  have Hx := hid (fun (o : Obj) => (hx.se (o := 0) hc (.int .i64 (k : Int))).al o)
  clear hn
  by_cases h1 : p < -1
  · have hd := hid (deF (p := ParOk p k) (fun h => by have := h.1; omega))
    go_enter Try.func70, Try.ntmps70
    go_wp2_with fail
    go_ret
    exact ⟨(congrArg (fun b => Ending.returned (.bool (!b))) hd.out).symm, Hx.out _, Hend.out _, Hold.out _⟩
  · by_cases h2 : (k : Int) ≤ p
    · have h2' : (k : Int) - 1 + 1 ≤ p := by omega
      have hd := hid (deF (p := ParOk p k) (fun h => by have := h.2; omega))
      go_enter Try.func70, Try.ntmps70
      go_wp2_with fail
      go_ret
      exact ⟨(congrArg (fun b => Ending.returned (.bool (!b))) hd.out).symm, Hx.out _, Hend.out _, Hold.out _⟩
    · have h2' : ¬ (k : Int) - 1 + 1 ≤ p := by omega
      have hd := hid (deT (p := ParOk p k) ⟨by omega, by omega⟩)
      go_enter Try.func70, Try.ntmps70
      go_wp2_with fail
      go_ret
      exact ⟨(congrArg (fun b => Ending.returned (.bool (!b))) hd.out).symm, Hx.out _, Hend.out _, Hold.out _⟩

end Go.Proofs.Ytchblkemofncoaa
