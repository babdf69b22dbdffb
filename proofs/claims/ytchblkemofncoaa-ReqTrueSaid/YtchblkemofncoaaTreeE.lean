/- Walk of tree.Check's test on names that were there. -/
import Derived.Test.YtchblkemofncoaaTreeD
import Derived.Maps.Own
import Derived.Maps.OwnOps
import Derived.Maps.Views
import Derived.Maps.OwnSet
set_option linter.unusedVariables false
namespace Go.Proofs.Ytchblkemofncoaa
open Go.RowKit Go.Maps Go.WideMaps

theorem lawS : Keyed Try.prog 9 := string_keyed Try.underlying9
theorem zeroI (w : World) : (zeroValue 3).run Try.prog w = .ok (.int .i64 0) w := by kernel_rfl

/-- the map at bm counts names: k calls were -/
def CountAt (bm k : Nat) (cnt : ByteArray → Nat) (W : World) : Prop :=
  ∃ D : DataW Nat, W.ownsMap Try.prog 9 (plainElem Try.prog 3) bm k D ∧ ∀ s : ByteArray, D.atKey (.string s.data.toList) (.lit (.int .i64 0)) = .lit (.int .i64 (cnt s))

def plus (cnt : ByteArray → Nat) (s : ByteArray) : ByteArray → Nat := fun t => if t = s then cnt t + 1 else cnt t

theorem old_after {W w1 : World} {cm bm : Nat} {o b : Obj} (hm : W.heap[cm]? = some b) (hg : (W.alloc o).grownBy w1 (some bm)) (hne : cm ≠ bm) : w1.heap[cm]? = some b := by
  have hlt := (Array.getElem?_eq_some_iff.1 hm).1
  have h1 := ((Ext.rf W).al o).block cm hlt
  rw [hg.block cm (by have := ((Ext.rf W).al o).size; omega) (fun e => hne (Option.some.inj e)), h1]; exact hm
theorem new_after {W w1 : World} {bm : Nat} {o : Obj} (hg : (W.alloc o).grownBy w1 (some bm)) (hbm : bm < W.heap.size) : w1.heap[W.heap.size]? = some o := by
  have h1 := heap_alloc_new W o
  rw [hg.block _ (Array.getElem?_eq_some_iff.1 h1).1 (fun e => by have := Option.some.inj e; omega)]; exact h1

set_option maxRecDepth 100000 in
set_option maxHeartbeats 1000000 in
theorem check3 (w0 W : World) (s : ByteArray) (p : Int) (a : Option Addr) (n cap : Nat) (cm bm k : Nat) (cnt : ByteArray → Nat) (hs : s.size ≤ 9223372036854775807) (hk : k ≤ 17592186044416) (hcnt : cnt s ≤ k) (hbm : w0.heap.size ≤ bm) (hcm : w0.heap.size ≤ cm) (hne : cm ≠ bm) (hx : Ext w0 W)
    (hm : W.heap[cm]? = some (.cells #[.map (some bm)] 83 (0, 0))) (hC : CountAt bm k cnt W) :
    Calls Try.prog 69 #[.agg #[.string s, .int .i64 p, .slice a n cap], .pointer (some ⟨cm, 0, none⟩)] W fun e w' => e = .returned (.bool (decide (0 < cnt s))) ∧ Ext w0 w' ∧
      w'.heap[cm]? = some (.cells #[.map (some bm)] 83 (0, 0)) ∧ CountAt bm (k + 1) (plus cnt s) w' ∧ (∀ j o, j ≠ bm → W.heap[j]? = some o → w'.heap[j]? = some o) := by
  obtain ⟨D, hown, hat⟩ := hC
  have hcl : W.cell? ⟨cm, 0, none⟩ = some (.map (some bm)) := by rw [cell_of_row _ _ _ _ _ _ hm]; rfl
  have hkey : keyOf Try.prog 9 (.string s) = some (.string s.data.toList) := keyOf_string_mk Try.underlying9 (by unfold maxLen; omega)
  have Hk := hid hkey
  have Hown := hid hown
  clear hkey hown
  have hcw := (Array.getElem?_eq_some_iff.1 hm).1
  go_enter Try.func69, Try.ntmps69
  have hcI : (cnt s : Int) + 1 ≤ 17592186044417 := by omega
  have Hwf := hid (show (Lit.int .i64 ((cnt s : Int) + 1)).wf = true from WalkArith.wf_i64 ⟨by omega, by omega⟩)
  have hbW : bm < W.heap.size := Hown.out.lt
  have Hat := hid hat
  have Hm := hid hm
  clear hat hm
  go_wp2_with (first
    | (at_lookup; refine wpList_lookup_own_int _ rfl _ _ 83 rfl 9 3 .i64 lawS Try.underlying83 Try.underlying3 (zeroI _) bm k _ rfl (Hown.out.alloc _) _ _ rfl Hk.out ?_; intro c hc hwc; (obtain rfl : c = (cnt s : Int) := by have := hc.symm.trans (Hat.out s); simpa using this); clear hc hwc)
    | (at_mapUpdate; go_loud (refine wpList_mapUpdate_own _ rfl _ _ _ 83 rfl 9 3 lawS Try.underlying83 _ bm k _ rfl (Hown.out.alloc _) (by unfold maxLen; omega) _ _ _ rfl rfl Hk.out _ [] (plainElem_int Try.underlying3 Hwf.out) ?_); intro w1 hown1 hgrow1; have Hown1 := hid hown1; have Hgr := hid hgrow1; have hm1 := old_after Hm.out hgrow1 hne; have hb1 := new_after hgrow1 hbW; have hcl1 := cell_of_row w1 cm 0 _ _ _ hm1; have hcl2 := cell_of_row w1 W.heap.size 0 _ _ _ hb1; have Hm1 := hid hm1; clear hown1 hgrow1 hm1 hb1)
    | (at_lookup; refine wpList_lookup_own_int _ rfl _ _ 83 rfl 9 3 .i64 lawS Try.underlying83 Try.underlying3 (zeroI _) bm (k + 1) _ rfl Hown1.out _ _ rfl Hk.out ?_; intro c hc hwc; (obtain rfl : c = (cnt s : Int) + 1 := by have := hc.symm.trans (atKey_put_same Hown.out.isMap (by simp [WideAt.IsKeyLit]) _ _); simpa using this); clear hc hwc))
  go_ret
  refine ⟨ret_bool (decide_eq_decide.2 (by omega)), Below.grown (hx.al _) Hgr.out (hx.al _).size (fun j hj => by cases hj; exact hbm), Hm1.out, ⟨_, Hown1.out, fun t => ?_⟩, fun j o hj ho => old_after ho Hgr.out hj⟩
  unfold plus
  by_cases e : t = s
  · subst e
    rw [if_pos rfl, atKey_put_same Hown.out.isMap (by simp [WideAt.IsKeyLit])]
    simp
  · rw [if_neg e, atKey_put_other (fun h => e (by
      have h1 : t.data.toList = s.data.toList := by simpa using h
      cases t; cases s; simp at h1; simp [h1]))]
    exact Hat.out t

end Go.Proofs.Ytchblkemofncoaa
