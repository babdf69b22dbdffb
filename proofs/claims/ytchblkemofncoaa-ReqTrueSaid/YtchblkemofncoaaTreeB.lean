/- Walks of capacities: tree.Cap, CapFine. -/
import Derived.Test.YtchblkemofncoaaTreeA
set_option linter.unusedVariables false
namespace Go.Proofs.Ytchblkemofncoaa
open Go.RowKit

def CapNum (n : Int) : Prop := 0 ≤ n ∧ n ≤ 50
instance (n : Int) : Decidable (CapNum n) := inferInstanceAs (Decidable (_ ∧ _))
/-- they may be a queue's -/
def CapOk (f : List Run) : Prop := Fine f ∧ ∀ r ∈ f, CapNum r.N
instance (f : List Run) : Decidable (CapOk f) := inferInstanceAs (Decidable (_ ∧ _))

theorem cap1 (x : Run) (w : World) : Calls Try.prog 110 #[.agg #[.int .i64 x.At, .int .i64 x.N]] w fun e w' => e = .returned (.bool (decide (¬ CapNum x.N))) ∧ Ext w w' := by
  by_cases h1 : x.N < 0
  · rw [deT (p := ¬ CapNum x.N) (fun h => by have := h.1; omega)]
    go_enter Try.func110, Try.ntmps110
    go_wp2_with fail
    go_ret
    exact ⟨rfl, (Ext.rf _).al _⟩
  · by_cases h2 : 50 < x.N
    · rw [deT (p := ¬ CapNum x.N) (fun h => by have := h.2; omega)]
      go_enter Try.func110, Try.ntmps110
      go_wp2_with fail
      go_ret
      exact ⟨rfl, (Ext.rf _).al _⟩
    · rw [deF (p := ¬ CapNum x.N) (fun h => h ⟨by omega, by omega⟩)]
      go_enter Try.func110, Try.ntmps110
      go_wp2_with fail
      go_ret
      exact ⟨rfl, (Ext.rf _).al _⟩

theorem Cap_any (w : World) (v : Value) (f : List Run) (hv : RunsV w v f) :
    Calls Try.prog 72 #[v] w fun e w' => e = .returned (.bool (decide (CapOk f))) ∧ Ext w w' := by
  have C := hid (Check_any w v f hv)
  by_cases hf : Fine f
  · have P := hid (fun (W : World) (h : Ext w W) => ContainsFunc_Run W v f 110 #[] (fun x => decide (¬ CapNum x.N)) (hv.mono h) (enters_of Try.func110 (by kernel_rfl) rfl) (fun k x _ W' _ => cap1 x W'))
    have Hc := hid (chk_yes hf)
    have hq : ∃ c, f.any (fun x => decide (¬ CapNum x.N)) = c ∧ decide (CapOk f) = !c := by
      refine ⟨_, rfl, ?_⟩
      by_cases hc : ∀ r ∈ f, CapNum r.N
      · rw [deT (p := CapOk f) ⟨hf, hc⟩]
        have : f.any (fun x => decide (¬ CapNum x.N)) = false := List.any_eq_false.2 (fun r hr => by simpa using hc r hr)
        rw [this]; rfl
      · rw [deF (p := CapOk f) (fun h => hc h.2)]
        have : f.any (fun x => decide (¬ CapNum x.N)) = true := by
          rw [List.any_eq_true]
          apply Classical.byContradiction
          intro hn
          exact hc (fun r hr => Classical.byContradiction fun h => hn ⟨r, hr, by simpa using h⟩)
        rw [this]; rfl
    obtain ⟨c, hc, hd⟩ := hq
    rw [hc] at P
    rw [hd]
    clear hc hd hf hv
    go_enter Try.func72, Try.ntmps72
    go_wp2_with fail
    refine C.out.mono ?_
    rintro e w1 ⟨rfl, hx1⟩
    rw [Hc.out]
    go_wp2_with fail
    refine (P.out _ hx1).mono ?_
    rintro e w2 ⟨rfl, hx2⟩
    go_wp2_with fail
    go_ret
    exact ⟨rfl, hx1.tr hx2⟩
  · have Hc := hid (chk_no hf)
    rw [deF (p := CapOk f) (fun h => hf h.1)]
    clear hf hv
    go_enter Try.func72, Try.ntmps72
    go_wp2_with fail
    refine C.out.mono ?_
    rintro e w1 ⟨rfl, hx1⟩
    rw [Hc.out]
    go_wp2_with fail
    go_ret
    exact ⟨rfl, hx1⟩

theorem CapFine_any (w : World) (v : Value) (f : List Run) (hv : RunsV w v f) :
    Calls Try.prog 73 #[v] w fun e w' => e = .returned (.bool (decide (CapOk f))) ∧ Ext w w' := by
  have R := hid (fun (W : World) (h : Ext w W) => RunsFine_any W v f (hv.mono h))
  rcases hv with ⟨rfl, a0, c0, rfl, hc0⟩ | ⟨b, off, cap, rfl, h1, h2, h3, h4, h5⟩
  · have hd := hid (deF (p := CapOk []) (fun h => h.1.1))
    rw [deF (p := Fine []) (fun h => h.1)] at R
    go_enter Try.func73, Try.ntmps73
    go_wp2_with fail
    go_loopw [3] (fun i wr => i = .int .i64 0 ∧ wr = w) (fun i _ => 0)
    case atStart => exact ⟨rfl, rfl⟩
    case round =>
      obtain ⟨rfl, rfl⟩ := hrel
      go_wp2_with fail
      refine (R.out _ (Ext.rf _)).mono ?_
      rintro e w1 ⟨rfl, hx⟩
      go_wp2_with fail
      go_ret
      exact ⟨(congrArg (fun b => Ending.returned (.bool b)) hd.out).symm, hx⟩
  · have HE := hid h5
    clear h5
    generalize hn : f.length = n at *
    have Hn := hid hn
    clear hn
    go_enter Try.func73, Try.ntmps73
    go_wp2_with fail
    go_loopw [3] (fun c wr => ∃ k : Nat, c = .int .i64 k ∧ k ≤ n ∧ Hid (∀ j y, j < k → f[j]? = some y → CapNum y.N) ∧ Ext w wr) (fun c _ => n - (intOf c).toNat)
    case atStart => exact ⟨0, rfl, Nat.zero_le _, fun j y hj => absurd hj (Nat.not_lt_zero _), Ext.rf _⟩
    case round =>
      obtain ⟨k, rfl, hk, Hall, hx⟩ := hrel
      by_cases hlt : k < n
      · have hlt' : (k : Int) < (n : Int) := by omega
        obtain ⟨x, hxk⟩ := getE (f := f) (k := k) (by rw [Hn.out]; exact hlt)
        obtain ⟨c1, c2, c3, c4⟩ := HE.out k x hxk
        replace c1 := hx.ce' c1
        replace c2 := hx.ce' c2
        by_cases hc : CapNum x.N
        · have C := hid (fun (W : World) => within_yes x.N 0 50 W hc.1 hc.2)
          have Hall2 := hid (show ∀ j y, j < k + 1 → f[j]? = some y → CapNum y.N from fun j y hj hy => if e : j = k then (by subst e; rw [hxk] at hy; cases hy; exact hc) else Hall.out j y (by omega) hy)
          clear hc hxk Hall
          go_wp2_with fail
          refine (C.out _).mono ?_
          rintro e w1 ⟨rfl, rfl⟩
          go_wp2_with fail
          go_roundw
          case rel => exact ⟨k + 1, by go_num, by omega, Hall2, hx⟩
          case measure => simp [intOf]; omega
        · have C := hid (fun (W : World) => within_no x.N 0 50 W hc)
          have hd := hid (deF (p := CapOk f) (fun h => hc (h.2 x (List.mem_of_getElem? hxk))))
          clear hc hxk Hall
          go_wp2_with fail
          refine (C.out _).mono ?_
          rintro e w1 ⟨rfl, rfl⟩
          go_wp2_with fail
          go_ret
          exact ⟨(congrArg (fun b => Ending.returned (.bool b)) hd.out).symm, hx⟩
      · have hlt' : ¬ (k : Int) < (n : Int) := by omega
        have hd : decide (CapOk f) = decide (Fine f) := by
          have hall : ∀ r ∈ f, CapNum r.N := fun r hr => by
            obtain ⟨j, hj, e⟩ := List.getElem_of_mem hr
            exact Hall.out j r (by have := Hn.out; omega) (by rw [List.getElem?_eq_getElem hj, e])
          by_cases hf : Fine f
          · rw [deT hf, deT (p := CapOk f) ⟨hf, hall⟩]
          · rw [deF hf, deF (p := CapOk f) (fun h => hf h.1)]
        have Hd := hid hd
        clear hd
        go_wp2_with fail
        refine (R.out _ hx).mono ?_
        rintro e w1 ⟨rfl, hx1⟩
        go_wp2_with fail
        go_ret
        exact ⟨(congrArg (fun b => Ending.returned (.bool b)) Hd.out).symm, hx.tr hx1⟩

end Go.Proofs.Ytchblkemofncoaa
