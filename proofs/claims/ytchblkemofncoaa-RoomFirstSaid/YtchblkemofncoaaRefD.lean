/- Walks of the references: PlusOf, MinusOf, LesserOf, BumpOf, ValueOf, LeastOf, SameRuns. -/
import Derived.Test.YtchblkemofncoaaRefC
import Derived.Test.YtchblkemofncoaaRunsF
import Derived.Shelf.Abstract
import Derived.Laws.PanicsMore
set_option linter.unusedVariables false
namespace Go.Proofs.Ytchblkemofncoaa
open Go.RowKit

theorem numI {n : Int} (h : NumOk n) : -1000000000 ≤ n ∧ n ≤ 1000000000 := ⟨by have := h.1; omega, by have := h.2; omega⟩

theorem plus2 (a b : Int) (w : World) (ha : -1000000000 ≤ a) (ha' : a ≤ 1000000000) (hb : -1000000000 ≤ b) (hb' : b ≤ 1000000000) : Calls Try.prog 97 #[.int .i64 a, .int .i64 b] w fun e w' => e = .returned (.int .i64 (a + b)) ∧ w' = w := by
  go_enter Try.func97, Try.ntmps97
  go_wp2
  go_ret
  exact ⟨rfl, rfl⟩

theorem minus2 (a b : Int) (w : World) (ha : -1000000000 ≤ a) (ha' : a ≤ 1000000000) (hb : -1000000000 ≤ b) (hb' : b ≤ 1000000000) : Calls Try.prog 98 #[.int .i64 a, .int .i64 b] w fun e w' => e = .returned (.int .i64 (a - b)) ∧ w' = w := by
  go_enter Try.func98, Try.ntmps98
  go_wp2
  go_ret
  exact ⟨rfl, rfl⟩

theorem lesser2 (a b : Int) (w : World) : Calls Try.prog 99 #[.int .i64 a, .int .i64 b] w fun e w' => e = .returned (.int .i64 (min a b)) ∧ w' = w := by
  by_cases h : b < a
  · rw [show min a b = b by omega]
    go_enter Try.func99, Try.ntmps99
    go_wp2
    go_ret
    exact ⟨rfl, rfl⟩
  · rw [show min a b = a by omega]
    go_enter Try.func99, Try.ntmps99
    go_wp2
    go_ret
    exact ⟨rfl, rfl⟩

theorem PlusOf_any (w : World) (vf vg : Value) (f g : List Run) (hf : RunsV w vf f) (hg : RunsV w vg g) :
    Calls Try.prog 48 #[vf, vg] w (RetRuns2 w (bothR f g (fun a b => a + b))) := by
  have B := hid (both_any w vf vg f g 97 (fun a b => a + b) hf hg (enters_of Try.func97 (by kernel_rfl) rfl)
    (fun a b ha hb => ⟨I64.of (by have := ha.1; have := hb.1; have := ha.2; have := hb.2; omega) (by have := ha.1; have := hb.1; have := ha.2; have := hb.2; omega), fun w => plus2 a b w (numI ha).1 (numI ha).2 (numI hb).1 (numI hb).2⟩))
  clear hf hg
  generalize bothR f g (fun a b => a + b) = r at *
  go_enter Try.func48, Try.ntmps48
  go_wp2_with fail
  refine B.out.mono ?_
  rintro e w1 ⟨v, rfl, hv, hx1⟩
  go_wp2_with fail
  go_ret2
  exact ⟨v, rfl, hv, hx1⟩

theorem MinusOf_any (w : World) (vf vg : Value) (f g : List Run) (hf : RunsV w vf f) (hg : RunsV w vg g) :
    Calls Try.prog 49 #[vf, vg] w (RetRuns2 w (bothR f g (fun a b => a - b))) := by
  have B := hid (both_any w vf vg f g 98 (fun a b => a - b) hf hg (enters_of Try.func98 (by kernel_rfl) rfl)
    (fun a b ha hb => ⟨I64.of (by have := ha.1; have := hb.1; have := ha.2; have := hb.2; omega) (by have := ha.1; have := hb.1; have := ha.2; have := hb.2; omega), fun w => minus2 a b w (numI ha).1 (numI ha).2 (numI hb).1 (numI hb).2⟩))
  clear hf hg
  generalize bothR f g (fun a b => a - b) = r at *
  go_enter Try.func49, Try.ntmps49
  go_wp2_with fail
  refine B.out.mono ?_
  rintro e w1 ⟨v, rfl, hv, hx1⟩
  go_wp2_with fail
  go_ret2
  exact ⟨v, rfl, hv, hx1⟩

theorem LesserOf_any (w : World) (vf vg : Value) (f g : List Run) (hf : RunsV w vf f) (hg : RunsV w vg g) :
    Calls Try.prog 50 #[vf, vg] w (RetRuns2 w (bothR f g (fun a b => min a b))) := by
  have B := hid (both_any w vf vg f g 99 (fun a b => min a b) hf hg (enters_of Try.func99 (by kernel_rfl) rfl)
    (fun a b ha hb => ⟨I64.of (by have := ha.1; have := hb.1; have := ha.2; have := hb.2; omega) (by have := ha.1; have := hb.1; have := ha.2; have := hb.2; omega), fun w => lesser2 a b w⟩))
  clear hf hg
  generalize bothR f g (fun a b => min a b) = r at *
  go_enter Try.func50, Try.ntmps50
  go_wp2_with fail
  refine B.out.mono ?_
  rintro e w1 ⟨v, rfl, hv, hx1⟩
  go_wp2_with fail
  go_ret2
  exact ⟨v, rfl, hv, hx1⟩

theorem run_index_tab (x : Nat → Int) (k : Nat) (hk : k < 48) (w : World) : (Instr.index 99 (.agg (tab x)) (.int .i64 k)).run Try.prog w = .ok (.int .i64 (x k)) w := by
  have hn : (0 ≤ (k : Int) ∧ (k : Int) < (48 : Nat)) := by omega
  have hg := tab_get (x := x) hk
  simp [Instr.index, run_underlying Try.underlying99, asIntOf, hn, go_sem, hg]
  omega

set_option maxRecDepth 100000 in
set_option maxHeartbeats 1000000 in
theorem ValueOf_any (w : World) (v : Value) (f : List Run) (t : Int) (hv : RunsV w v f) :
    Calls Try.prog 37 #[v, .int .i64 t] w fun e w' => e = .returned (.tuple #[.int .i64 (valueR f t).1, .int .i64 (valueR f t).2]) ∧ Ext w w' := by
  have C := hid (RunsFine_any w v f hv)
  by_cases hf : Fine f
  · rw [deT hf] at C
    by_cases ht : 0 ≤ t ∧ t < 48
    · have hr : valueR f t = (sp f t.toNat, 0) := by unfold valueR; rw [if_pos hf, if_pos ht]
      have A := hid (fun (W : World) (h : Ext w W) => spread_any W v f (hv.mono h) hf.1)
      have S := hid (fun (W : World) => isTime_yes t W ht.1 (by omega))
      obtain ⟨k, rfl⟩ : ∃ k : Nat, t = k := ⟨t.toNat, by omega⟩
      have hk : k < 48 := by omega
      rw [hr]
      clear hr ht hf hv
      simp only [Int.toNat_natCast]
      generalize sp f = x at *
      have hg := fun w => run_index_tab x k hk w
      go_enter Try.func37, Try.ntmps37
      go_wp2_with fail
      refine C.out.mono ?_
      rintro e w1 ⟨rfl, hx1⟩
      go_wp2_with fail
      refine (S.out _).mono ?_
      rintro e w2 ⟨rfl, rfl⟩
      go_wp2_with fail
      refine (A.out _ hx1).mono ?_
      rintro e w2 ⟨rfl, hx2⟩
      go_wp2_with fail
      go_ret2
      exact ⟨rfl, hx1.tr hx2⟩
    · have hr : valueR f t = (0, 3) := by unfold valueR; rw [if_pos hf, if_neg ht]
      have S := hid (fun (W : World) => isTime_no t W (fun h => ht ⟨h.1, by omega⟩))
      rw [hr]
      clear hr ht hf hv
      go_enter Try.func37, Try.ntmps37
      go_wp2_with fail
      refine C.out.mono ?_
      rintro e w1 ⟨rfl, hx1⟩
      go_wp2_with fail
      refine (S.out _).mono ?_
      rintro e w2 ⟨rfl, rfl⟩
      go_wp2_with fail
      go_ret2
      exact ⟨rfl, hx1⟩
  · rw [deF hf] at C
    have hr : valueR f t = (0, 1) := by unfold valueR; rw [if_neg hf]
    rw [hr]
    clear hr hf hv
    go_enter Try.func37, Try.ntmps37
    go_wp2_with fail
    refine C.out.mono ?_
    rintro e w1 ⟨rfl, hx1⟩
    go_wp2_with fail
    go_ret2
    exact ⟨rfl, hx1⟩

/-- the least so far -/
def loAt (x : Nat → Int) (a k : Nat) : Int := lo x a (k - a - 1)
theorem loAt_start (x : Nat → Int) (a : Nat) : loAt x a a = x a := by simp [loAt, lo]
theorem loAt_first (x : Nat → Int) (a : Nat) : loAt x a (a + 1) = x a := by simp [loAt, lo]
theorem loAt_step (x : Nat → Int) {a k : Nat} (h : a ≤ k) : loAt x a (k + 1) = min (loAt x a k) (x k) := by
  unfold loAt
  by_cases e : k = a
  · subst e; simp [lo]
  · rw [show k + 1 - a - 1 = (k - a - 1) + 1 by omega]
    simp only [lo]
    rw [show a + (k - a - 1) + 1 = k by omega]

set_option maxRecDepth 100000 in
set_option maxHeartbeats 1000000 in
theorem LeastOf_any (w : World) (v : Value) (f : List Run) (a b : Int) (hv : RunsV w v f) :
    Calls Try.prog 38 #[v, .int .i64 a, .int .i64 b] w fun e w' => e = .returned (.tuple #[.int .i64 (leastR f a b).1, .int .i64 (leastR f a b).2]) ∧ Ext w w' := by
  have C := hid (RunsFine_any w v f hv)
  by_cases hf : Fine f
  · rw [deT hf] at C
    by_cases ht : 0 ≤ a ∧ a < b ∧ b ≤ 48
    · have hr : leastR f a b = (lowT (sp f) a.toNat b.toNat, 0) := by unfold leastR; rw [if_pos hf, if_pos ht]
      have A := hid (fun (W : World) (h : Ext w W) => spread_any W v f (hv.mono h) hf.1)
      have S := hid (fun (W : World) => span_yes a b W ht.1 ht.2.1 ht.2.2)
      obtain ⟨i, rfl⟩ : ∃ k : Nat, a = k := ⟨a.toNat, by omega⟩
      obtain ⟨j, rfl⟩ : ∃ k : Nat, b = k := ⟨b.toNat, by omega⟩
      have hij : i < j := by omega
      have hj : j ≤ 48 := by omega
      rw [hr]
      clear hr ht hf hv
      simp only [Int.toNat_natCast]
      generalize sp f = x at *
      go_enter Try.func38, Try.ntmps38
      go_wp2_with fail
      refine C.out.mono ?_
      rintro e w1 ⟨rfl, hx1⟩
      go_wp2_with fail
      refine (S.out _).mono ?_
      rintro e w2 ⟨rfl, rfl⟩
      go_wp2_with fail
      refine (A.out _ hx1).mono ?_
      rintro e w2 ⟨rfl, hx2⟩
      replace hx2 := hx1.tr hx2
      have hA : TabAt 99 (w2.alloc (.cells (tab fun _ => 0) 99)) w2.heap.size (fun _ => 0) := TabAt.new w2 (fun _ => 0)
      have hA1 := hA.row x
      have hcl := hA1.cell (t := i) (by omega)
      have Hx := hid ((hx2.al (.cells (tab fun _ => 0) 99)).sr hx2.size (tab x))
      have HA := hid hA1
      clear hA1
      go_wp2_with (first
        | (simp only [tab_zero]; refine wpList_store_row rfl 99 _ _ rfl w2.heap.size (tab x) rfl rfl 99 (tab fun _ => 0) hA (by rw [tab_size]; exact Try.size99) (by rw [tab_size, tab_size]) (tab_one _) ?_))
      clear hA hcl
      go_loopw [9, 10] (fun n c wr => ∃ k : Nat, c = .int .i64 k ∧ n = .int .i64 (loAt x i k) ∧ i ≤ k ∧ k ≤ j ∧ Hid (TabAt 99 wr w2.heap.size x) ∧ Ext w wr) (fun _ c _ => j - (intOf c).toNat)
      case atStart => exact ⟨i, rfl, by rw [loAt_start], Nat.le_refl _, by omega, HA, Hx.out⟩
      case round =>
        obtain ⟨k, rfl, rfl, hik, hkj, HT, hx⟩ := hrel
        by_cases hlt : k < j
        · have hlt' : (k : Int) < (j : Int) := by omega
          have hcl := HT.out.cell (t := k) (by omega)
          have hst := loAt_step x hik
          have Hs := hid hst
          clear hst
          generalize hm : loAt x i k = m at *
          have Hm := hid hm
          clear hm
          by_cases hq : x k < m
          · have hmn : min m (x k) = x k := by omega
            rw [hmn] at Hs
            clear hmn
            go_wp2_with fail
            go_roundw
            case rel => exact ⟨k + 1, by go_num, by rw [Hs.out], by omega, by omega, HT, hx⟩
            case measure => simp [intOf]; omega
          · have hmn : min m (x k) = m := by omega
            rw [hmn] at Hs
            clear hmn
            go_wp2_with fail
            go_roundw
            case rel => exact ⟨k + 1, by go_num, by rw [Hs.out], by omega, by omega, HT, hx⟩
            case measure => simp [intOf]; omega
        · have hlt' : ¬ (k : Int) < (j : Int) := by omega
          obtain rfl : k = j := by omega
          go_wp2_with fail
          go_ret2
          exact ⟨rfl, hx⟩
    · have hr : leastR f a b = (0, 3) := by unfold leastR; rw [if_pos hf, if_neg ht]
      have S := hid (fun (W : World) => span_no a b W ht)
      rw [hr]
      clear hr ht hf hv
      go_enter Try.func38, Try.ntmps38
      go_wp2_with fail
      refine C.out.mono ?_
      rintro e w1 ⟨rfl, hx1⟩
      go_wp2_with fail
      refine (S.out _).mono ?_
      rintro e w2 ⟨rfl, rfl⟩
      go_wp2_with fail
      go_ret2
      exact ⟨rfl, hx1⟩
  · rw [deF hf] at C
    have hr : leastR f a b = (0, 1) := by unfold leastR; rw [if_neg hf]
    rw [hr]
    clear hr hf hv
    go_enter Try.func38, Try.ntmps38
    go_wp2_with fail
    refine C.out.mono ?_
    rintro e w1 ⟨rfl, hx1⟩
    go_wp2_with fail
    go_ret2
    exact ⟨rfl, hx1⟩

theorem hillT_in {a b t : Nat} {n : Int} (h1 : a ≤ t) (h2 : t < b) : hillT a b n t = n := by unfold hillT; rw [if_pos ⟨h1, h2⟩]
theorem hillT_out {a b t : Nat} {n : Int} (h : ¬ (a ≤ t ∧ t < b)) : hillT a b n t = 0 := by unfold hillT; rw [if_neg h]
theorem mixB_start (x : Nat → Int) (a b : Nat) (n : Int) : mixT (fun t => x t + hillT a b n t) x a = x := by
  funext s; unfold mixT
  by_cases h : s < a
  · rw [if_pos h]; show x s + hillT a b n s = x s; rw [hillT_out (by omega)]; omega
  · rw [if_neg h]
theorem mixB_end (x : Nat → Int) (a b : Nat) (n : Int) : mixT (fun t => x t + hillT a b n t) x b = fun t => x t + hillT a b n t := by
  funext s; unfold mixT
  by_cases h : s < b
  · rw [if_pos h]
  · rw [if_neg h, hillT_out (by omega)]; omega

set_option maxRecDepth 100000 in
set_option maxHeartbeats 1000000 in
theorem BumpOf_any (w : World) (v : Value) (f : List Run) (a b n : Int) (hv : RunsV w v f) :
    Calls Try.prog 43 #[v, .int .i64 a, .int .i64 b, .int .i64 n] w (RetRuns2 w (bumpR f a b n)) := by
  have C := hid (RunsFine_any w v f hv)
  by_cases hf : Fine f
  · rw [deT hf] at C
    by_cases ht : 0 ≤ a ∧ a < b ∧ b ≤ 48
    · have S := hid (fun (W : World) => span_yes a b W ht.1 ht.2.1 ht.2.2)
      by_cases hn : NumOk n
      · have hr : bumpR f a b n = toldT (fun t => sp f t + hillT a.toNat b.toNat n t) := by unfold bumpR; rw [if_pos hf, if_pos ⟨ht, hn⟩]
        have A := hid (fun (W : World) (h : Ext w W) => spread_any W v f (hv.mono h) hf.1)
        have M := hid (fun (W : World) => within_yes n (-1048576) 1048576 W hn.1 hn.2)
        have T := hid (fun (W : World) => toldRef_any W (fun t => sp f t + hillT a.toNat b.toNat n t) (fun t h48 => by
          have h1 := fine_sp hf h48
          have h2 := hn.1
          have h3 := hn.2
          unfold hillT
          split
          · exact I64.of (by have := h1.1; omega) (by have := h1.2; omega)
          · exact I64.of (by have := h1.1; omega) (by have := h1.2; omega)))
        have HF := hid (fun (t : Nat) (h48 : t < 48) => fine_sp hf h48)
        obtain ⟨i, rfl⟩ : ∃ k : Nat, a = k := ⟨a.toNat, by omega⟩
        obtain ⟨j, rfl⟩ : ∃ k : Nat, b = k := ⟨b.toNat, by omega⟩
        have hij : i < j := by omega
        have hj : j ≤ 48 := by omega
        have hn1 := hn.1
        have hn2 := hn.2
        rw [hr]
        clear hr ht hf hv hn
        simp only [Int.toNat_natCast] at *
        generalize sp f = x at *
        go_enter Try.func43, Try.ntmps43
        go_wp2_with fail
        refine C.out.mono ?_
        rintro e w1 ⟨rfl, hx1⟩
        go_wp2_with fail
        refine (S.out _).mono ?_
        rintro e w2 ⟨rfl, rfl⟩
        go_wp2_with fail
        refine (M.out _).mono ?_
        rintro e w2 ⟨rfl, rfl⟩
        go_wp2_with fail
        refine (A.out _ hx1).mono ?_
        rintro e w2 ⟨rfl, hx2⟩
        replace hx2 := hx1.tr hx2
        have hA : TabAt 99 (w2.alloc (.cells (tab fun _ => 0) 99)) w2.heap.size (fun _ => 0) := TabAt.new w2 (fun _ => 0)
        have hA1 := hA.row x
        have Hx := hid ((hx2.al (.cells (tab fun _ => 0) 99)).sr hx2.size (tab x))
        have HA := hid hA1
        clear hA1
        go_wp2_with (first
          | (simp only [tab_zero]; refine wpList_store_row rfl 99 _ _ rfl w2.heap.size (tab x) rfl rfl 99 (tab fun _ => 0) hA (by rw [tab_size]; exact Try.size99) (by rw [tab_size, tab_size]) (tab_one _) ?_))
        clear hA
        go_loopw [11] (fun c wr => ∃ k : Nat, c = .int .i64 k ∧ i ≤ k ∧ k ≤ j ∧ Hid (TabAt 99 wr w2.heap.size (mixT (fun t => x t + hillT i j n t) x k)) ∧ Ext w wr) (fun c _ => j - (intOf c).toNat)
        case atStart => exact ⟨i, rfl, Nat.le_refl _, by omega, by rw [mixB_start]; exact HA, Hx.out⟩
        case round =>
          obtain ⟨k, rfl, hik, hkj, HT, hx⟩ := hrel
          by_cases hlt : k < j
          · have hlt' : (k : Int) < (j : Int) := by omega
            have hcl := HT.out.cell (t := k) (by omega)
            rw [mixT_at] at hcl
            have hfr := HT.out.free k
            have hfk := HF.out k (by omega)
            have hb1 := hfk.1
            have hb2 := hfk.2
            have hin := hid (hillT_in (n := n) hik hlt)
            clear hfk
            go_wp2_with fail
            go_roundw
            case rel => exact ⟨k + 1, by go_num, by omega, by omega, hid (by have := HT.out.set (t := k) (by omega) (x k + n); rw [← mixT_step, hin.out]; exact this), hx.se hx2.size _⟩
            case measure => simp [intOf]; omega
          · have hlt' : ¬ (k : Int) < (j : Int) := by omega
            obtain rfl : k = j := by omega
            have hT : TabAt 99 wr w2.heap.size (fun t => x t + hillT i k n t) := by have := HT.out; rwa [mixB_end] at this
            go_wp2_with (first | (refine wpList_load_row rfl 99 _ rfl w2.heap.size rfl 99 (tab fun t => x t + hillT i k n t) (0, 0) _ hT Try.underlying99 rfl (by rw [tab_size]; exact Try.size99) ?_))
            refine (T.out _).mono ?_
            rintro e w1 ⟨v, rfl, hv, hx1⟩
            go_wp2_with fail
            go_ret2
            exact ⟨v, rfl, hv, hx.tr hx1⟩
      · have hr : bumpR f a b n = ([], 3) := by unfold bumpR; rw [if_pos hf, if_neg (fun h => hn h.2)]
        have M := hid (fun (W : World) => within_no n (-1048576) 1048576 W hn)
        rw [hr]
        clear hr ht hf hv hn
        go_enter Try.func43, Try.ntmps43
        go_wp2_with fail
        refine C.out.mono ?_
        rintro e w1 ⟨rfl, hx1⟩
        go_wp2_with fail
        refine (S.out _).mono ?_
        rintro e w2 ⟨rfl, rfl⟩
        go_wp2_with fail
        refine (M.out _).mono ?_
        rintro e w2 ⟨rfl, rfl⟩
        go_wp2_with fail
        go_ret2
        exact ⟨.slice none 0 0, rfl, SV.nil, hx1⟩
    · have hr : bumpR f a b n = ([], 3) := by unfold bumpR; rw [if_pos hf, if_neg (fun h => ht h.1)]
      have S := hid (fun (W : World) => span_no a b W ht)
      rw [hr]
      clear hr ht hf hv
      go_enter Try.func43, Try.ntmps43
      go_wp2_with fail
      refine C.out.mono ?_
      rintro e w1 ⟨rfl, hx1⟩
      go_wp2_with fail
      refine (S.out _).mono ?_
      rintro e w2 ⟨rfl, rfl⟩
      go_wp2_with fail
      go_ret2
      exact ⟨.slice none 0 0, rfl, SV.nil, hx1⟩
  · rw [deF hf] at C
    have hr : bumpR f a b n = ([], 1) := by unfold bumpR; rw [if_neg hf]
    rw [hr]
    clear hr hf hv
    go_enter Try.func43, Try.ntmps43
    go_wp2_with fail
    refine C.out.mono ?_
    rintro e w1 ⟨rfl, hx1⟩
    go_wp2_with fail
    go_ret2
    exact ⟨.slice none 0 0, rfl, SV.nil, hx1⟩

theorem same_some (w : World) (fb fo fc gb go gc : Nat) (f g : List Run) (hl : f.length = g.length) (hf : ∀ k x, f[k]? = some x → ERun w fb (fo + k * 2) x) (hg : ∀ k x, g[k]? = some x → ERun w gb (go + k * 2) x) (hn : f.length ≤ 17592186044416) :
    Calls Try.prog 44 #[.slice (some ⟨fb, fo, none⟩) f.length fc, .slice (some ⟨gb, go, none⟩) g.length gc] w fun e w' => e = .returned (.bool (decide (f = g))) ∧ Ext w w' := by
  have HF := hid hf
  have HG := hid hg
  have Hl := hid hl
  clear hf hg
  generalize hm : g.length = m at *
  generalize hk : f.length = n at *
  have Hn := hid hk
  have Hm := hid hm
  subst hl
  clear hk hm
  go_enter Try.func44, Try.ntmps44
  go_wp2_with fail
  go_loopw [5] (fun c wr => ∃ k : Nat, c = .int .i64 k ∧ k ≤ n ∧ Hid (∀ j, j < k → f[j]? = g[j]?) ∧ Ext w wr) (fun c _ => n - (intOf c).toNat)
  case atStart => exact ⟨0, rfl, by omega, fun j hj => absurd hj (Nat.not_lt_zero _), Ext.rf w⟩
  case round =>
    obtain ⟨k, rfl, hk, He, hx⟩ := hrel
    by_cases hlt : k < n
    · have hlt' : (k : Int) < (n : Int) := by omega
      obtain ⟨x, hxk⟩ := getE (f := f) (k := k) (by rw [Hn.out]; exact hlt)
      obtain ⟨y, hyk⟩ := getE (f := g) (k := k) (by rw [Hm.out]; exact hlt)
      obtain ⟨c1, c2, c3, c4⟩ := HF.out k x hxk
      obtain ⟨d1, d2, d3, d4⟩ := HG.out k y hyk
      replace c1 := hx.ce' c1
      replace c2 := hx.ce' c2
      replace d1 := hx.ce' d1
      replace d2 := hx.ce' d2
      by_cases ha : x.At = y.At
      · by_cases hb : x.N = y.N
        · have h1 := eqT ha
          have h2 := eqT hb
          have he : x = y := by cases x; cases y; simp_all
          have Hxy := hid (hxk.trans ((congrArg some he).trans hyk.symm))
          clear he hxk hyk ha hb
          go_wp2_with fail
          go_quiet (fail)
          go_wp2_with fail
          go_roundw
          case rel => exact ⟨k + 1, by go_num, by omega, hid (fun j hj => if e : j = k then e ▸ Hxy.out else He.out j (by omega)), hx.dn _⟩
          case measure => simp [intOf]; omega
        · have h1 := eqT ha
          have h2 := eqF hb
          have hfg : f ≠ g := fun h => hb (congrArg Run.N (Option.some.inj (hxk.symm.trans (h ▸ hyk))))
          have Hfg := hid (deF hfg)
          clear hxk hyk ha hb hfg
          go_wp2_with fail
          go_quiet (fail)
          go_wp2_with fail
          go_ret
          exact ⟨(congrArg (fun b => Ending.returned (.bool b)) Hfg.out).symm, hx.dn _⟩
      · have h1 := eqF ha
        have hfg : f ≠ g := fun h => ha (congrArg Run.At (Option.some.inj (hxk.symm.trans (h ▸ hyk))))
        have Hfg := hid (deF hfg)
        clear hxk hyk ha hfg
        go_wp2_with fail
        go_quiet (fail)
        go_wp2_with fail
        go_ret
        exact ⟨(congrArg (fun b => Ending.returned (.bool b)) Hfg.out).symm, hx.dn _⟩
    · have hlt' : ¬ (k : Int) < (n : Int) := by omega
      obtain rfl : k = n := by omega
      have hfg : f = g := by
        apply List.ext_getElem?
        intro j
        by_cases hj : j < k
        · exact He.out j hj
        · rw [List.getElem?_eq_none (by rw [Hn.out]; omega), List.getElem?_eq_none (by rw [Hm.out]; omega)]
      have Hr := hid (deT hfg)
      go_wp2_with fail
      go_ret
      exact ⟨rfl, hx⟩

theorem SameRuns_any (w : World) (vf vg : Value) (f g : List Run) (hf : RunsV w vf f) (hg : RunsV w vg g) :
    Calls Try.prog 44 #[vf, vg] w fun e w' => e = .returned (.bool (decide (f = g))) ∧ Ext w w' := by
  have nilc : ∀ (a b : Option Addr) (c d : Nat), Calls Try.prog 44 #[.slice a 0 c, .slice b 0 d] w fun e w' => e = .returned (.bool true) ∧ Ext w w' := by
    intro a b c d
    go_enter Try.func44, Try.ntmps44
    go_wp2_with fail
    go_loopw [5] (fun c wr => c = .int .i64 0 ∧ Ext w wr) (fun c _ => 0)
    case atStart => exact ⟨rfl, Ext.rf w⟩
    case round =>
      obtain ⟨rfl, hx⟩ := hrel
      go_wp2_with fail
      go_ret
      exact ⟨rfl, hx⟩
  have neqc : ∀ (a b : Option Addr) (n m c d : Nat), n ≠ m → Calls Try.prog 44 #[.slice a n c, .slice b m d] w fun e w' => e = .returned (.bool false) ∧ Ext w w' := by
    intro a b n m c d h
    have h' := neT (a := (n : Int)) (b := (m : Int)) (by omega)
    go_enter Try.func44, Try.ntmps44
    go_wp2_with fail
    go_ret
    exact ⟨rfl, Ext.rf w⟩
  by_cases hl : f.length = g.length
  · by_cases h0 : f.length = 0
    · have e1 : f = [] := List.eq_nil_of_length_eq_zero h0
      have e2 : g = [] := List.eq_nil_of_length_eq_zero (by omega)
      subst e1; subst e2
      obtain ⟨a, c, rfl, _⟩ := hf.form
      obtain ⟨b, d, rfl, _⟩ := hg.form
      rw [deT rfl]
      exact nilc a b c d
    · rcases hf with ⟨rfl, a0, c0, rfl, hc0⟩ | ⟨fb, fo, fc, rfl, f1, f2, f3, f4, f5⟩
      · exact absurd rfl h0
      · rcases hg with ⟨rfl, a0, c0, rfl, hc0⟩ | ⟨gb, go, gc, rfl, g1, g2, g3, g4, g5⟩
        · exact absurd hl h0
        · exact same_some w fb fo fc gb go gc f g hl f5 g5 f3
  · rw [deF (fun h => hl (by rw [h]))]
    obtain ⟨a, c, rfl, _⟩ := hf.form
    obtain ⟨b, d, rfl, _⟩ := hg.form
    exact neqc a b _ _ c d hl

end Go.Proofs.Ytchblkemofncoaa
