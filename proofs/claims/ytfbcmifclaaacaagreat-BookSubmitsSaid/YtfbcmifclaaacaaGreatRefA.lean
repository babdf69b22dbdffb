/- Walks of the references: within, isTime, span, RunsFine, SameRuns. -/
import Derived.Test.YtfbcmifclaaacaaGreatRunsB
import Derived.Test.YtfbcmifclaaacaaGreatRunsA
set_option linter.unusedVariables false
namespace Go.Proofs.YtfbcmifclaaacaaGreat
open Go.RowKit

theorem within_yes (n lo hi : Int) (w : World) (h1 : lo ≤ n) (h2 : n ≤ hi) : Calls Tryz.prog 29 #[.int .i64 n, .int .i64 lo, .int .i64 hi] w fun e w' => e = .returned (.bool true) ∧ w' = w := by
  go_enter Tryz.func29, Tryz.ntmps29
  go_wp2
  go_ret
  exact ⟨rfl, rfl⟩

theorem within_no (n lo hi : Int) (w : World) (h : ¬ (lo ≤ n ∧ n ≤ hi)) : Calls Tryz.prog 29 #[.int .i64 n, .int .i64 lo, .int .i64 hi] w fun e w' => e = .returned (.bool false) ∧ w' = w := by
  by_cases h1 : lo ≤ n
  · have h2 : ¬ n ≤ hi := fun h2 => h ⟨h1, h2⟩
    clear h
    go_enter Tryz.func29, Tryz.ntmps29
    go_wp2
    go_ret
    exact ⟨rfl, rfl⟩
  · clear h
    go_enter Tryz.func29, Tryz.ntmps29
    go_wp2
    go_ret
    exact ⟨rfl, rfl⟩

theorem isTime_yes (n : Int) (w : World) (h1 : 0 ≤ n) (h2 : n ≤ 47) : Calls Tryz.prog 30 #[.int .i64 n] w fun e w' => e = .returned (.bool true) ∧ w' = w := by
  go_enter Tryz.func30, Tryz.ntmps30
  go_wp2_with (go_at_call 29; refine (within_yes _ _ _ _ h1 h2).mono ?_; rintro e w' ⟨rfl, rfl⟩)
  go_ret
  exact ⟨rfl, rfl⟩

theorem isTime_no (n : Int) (w : World) (h : ¬ (0 ≤ n ∧ n ≤ 47)) : Calls Tryz.prog 30 #[.int .i64 n] w fun e w' => e = .returned (.bool false) ∧ w' = w := by
  go_enter Tryz.func30, Tryz.ntmps30
  go_wp2_with (go_at_call 29; refine (within_no _ _ _ _ h).mono ?_; rintro e w' ⟨rfl, rfl⟩)
  go_ret
  exact ⟨rfl, rfl⟩

theorem span_yes (a b : Int) (w : World) (h1 : 0 ≤ a) (h2 : a < b) (h3 : b ≤ 48) : Calls Tryz.prog 108 #[.int .i64 a, .int .i64 b] w fun e w' => e = .returned (.bool true) ∧ w' = w := by
  have c1 := hid (within_yes a 0 48 w h1 (by omega))
  have c2 := hid (within_yes b 0 48 w (by omega) h3)
  go_enter Tryz.func108, Tryz.ntmps108
  go_wp2_with fail
  refine c1.out.mono ?_
  rintro e w' ⟨rfl, rfl⟩
  go_wp2_with fail
  refine c2.out.mono ?_
  rintro e w' ⟨rfl, rfl⟩
  go_wp2_with fail
  go_ret
  exact ⟨rfl, rfl⟩

theorem span_no (a b : Int) (w : World) (h : ¬ (0 ≤ a ∧ a < b ∧ b ≤ 48)) : Calls Tryz.prog 108 #[.int .i64 a, .int .i64 b] w fun e w' => e = .returned (.bool false) ∧ w' = w := by
  by_cases h1 : 0 ≤ a ∧ a ≤ 48
  · have c1 := hid (within_yes a 0 48 w h1.1 h1.2)
    by_cases h2 : 0 ≤ b ∧ b ≤ 48
    · have c2 := hid (within_yes b 0 48 w h2.1 h2.2)
      have h3 : ¬ a < b := fun h3 => h ⟨h1.1, h3, h2.2⟩
      clear h h1 h2
      go_enter Tryz.func108, Tryz.ntmps108
      go_wp2_with fail
      refine c1.out.mono ?_
      rintro e w' ⟨rfl, rfl⟩
      go_wp2_with fail
      refine c2.out.mono ?_
      rintro e w' ⟨rfl, rfl⟩
      go_wp2_with fail
      go_ret
      exact ⟨ret_bool (deF (by omega)), rfl⟩
    · have c2 := hid (within_no b 0 48 w h2)
      clear h h1 h2
      go_enter Tryz.func108, Tryz.ntmps108
      go_wp2_with fail
      refine c1.out.mono ?_
      rintro e w' ⟨rfl, rfl⟩
      go_wp2_with fail
      refine c2.out.mono ?_
      rintro e w' ⟨rfl, rfl⟩
      go_wp2_with fail
      go_ret
      exact ⟨rfl, rfl⟩
  · have c1 := hid (within_no a 0 48 w h1)
    clear h h1
    go_enter Tryz.func108, Tryz.ntmps108
    go_wp2_with fail
    refine c1.out.mono ?_
    rintro e w' ⟨rfl, rfl⟩
    go_wp2_with fail
    go_ret
    exact ⟨rfl, rfl⟩

/-- the reference's test at j -/
def okR (f : List Run) (j : Nat) : Prop := (0 ≤ curAt f j ∧ curAt f j ≤ 47) ∧ NumOk (curN f j) ∧ (j = 0 → curAt f j = 0) ∧ (0 < j → curAt f (j - 1) < curAt f j ∧ curN f j ≠ curN f (j - 1))

theorem fine_iffR {f : List Run} : Fine f ↔ 0 < f.length ∧ ∀ j, j < f.length → okR f j := by
  rw [fine_iff]
  constructor
  · rintro ⟨h1, h2, h3⟩
    have pos : ∀ j, j < f.length → 0 ≤ curAt f j := by
      intro j
      induction j with
      | zero => intro _; omega
      | succ j ih => intro hj; have := ih (by omega); have := (h3 (j + 1) hj).2.2 (by omega); simp only [Nat.add_sub_cancel] at this; omega
    refine ⟨h1, fun j hj => ?_⟩
    obtain ⟨k1, k2, k3⟩ := h3 j hj
    exact ⟨⟨pos j hj, by omega⟩, k2, fun e => by subst e; exact h2, k3⟩
  · rintro ⟨h1, h2⟩
    exact ⟨h1, (h2 0 h1).2.2.1 rfl, fun j hj => by
      obtain ⟨k1, k2, k3, k4⟩ := h2 j hj
      exact ⟨by omega, k2, k4⟩⟩

theorem okR_snoc {f : List Run} {k : Nat} (h : ∀ j, j < k → okR f j) (hk : okR f k) : ∀ j, j < k + 1 → okR f j := fun j hj => by
  by_cases e : j = k
  · subst e; exact hk
  · exact h j (by omega)

set_option maxRecDepth 100000 in
set_option maxHeartbeats 4000000 in
theorem RunsFine_some (w : World) (b off cap : Nat) (f : List Run) (hl : f.length ≤ 17592186044416) (hb : b < w.heap.size) (hE : ∀ k x, f[k]? = some x → ERun w b (off + k * 2) x) :
    Calls Tryz.prog 132 #[.slice (some ⟨b, off, none⟩) f.length cap] w fun e w' => e = .returned (.bool (decide (Fine f))) ∧ Ext w w' := by
  have HE := hid hE
  clear hE
  generalize hn : f.length = n at *
  have Hn := hid hn
  clear hn
  go_enter Tryz.func132, Tryz.ntmps132
  go_wp2_with fail
  go_loopw [3] (fun c wr => ∃ k : Nat, k ≤ n ∧ c = .int .i64 k ∧ Hid (∀ j, j < k → okR f j) ∧ Ext w wr) (fun c _ => n - (intOf c).toNat)
  case atStart => exact ⟨0, Nat.zero_le _, rfl, fun j hj => absurd hj (Nat.not_lt_zero _), Ext.rf _⟩
  case round =>
    obtain ⟨k, hk, rfl, Hok, hx⟩ := hrel
    have hbw : b < wr.heap.size := Nat.lt_of_lt_of_le hb hx.size
    by_cases hlt : k < n
    · obtain ⟨x, hxk⟩ := getE (f := f) (k := k) (by rw [Hn.out]; exact hlt)
      obtain ⟨c1, c2, c3, c4⟩ := HE.out k x hxk
      replace c1 := hx.ce' c1
      replace c2 := hx.ce' c2
      have Hx := hid hxk
      clear hxk
      have hlt' : (k : Int) < (n : Int) := by omega
      have bad : ¬ okR f k → decide (Fine f) = false := fun h => decide_eq_false (fun hf => h ((fine_iffR.1 hf).2 k (by rw [Hn.out]; exact hlt)))
      have Bad := hid bad
      clear bad
      by_cases t1 : 0 ≤ x.At ∧ x.At ≤ 47
      · have q1 := fun w => isTime_yes x.At w t1.1 t1.2
        have Q1 := hid q1
        clear q1
        by_cases t2 : NumOk x.N
        · have q2 := fun w => within_yes x.N (-1048576) 1048576 w t2.1 t2.2
          have Q2 := hid q2
          have T12 := hid (And.intro t1 t2)
          clear q2 t1 t2
          by_cases t3 : k = 0
          · subst t3
            simp only [Nat.zero_mul, Nat.add_zero] at c1 c2
            by_cases t4 : x.At = 0
            · have t5 := neF t4
              have Hok' := hid (show okR f 0 from ⟨by rw [curAt_some Hx.out]; exact T12.out.1, by rw [curN_some Hx.out]; exact T12.out.2, fun _ => by rw [curAt_some Hx.out]; exact t4, fun h => absurd h (Nat.lt_irrefl _)⟩)
              clear t4
              go_wp2_with fail
              go_quiet (first | (go_at_call 30; exact Calls.quiet_of_same (Q1.out _)) | (go_at_call 29; exact Calls.quiet_of_same (Q2.out _)))
              go_wp2_with fail
              go_roundw
              case rel => exact ⟨0 + 1, by omega, by go_num, fun j hj => (show j = 0 by omega) ▸ Hok'.out, hx.dn _⟩
              case measure => simp [intOf]; omega
            · have t5 := neT t4
              have Hb := hid (Bad.out (fun h => t4 (by rw [← curAt_some Hx.out]; exact h.2.2.1 rfl)))
              clear t4
              go_wp2_with fail
              go_quiet (first | (go_at_call 30; exact Calls.quiet_of_same (Q1.out _)) | (go_at_call 29; exact Calls.quiet_of_same (Q2.out _)))
              go_wp2_with fail
              go_ret
              exact ⟨ret_bool Hb.out.symm, hx.dn _⟩
          · have hk0 : 0 < k := by omega
            have hk1 : (0 : Int) < (k : Int) := by omega
            have hk2 : ((k : Int) == 0) = false := eqF (by omega)
            obtain ⟨y, hyk⟩ := getE (f := f) (k := k - 1) (by rw [Hn.out]; omega)
            obtain ⟨d1, d2, d3, d4⟩ := HE.out (k - 1) y hyk
            replace d1 := hx.ce' d1
            replace d2 := hx.ce' d2
            have Hy := hid hyk
            clear hyk
            by_cases t4 : x.At ≤ y.At
            · have Hb := hid (Bad.out (fun h => by have := (h.2.2.2 hk0).1; rw [curAt_some Hx.out, curAt_some Hy.out] at this; omega))
              go_wp2_with fail
              go_quiet (first | (go_at_call 30; exact Calls.quiet_of_same (Q1.out _)) | (go_at_call 29; exact Calls.quiet_of_same (Q2.out _)))
              go_wp2_with fail
              go_ret
              exact ⟨ret_bool Hb.out.symm, hx.dn _⟩
            · have t4a := deF t4
              have t4b : y.At < x.At := by omega
              by_cases t5 : y.N = x.N
              · have Hb := hid (Bad.out (fun h => by have := (h.2.2.2 hk0).2; rw [curN_some Hx.out, curN_some Hy.out] at this; exact this t5.symm))
                have t6 := eqT t5
                clear t5
                go_wp2_with fail
                go_quiet (first | (go_at_call 30; exact Calls.quiet_of_same (Q1.out _)) | (go_at_call 29; exact Calls.quiet_of_same (Q2.out _)))
                go_wp2_with fail
                go_ret
                exact ⟨ret_bool Hb.out.symm, hx.dn _⟩
              · have t6 := eqF t5
                have Hok' := hid (show okR f k from ⟨by rw [curAt_some Hx.out]; exact T12.out.1, by rw [curN_some Hx.out]; exact T12.out.2, fun h => by omega, fun _ => by rw [curAt_some Hx.out, curN_some Hx.out, curAt_some Hy.out, curN_some Hy.out]; exact ⟨by omega, fun e => t5 e.symm⟩⟩)
                clear t5
                go_wp2_with fail
                go_quiet (first | (go_at_call 30; exact Calls.quiet_of_same (Q1.out _)) | (go_at_call 29; exact Calls.quiet_of_same (Q2.out _)))
                go_wp2_with fail
                go_roundw
                case rel => exact ⟨k + 1, by omega, by go_num, okR_snoc Hok.out Hok'.out, hx.dn _⟩
                case measure => simp [intOf]; omega
        · have q2 := fun w => within_no x.N (-1048576) 1048576 w t2
          have Q2 := hid q2
          have Hb := hid (Bad.out (fun h => t2 (by rw [← curN_some Hx.out]; exact h.2.1)))
          clear q2 t1 t2
          go_wp2_with fail
          go_quiet (first | (go_at_call 30; exact Calls.quiet_of_same (Q1.out _)) | (go_at_call 29; exact Calls.quiet_of_same (Q2.out _)))
          go_wp2_with fail
          go_ret
          exact ⟨ret_bool Hb.out.symm, hx.dn _⟩
      · have q1 := fun w => isTime_no x.At w t1
        have Q1 := hid q1
        have Hb := hid (Bad.out (fun h => t1 (by rw [← curAt_some Hx.out]; exact h.1)))
        clear q1 t1
        go_wp2_with fail
        go_quiet (first | (go_at_call 30; exact Calls.quiet_of_same (Q1.out _)))
        go_wp2_with fail
        go_ret
        exact ⟨ret_bool Hb.out.symm, hx.dn _⟩
    · have hlt' : ¬ (k : Int) < (n : Int) := by omega
      obtain rfl : k = n := by omega
      by_cases hn0 : 0 < k
      · have hn0' : (0 : Int) < (k : Int) := by omega
        have Hf := hid (decide_eq_true (fine_iffR.2 ⟨by rw [Hn.out]; exact hn0, fun j hj => Hok.out j (by rw [Hn.out] at hj; exact hj)⟩))
        go_wp2_with fail
        go_ret
        exact ⟨ret_bool Hf.out.symm, hx⟩
      · have hn0' : ¬ (0 : Int) < (k : Int) := by omega
        have Hf := hid (decide_eq_false (p := Fine f) (fun h => by have := (fine_iffR.1 h).1; rw [Hn.out] at this; exact hn0 this))
        go_wp2_with fail
        go_ret
        exact ⟨ret_bool Hf.out.symm, hx⟩

/-- RunsFine, whatever comes -/
theorem RunsFine_any (w : World) (v : Value) (f : List Run) (hv : RunsV w v f) : Calls Tryz.prog 132 #[v] w fun e w' => e = .returned (.bool (decide (Fine f))) ∧ Ext w w' := by
  rcases hv with ⟨rfl, a0, c0, rfl, hc0⟩ | ⟨b, off, cap, rfl, h1, h2, h3, h4, h5⟩
  · have hf := hid (decide_eq_false (p := Fine []) (fun h => h.1))
    go_enter Tryz.func132, Tryz.ntmps132
    go_wp2
    go_loopw [3] (fun i wr => i = .int .i64 0 ∧ wr = w) (fun i _ => 0)
    case atStart => exact ⟨rfl, rfl⟩
    case round =>
      obtain ⟨rfl, rfl⟩ := hrel
      go_wp2
      go_ret
      exact ⟨ret_bool hf.out.symm, Ext.rf _⟩
  · exact RunsFine_some w b off cap f h3 h4 h5

end Go.Proofs.YtfbcmifclaaacaaGreat
