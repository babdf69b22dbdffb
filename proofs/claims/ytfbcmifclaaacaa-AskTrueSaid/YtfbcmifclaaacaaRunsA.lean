/- Walks of package runs: number, Check. -/
import Derived.Test.YtfbcmifclaaacaaProg
import Derived.Test.YtfbcmifclaaacaaRunsB
import Derived.Deep.QuietTactic
import Derived.BigQuiet
import Derived.WalkLawsBesides
import Derived.WalkSpells
set_option linter.unusedVariables false
namespace Go.Proofs.Ytfbcmifclaaacaa
open Go.RowKit

theorem number_yes (n : Int) (w : World) (h : NumOk n) : Calls Try.prog 69 #[.int .i64 n] w fun e w' => e = .returned (.bool true) ∧ w' = w := by
  obtain ⟨h1, h2⟩ := h
  go_enter Try.func69, Try.ntmps69
  go_wp2
  go_ret
  exact ⟨rfl, rfl⟩

theorem number_no (n : Int) (w : World) (h : ¬ NumOk n) : Calls Try.prog 69 #[.int .i64 n] w fun e w' => e = .returned (.bool false) ∧ w' = w := by
  by_cases h1 : -1048576 ≤ n
  · have h2 : ¬ n ≤ 1048576 := fun h2 => h ⟨h1, h2⟩
    clear h
    go_enter Try.func69, Try.ntmps69
    go_wp2
    go_ret
    exact ⟨rfl, rfl⟩
  · clear h
    go_enter Try.func69, Try.ntmps69
    go_wp2
    go_ret
    exact ⟨rfl, rfl⟩


/-- Check's error -/
@[irreducible] def chk (f : List Run) : Int := if Fine f then 0 else 1
theorem chk_yes {f : List Run} (h : Fine f) : chk f = 0 := by unfold chk; rw [if_pos h]
theorem chk_no {f : List Run} (h : ¬ Fine f) : chk f = 1 := by unfold chk; rw [if_neg h]


theorem okAt_snoc {f : List Run} {k : Nat} (h : ∀ j, j < k → okAt f j) (hk : okAt f k) : ∀ j, j < k + 1 → okAt f j := fun j hj => by
  by_cases e : j = k
  · subst e; exact hk
  · exact h j (by omega)


set_option maxHeartbeats 2000000 in
theorem Check_some (w : World) (b off cap : Nat) (f : List Run) (hcap : f.length ≤ cap) (hm : cap ≤ 9223372036854775807) (hl : f.length ≤ 17592186044416) (hb : b < w.heap.size)
    (hE : ∀ k x, f[k]? = some x → ERun w b (off + k * 2) x) (h0 : 0 < f.length) :
    Calls Try.prog 38 #[.slice (some ⟨b, off, none⟩) f.length cap] w fun e w' => e = .returned (.int .i64 (chk f)) ∧ Ext w w' := by
  obtain ⟨x0, hx0⟩ := getE h0
  have e0 := hE 0 x0 hx0
  obtain ⟨e1, e2, e3, e4⟩ := e0
  simp only [Nat.zero_mul, Nat.add_zero] at e1 e2
  have hne : ((f.length : Int) == 0) = false := eqF (by omega)
  generalize hn : f.length = n at *
  have Hn := hid hn
  clear hn
  by_cases hz : x0.At = 0
  · have hz1 : (x0.At != 0) = false := neF hz
    have Hz := hid hz
    clear hz
    go_enter Try.func38, Try.ntmps38
    go_wp2
    go_loopw [17] (fun c wr => ∃ k : Nat, k ≤ n ∧ c = .int .i64 k ∧ (∀ j, j < k → okAt f j) ∧ Ext w wr) (fun c _ => n - (intOf c).toNat)
    case atStart => exact ⟨0, Nat.zero_le _, rfl, fun j hj => absurd hj (Nat.not_lt_zero _), Ext.rf _⟩
    case round =>
      obtain ⟨k, hk, rfl, hok, hx⟩ := hrel
      have Hok := hid hok
      clear hok
      have hbw : b < wr.heap.size := Nat.lt_of_lt_of_le hb hx.size
      by_cases hlt : k < n
      · obtain ⟨x, hxk⟩ := getE (f := f) (k := k) (by rw [Hn.out]; exact hlt)
        obtain ⟨c1, c2, c3, c4⟩ := hE k x hxk
        replace c1 := hx.ce' c1
        replace c2 := hx.ce' c2
        have Hx := hid hxk
        clear hxk
        have qc : ∀ n (w : World), n = x.N → Calls Try.prog 69 #[.int .i64 n] w fun e w' => e = .returned (.bool (decide (NumOk x.N))) ∧ w' = w := fun n w e => by
          subst e
          by_cases h : NumOk x.N
          · rw [deT h]; exact number_yes _ _ h
          · rw [deF h]; exact number_no _ _ h
        have Qc := hid qc
        clear qc
        go_wp2
        by_cases t1 : 48 ≤ x.At
        · have no : ¬ okAt f k := fun h => by have := h.1; rw [curAt_some Hx.out] at this; omega
          have hc : chk f = 1 := chk_no (fun h => no ((fine_iff.1 h).2.2 k (by rw [Hn.out]; exact hlt)))
          have Hc := hid hc
          clear hc
          go_quiet (fail)
          go_wp2
          go_ret
          exact ⟨ret_int Hc.out.symm, (hx.al _).dn _⟩
        · by_cases t2 : NumOk x.N
          · by_cases t3 : k = 0
            · have hok' : okAt f k := ⟨by rw [curAt_some Hx.out]; omega, by rw [curN_some Hx.out]; exact t2, fun h => by omega⟩
              have Hok' := hid hok'
              clear hok'
              subst t3
              have Q := fun n w e => by have := Qc.out n w e; rw [deT t2] at this; exact this
              have HQ := hid Q
              clear Q
              go_quiet ((go_at_call 69; exact Calls.quiet_of_same (HQ.out _ _ rfl)))
              go_wp2
              go_roundw
              case rel => exact ⟨0 + 1, by omega, by go_num, okAt_snoc Hok.out Hok'.out, (hx.al _).dn _⟩
              case measure => simp [intOf]; omega
            · have hk0 : 0 < k := by omega
              have hk1 : (0 : Int) < (k : Int) := by omega
              obtain ⟨y, hyk⟩ := getE (f := f) (k := k - 1) (by rw [Hn.out]; omega)
              obtain ⟨d1, d2, d3, d4⟩ := hE (k - 1) y hyk
              replace d1 := hx.ce' d1
              replace d2 := hx.ce' d2
              have Hy := hid hyk
              clear hyk
              have Q := fun n w e => by have := Qc.out n w e; rw [deT t2] at this; exact this
              have HQ := hid Q
              clear Q
              by_cases t4 : x.At ≤ y.At
              · have no : ¬ okAt f k := fun h => by have := (h.2.2 hk0).1; rw [curAt_some Hx.out, curAt_some Hy.out] at this; omega
                have hc : chk f = 1 := chk_no (fun h => no ((fine_iff.1 h).2.2 k (by rw [Hn.out]; exact hlt)))
                have Hc := hid hc
                clear hc no
                go_quiet ((go_at_call 69; exact Calls.quiet_of_same (HQ.out _ _ rfl)))
                go_wp2
                go_ret
                exact ⟨ret_int Hc.out.symm, (hx.al _).dn _⟩
              · by_cases t5 : x.N = y.N
                · have no : ¬ okAt f k := fun h => by have := (h.2.2 hk0).2; rw [curN_some Hx.out, curN_some Hy.out] at this; exact this t5
                  have hc : chk f = 1 := chk_no (fun h => no ((fine_iff.1 h).2.2 k (by rw [Hn.out]; exact hlt)))
                  have Hc := hid hc
                  have t6 := eqT t5
                  clear hc no t5
                  go_quiet ((go_at_call 69; exact Calls.quiet_of_same (HQ.out _ _ rfl)))
                  go_wp2
                  go_ret
                  exact ⟨ret_int Hc.out.symm, (hx.al _).dn _⟩
                · have hok' : okAt f k := ⟨by rw [curAt_some Hx.out]; omega, by rw [curN_some Hx.out]; exact t2, fun _ => by rw [curAt_some Hx.out, curN_some Hx.out, curAt_some Hy.out, curN_some Hy.out]; exact ⟨by omega, t5⟩⟩
                  have Hok' := hid hok'
                  have t6 := eqF t5
                  clear hok' t5
                  go_quiet ((go_at_call 69; exact Calls.quiet_of_same (HQ.out _ _ rfl)))
                  go_wp2
                  go_roundw
                  case rel => exact ⟨k + 1, by omega, by go_num, okAt_snoc Hok.out Hok'.out, (hx.al _).dn _⟩
                  case measure => simp [intOf]; omega
          · have no : ¬ okAt f k := fun h => by have := h.2.1; rw [curN_some Hx.out] at this; exact t2 this
            have hc : chk f = 1 := chk_no (fun h => no ((fine_iff.1 h).2.2 k (by rw [Hn.out]; exact hlt)))
            have Hc := hid hc
            have Q := fun n w e => by have := Qc.out n w e; rw [deF t2] at this; exact this
            have HQ := hid Q
            clear Q hc no
            go_quiet ((go_at_call 69; exact Calls.quiet_of_same (HQ.out _ _ rfl)))
            go_wp2
            go_ret
            exact ⟨ret_int Hc.out.symm, (hx.al _).dn _⟩
      · go_wp2
        go_ret
        have hc : chk f = 0 := chk_yes (fine_iff.2 ⟨by rw [Hn.out]; exact h0, by rw [curAt_some hx0]; exact Hz.out, fun j hj => Hok.out j (by rw [Hn.out] at hj; omega)⟩)
        exact ⟨ret_int hc.symm, hx⟩
  · have hz1 : (x0.At != 0) = true := neT hz
    have hc : chk f = 1 := chk_no (fun h => hz (by rw [← curAt_some hx0]; exact (fine_iff.1 h).2.1))
    have Hc := hid hc
    clear hc
    go_enter Try.func38, Try.ntmps38
    go_wp2
    go_ret
    exact ⟨ret_int Hc.out.symm, Ext.rf _⟩

end Go.Proofs.Ytfbcmifclaaacaa
