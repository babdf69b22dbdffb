/- runs: walks, first part -/
import Derived.Test.YtdcndkojmflhnaaDoorProg
import Derived.Test.YtdcndkojmflhnaaDoorCore
import Derived.Deep.QuietTactic
import Derived.BigQuiet
import Derived.WalkLawsBesides
import Derived.WalkSpells

/- Walks of package runs: Span, At (with slices.BinarySearchFunc), Low, and the function 'next' inside Zip. -/
set_option linter.unusedVariables false
namespace Go.Proofs.YtdcndkojmflhnaaDoor
open Go.RowKit

theorem getE {α : Type} {f : List α} {k : Nat} (h : k < f.length) : ∃ x, f[k]? = some x := ⟨f[k], by simp [h]⟩
theorem curAt_some {f : List Run} {k : Nat} {x : Run} (h : f[k]? = some x) : curAt f k = x.At := by simp [curAt, List.getD, h]
theorem curN_some {f : List Run} {k : Nat} {x : Run} (h : f[k]? = some x) : curN f k = x.N := by simp [curN, List.getD, h]

/-! Span -/
/-! 'next' inside Zip -/
/-! At -/
theorem curAt_mono {f : List Run} (hs : Shape f) {i j : Nat} (hij : i < j) (hj : j < f.length) : curAt f i < curAt f j := by
  induction j with
  | zero => omega
  | succ j ih =>
    have h := shape_idx hs (i := j) (by omega)
    rw [nextAt_lt hj] at h
    by_cases e : i = j
    · subst e; exact h.2.1
    · have := ih (by omega) (by omega); omega

theorem by_lt {f : List Run} (hs : Shape f) {k : Nat} {x : Run} {t : Int} (hx : f[k]? = some x) (hk : k < f.length) (h : x.At < t) : ∀ m, m ≤ k → curAt f m < t := fun m hm => by
  rw [← curAt_some hx] at h
  by_cases e : m = k
  · subst e; exact h
  · have := curAt_mono hs (i := m) (j := k) (by omega) hk; omega

theorem by_ge {f : List Run} (hs : Shape f) {k : Nat} {x : Run} {t : Int} (hx : f[k]? = some x) (h : t ≤ x.At) : ∀ m, k ≤ m → m < f.length → t ≤ curAt f m := fun m hm hmn => by
  rw [← curAt_some hx] at h
  by_cases e : k = m
  · subst e; exact h
  · have := curAt_mono hs (i := k) (j := m) (by omega) hmn; omega

/-- what the search tells -/
def Found (f : List Run) (t : Int) (w : World) (e : Ending) (w' : World) : Prop :=
  ∃ (i : Nat) (b : Bool), e = .returned (.tuple #[.int .i64 i, .bool b]) ∧ i ≤ f.length ∧ (∀ j, j < i → curAt f j < t) ∧ (∀ j, i ≤ j → j < f.length → t ≤ curAt f j) ∧ (b = true ↔ i < f.length ∧ curAt f i = t) ∧ Ext w w'

end Go.Proofs.YtdcndkojmflhnaaDoor

/- Walks of package runs: number, Check. -/
set_option linter.unusedVariables false
namespace Go.Proofs.YtdcndkojmflhnaaDoor
open Go.RowKit

theorem number_yes (n : Int) (w : World) (h : NumOk n) : Calls Tryd.prog 64 #[.int .i64 n] w fun e w' => e = .returned (.bool true) ∧ w' = w := by
  obtain ⟨h1, h2⟩ := h
  go_enter Tryd.func64, Tryd.ntmps64
  go_wp2
  go_ret
  exact ⟨rfl, rfl⟩

theorem number_no (n : Int) (w : World) (h : ¬ NumOk n) : Calls Tryd.prog 64 #[.int .i64 n] w fun e w' => e = .returned (.bool false) ∧ w' = w := by
  by_cases h1 : -1048576 ≤ n
  · have h2 : ¬ n ≤ 1048576 := fun h2 => h ⟨h1, h2⟩
    clear h
    go_enter Tryd.func64, Tryd.ntmps64
    go_wp2
    go_ret
    exact ⟨rfl, rfl⟩
  · clear h
    go_enter Tryd.func64, Tryd.ntmps64
    go_wp2
    go_ret
    exact ⟨rfl, rfl⟩


/-- Check's error -/
@[irreducible] def chk (f : List Run) : Int := if Fine f then 0 else 1
theorem chk_yes {f : List Run} (h : Fine f) : chk f = 0 := by unfold chk; rw [if_pos h]
theorem chk_no {f : List Run} (h : ¬ Fine f) : chk f = 1 := by unfold chk; rw [if_neg h]


theorem okAt_snoc {f : List Run} {k : Nat} (h : ∀ j, j < k → okAt f j) (hk : okAt f k) : ∀ j, j < k + 1 → okAt f j := fun j hj => by
  by_cases e : j = k
  · subst e; exact hk
  · exact h j (by omega)


set_option maxHeartbeats 2000000 in
theorem Check_some (w : World) (b off cap : Nat) (f : List Run) (hcap : f.length ≤ cap) (hm : cap ≤ 9223372036854775807) (hl : f.length ≤ 17592186044416) (hb : b < w.heap.size)
    (hE : ∀ k x, f[k]? = some x → ERun w b (off + k * 2) x) (h0 : 0 < f.length) :
    Calls Tryd.prog 51 #[.slice (some ⟨b, off, none⟩) f.length cap] w fun e w' => e = .returned (.int .i64 (chk f)) ∧ Ext w w' := by
  obtain ⟨x0, hx0⟩ := getE h0
  have e0 := hE 0 x0 hx0
  obtain ⟨e1, e2, e3, e4⟩ := e0
  simp only [Nat.zero_mul, Nat.add_zero] at e1 e2
  have hne : ((f.length : Int) == 0) = false := eqF (by omega)
  generalize hn : f.length = n at *
  have Hn := hid hn
  clear hn
  by_cases hz : x0.At = 0
  · have hz1 : (x0.At != 0) = false := neF hz
    have Hz := hid hz
    clear hz
    go_enter Tryd.func51, Tryd.ntmps51
    go_wp2
    go_loopw [17] (fun c wr => ∃ k : Nat, k ≤ n ∧ c = .int .i64 k ∧ (∀ j, j < k → okAt f j) ∧ Ext w wr) (fun c _ => n - (intOf c).toNat)
    case atStart => exact ⟨0, Nat.zero_le _, rfl, fun j hj => absurd hj (Nat.not_lt_zero _), Ext.rf _⟩
    case round =>
      obtain ⟨k, hk, rfl, hok, hx⟩ := hrel
      have Hok := hid hok
      clear hok
      have hbw : b < wr.heap.size := Nat.lt_of_lt_of_le hb hx.size
      by_cases hlt : k < n
      · obtain ⟨x, hxk⟩ := getE (f := f) (k := k) (by rw [Hn.out]; exact hlt)
        obtain ⟨c1, c2, c3, c4⟩ := hE k x hxk
        replace c1 := hx.ce' c1
        replace c2 := hx.ce' c2
        have Hx := hid hxk
        clear hxk
        have qc : ∀ n (w : World), n = x.N → Calls Tryd.prog 64 #[.int .i64 n] w fun e w' => e = .returned (.bool (decide (NumOk x.N))) ∧ w' = w := fun n w e => by
          subst e
          by_cases h : NumOk x.N
          · rw [deT h]; exact number_yes _ _ h
          · rw [deF h]; exact number_no _ _ h
        have Qc := hid qc
        clear qc
        go_wp2
        by_cases t1 : 48 ≤ x.At
        · have no : ¬ okAt f k := fun h => by have := h.1; rw [curAt_some Hx.out] at this; omega
          have hc : chk f = 1 := chk_no (fun h => no ((fine_iff.1 h).2.2 k (by rw [Hn.out]; exact hlt)))
          have Hc := hid hc
          clear hc
          go_quiet (fail)
          go_wp2
          go_ret
          exact ⟨ret_int Hc.out.symm, (hx.al _).dn _⟩
        · by_cases t2 : NumOk x.N
          · by_cases t3 : k = 0
            · have hok' : okAt f k := ⟨by rw [curAt_some Hx.out]; omega, by rw [curN_some Hx.out]; exact t2, fun h => by omega⟩
              have Hok' := hid hok'
              clear hok'
              subst t3
              have Q := fun n w e => by have := Qc.out n w e; rw [deT t2] at this; exact this
              have HQ := hid Q
              clear Q
              go_quiet ((go_at_call 64; exact Calls.quiet_of_same (HQ.out _ _ rfl)))
              go_wp2
              go_roundw
              case rel => exact ⟨0 + 1, by omega, by go_num, okAt_snoc Hok.out Hok'.out, (hx.al _).dn _⟩
              case measure => simp [intOf]; omega
            · have hk0 : 0 < k := by omega
              have hk1 : (0 : Int) < (k : Int) := by omega
              obtain ⟨y, hyk⟩ := getE (f := f) (k := k - 1) (by rw [Hn.out]; omega)
              obtain ⟨d1, d2, d3, d4⟩ := hE (k - 1) y hyk
              replace d1 := hx.ce' d1
              replace d2 := hx.ce' d2
              have Hy := hid hyk
              clear hyk
              have Q := fun n w e => by have := Qc.out n w e; rw [deT t2] at this; exact this
              have HQ := hid Q
              clear Q
              by_cases t4 : x.At ≤ y.At
              · have no : ¬ okAt f k := fun h => by have := (h.2.2 hk0).1; rw [curAt_some Hx.out, curAt_some Hy.out] at this; omega
                have hc : chk f = 1 := chk_no (fun h => no ((fine_iff.1 h).2.2 k (by rw [Hn.out]; exact hlt)))
                have Hc := hid hc
                clear hc no
                go_quiet ((go_at_call 64; exact Calls.quiet_of_same (HQ.out _ _ rfl)))
                go_wp2
                go_ret
                exact ⟨ret_int Hc.out.symm, (hx.al _).dn _⟩
              · by_cases t5 : x.N = y.N
                · have no : ¬ okAt f k := fun h => by have := (h.2.2 hk0).2; rw [curN_some Hx.out, curN_some Hy.out] at this; exact this t5
                  have hc : chk f = 1 := chk_no (fun h => no ((fine_iff.1 h).2.2 k (by rw [Hn.out]; exact hlt)))
                  have Hc := hid hc
                  have t6 := eqT t5
                  clear hc no t5
                  go_quiet ((go_at_call 64; exact Calls.quiet_of_same (HQ.out _ _ rfl)))
                  go_wp2
                  go_ret
                  exact ⟨ret_int Hc.out.symm, (hx.al _).dn _⟩
                · have hok' : okAt f k := ⟨by rw [curAt_some Hx.out]; omega, by rw [curN_some Hx.out]; exact t2, fun _ => by rw [curAt_some Hx.out, curN_some Hx.out, curAt_some Hy.out, curN_some Hy.out]; exact ⟨by omega, t5⟩⟩
                  have Hok' := hid hok'
                  have t6 := eqF t5
                  clear hok' t5
                  go_quiet ((go_at_call 64; exact Calls.quiet_of_same (HQ.out _ _ rfl)))
                  go_wp2
                  go_roundw
                  case rel => exact ⟨k + 1, by omega, by go_num, okAt_snoc Hok.out Hok'.out, (hx.al _).dn _⟩
                  case measure => simp [intOf]; omega
          · have no : ¬ okAt f k := fun h => by have := h.2.1; rw [curN_some Hx.out] at this; exact t2 this
            have hc : chk f = 1 := chk_no (fun h => no ((fine_iff.1 h).2.2 k (by rw [Hn.out]; exact hlt)))
            have Hc := hid hc
            have Q := fun n w e => by have := Qc.out n w e; rw [deF t2] at this; exact this
            have HQ := hid Q
            clear Q hc no
            go_quiet ((go_at_call 64; exact Calls.quiet_of_same (HQ.out _ _ rfl)))
            go_wp2
            go_ret
            exact ⟨ret_int Hc.out.symm, (hx.al _).dn _⟩
      · go_wp2
        go_ret
        have hc : chk f = 0 := chk_yes (fine_iff.2 ⟨by rw [Hn.out]; exact h0, by rw [curAt_some hx0]; exact Hz.out, fun j hj => Hok.out j (by rw [Hn.out] at hj; omega)⟩)
        exact ⟨ret_int hc.symm, hx⟩
  · have hz1 : (x0.At != 0) = true := neT hz
    have hc : chk f = 1 := chk_no (fun h => hz (by rw [← curAt_some hx0]; exact (fine_iff.1 h).2.1))
    have Hc := hid hc
    clear hc
    go_enter Tryd.func51, Tryd.ntmps51
    go_wp2
    go_ret
    exact ⟨ret_int Hc.out.symm, Ext.rf _⟩

end Go.Proofs.YtdcndkojmflhnaaDoor

/- Walks of the references: within, isTime, span, RunsFine, SameRuns. -/
set_option linter.unusedVariables false
namespace Go.Proofs.YtdcndkojmflhnaaDoor
open Go.RowKit

theorem within_yes (n lo hi : Int) (w : World) (h1 : lo ≤ n) (h2 : n ≤ hi) : Calls Tryd.prog 17 #[.int .i64 n, .int .i64 lo, .int .i64 hi] w fun e w' => e = .returned (.bool true) ∧ w' = w := by
  go_enter Tryd.func17, Tryd.ntmps17
  go_wp2
  go_ret
  exact ⟨rfl, rfl⟩

theorem within_no (n lo hi : Int) (w : World) (h : ¬ (lo ≤ n ∧ n ≤ hi)) : Calls Tryd.prog 17 #[.int .i64 n, .int .i64 lo, .int .i64 hi] w fun e w' => e = .returned (.bool false) ∧ w' = w := by
  by_cases h1 : lo ≤ n
  · have h2 : ¬ n ≤ hi := fun h2 => h ⟨h1, h2⟩
    clear h
    go_enter Tryd.func17, Tryd.ntmps17
    go_wp2
    go_ret
    exact ⟨rfl, rfl⟩
  · clear h
    go_enter Tryd.func17, Tryd.ntmps17
    go_wp2
    go_ret
    exact ⟨rfl, rfl⟩

theorem isTime_yes (n : Int) (w : World) (h1 : 0 ≤ n) (h2 : n ≤ 47) : Calls Tryd.prog 56 #[.int .i64 n] w fun e w' => e = .returned (.bool true) ∧ w' = w := by
  go_enter Tryd.func56, Tryd.ntmps56
  go_wp2_with (go_at_call 17; refine (within_yes _ _ _ _ h1 h2).mono ?_; rintro e w' ⟨rfl, rfl⟩)
  go_ret
  exact ⟨rfl, rfl⟩

theorem isTime_no (n : Int) (w : World) (h : ¬ (0 ≤ n ∧ n ≤ 47)) : Calls Tryd.prog 56 #[.int .i64 n] w fun e w' => e = .returned (.bool false) ∧ w' = w := by
  go_enter Tryd.func56, Tryd.ntmps56
  go_wp2_with (go_at_call 17; refine (within_no _ _ _ _ h).mono ?_; rintro e w' ⟨rfl, rfl⟩)
  go_ret
  exact ⟨rfl, rfl⟩

/-- the reference's test at j -/
def okR (f : List Run) (j : Nat) : Prop := (0 ≤ curAt f j ∧ curAt f j ≤ 47) ∧ NumOk (curN f j) ∧ (j = 0 → curAt f j = 0) ∧ (0 < j → curAt f (j - 1) < curAt f j ∧ curN f j ≠ curN f (j - 1))

theorem fine_iffR {f : List Run} : Fine f ↔ 0 < f.length ∧ ∀ j, j < f.length → okR f j := by
  rw [fine_iff]
  constructor
  · rintro ⟨h1, h2, h3⟩
    have pos : ∀ j, j < f.length → 0 ≤ curAt f j := by
      intro j
      induction j with
      | zero => intro _; omega
      | succ j ih => intro hj; have := ih (by omega); have := (h3 (j + 1) hj).2.2 (by omega); simp only [Nat.add_sub_cancel] at this; omega
    refine ⟨h1, fun j hj => ?_⟩
    obtain ⟨k1, k2, k3⟩ := h3 j hj
    exact ⟨⟨pos j hj, by omega⟩, k2, fun e => by subst e; exact h2, k3⟩
  · rintro ⟨h1, h2⟩
    exact ⟨h1, (h2 0 h1).2.2.1 rfl, fun j hj => by
      obtain ⟨k1, k2, k3, k4⟩ := h2 j hj
      exact ⟨by omega, k2, k4⟩⟩

theorem okR_snoc {f : List Run} {k : Nat} (h : ∀ j, j < k → okR f j) (hk : okR f k) : ∀ j, j < k + 1 → okR f j := fun j hj => by
  by_cases e : j = k
  · subst e; exact hk
  · exact h j (by omega)

set_option maxRecDepth 100000 in
set_option maxHeartbeats 4000000 in
theorem RunsFine_some (w : World) (b off cap : Nat) (f : List Run) (hl : f.length ≤ 17592186044416) (hb : b < w.heap.size) (hE : ∀ k x, f[k]? = some x → ERun w b (off + k * 2) x) :
    Calls Tryd.prog 40 #[.slice (some ⟨b, off, none⟩) f.length cap] w fun e w' => e = .returned (.bool (decide (Fine f))) ∧ Ext w w' := by
  have HE := hid hE
  clear hE
  generalize hn : f.length = n at *
  have Hn := hid hn
  clear hn
  go_enter Tryd.func40, Tryd.ntmps40
  go_wp2_with fail
  go_loopw [3] (fun c wr => ∃ k : Nat, k ≤ n ∧ c = .int .i64 k ∧ Hid (∀ j, j < k → okR f j) ∧ Ext w wr) (fun c _ => n - (intOf c).toNat)
  case atStart => exact ⟨0, Nat.zero_le _, rfl, fun j hj => absurd hj (Nat.not_lt_zero _), Ext.rf _⟩
  case round =>
    obtain ⟨k, hk, rfl, Hok, hx⟩ := hrel
    have hbw : b < wr.heap.size := Nat.lt_of_lt_of_le hb hx.size
    by_cases hlt : k < n
    · obtain ⟨x, hxk⟩ := getE (f := f) (k := k) (by rw [Hn.out]; exact hlt)
      obtain ⟨c1, c2, c3, c4⟩ := HE.out k x hxk
      replace c1 := hx.ce' c1
      replace c2 := hx.ce' c2
      have Hx := hid hxk
      clear hxk
      have hlt' : (k : Int) < (n : Int) := by omega
      have bad : ¬ okR f k → decide (Fine f) = false := fun h => decide_eq_false (fun hf => h ((fine_iffR.1 hf).2 k (by rw [Hn.out]; exact hlt)))
      have Bad := hid bad
      clear bad
      by_cases t1 : 0 ≤ x.At ∧ x.At ≤ 47
      · have q1 := fun w => isTime_yes x.At w t1.1 t1.2
        have Q1 := hid q1
        clear q1
        by_cases t2 : NumOk x.N
        · have q2 := fun w => within_yes x.N (-1048576) 1048576 w t2.1 t2.2
          have Q2 := hid q2
          have T12 := hid (And.intro t1 t2)
          clear q2 t1 t2
          by_cases t3 : k = 0
          · subst t3
            simp only [Nat.zero_mul, Nat.add_zero] at c1 c2
            by_cases t4 : x.At = 0
            · have t5 := neF t4
              have Hok' := hid (show okR f 0 from ⟨by rw [curAt_some Hx.out]; exact T12.out.1, by rw [curN_some Hx.out]; exact T12.out.2, fun _ => by rw [curAt_some Hx.out]; exact t4, fun h => absurd h (Nat.lt_irrefl _)⟩)
              clear t4
              go_wp2_with fail
              go_quiet (first | (go_at_call 56; exact Calls.quiet_of_same (Q1.out _)) | (go_at_call 17; exact Calls.quiet_of_same (Q2.out _)))
              go_wp2_with fail
              go_roundw
              case rel => exact ⟨0 + 1, by omega, by go_num, fun j hj => (show j = 0 by omega) ▸ Hok'.out, hx.dn _⟩
              case measure => simp [intOf]; omega
            · have t5 := neT t4
              have Hb := hid (Bad.out (fun h => t4 (by rw [← curAt_some Hx.out]; exact h.2.2.1 rfl)))
              clear t4
              go_wp2_with fail
              go_quiet (first | (go_at_call 56; exact Calls.quiet_of_same (Q1.out _)) | (go_at_call 17; exact Calls.quiet_of_same (Q2.out _)))
              go_wp2_with fail
              go_ret
              exact ⟨ret_bool Hb.out.symm, hx.dn _⟩
          · have hk0 : 0 < k := by omega
            have hk1 : (0 : Int) < (k : Int) := by omega
            have hk2 : ((k : Int) == 0) = false := eqF (by omega)
            obtain ⟨y, hyk⟩ := getE (f := f) (k := k - 1) (by rw [Hn.out]; omega)
            obtain ⟨d1, d2, d3, d4⟩ := HE.out (k - 1) y hyk
            replace d1 := hx.ce' d1
            replace d2 := hx.ce' d2
            have Hy := hid hyk
            clear hyk
            by_cases t4 : x.At ≤ y.At
            · have Hb := hid (Bad.out (fun h => by have := (h.2.2.2 hk0).1; rw [curAt_some Hx.out, curAt_some Hy.out] at this; omega))
              go_wp2_with fail
              go_quiet (first | (go_at_call 56; exact Calls.quiet_of_same (Q1.out _)) | (go_at_call 17; exact Calls.quiet_of_same (Q2.out _)))
              go_wp2_with fail
              go_ret
              exact ⟨ret_bool Hb.out.symm, hx.dn _⟩
            · have t4a := deF t4
              have t4b : y.At < x.At := by omega
              by_cases t5 : y.N = x.N
              · have Hb := hid (Bad.out (fun h => by have := (h.2.2.2 hk0).2; rw [curN_some Hx.out, curN_some Hy.out] at this; exact this t5.symm))
                have t6 := eqT t5
                clear t5
                go_wp2_with fail
                go_quiet (first | (go_at_call 56; exact Calls.quiet_of_same (Q1.out _)) | (go_at_call 17; exact Calls.quiet_of_same (Q2.out _)))
                go_wp2_with fail
                go_ret
                exact ⟨ret_bool Hb.out.symm, hx.dn _⟩
              · have t6 := eqF t5
                have Hok' := hid (show okR f k from ⟨by rw [curAt_some Hx.out]; exact T12.out.1, by rw [curN_some Hx.out]; exact T12.out.2, fun h => by omega, fun _ => by rw [curAt_some Hx.out, curN_some Hx.out, curAt_some Hy.out, curN_some Hy.out]; exact ⟨by omega, fun e => t5 e.symm⟩⟩)
                clear t5
                go_wp2_with fail
                go_quiet (first | (go_at_call 56; exact Calls.quiet_of_same (Q1.out _)) | (go_at_call 17; exact Calls.quiet_of_same (Q2.out _)))
                go_wp2_with fail
                go_roundw
                case rel => exact ⟨k + 1, by omega, by go_num, okR_snoc Hok.out Hok'.out, hx.dn _⟩
                case measure => simp [intOf]; omega
        · have q2 := fun w => within_no x.N (-1048576) 1048576 w t2
          have Q2 := hid q2
          have Hb := hid (Bad.out (fun h => t2 (by rw [← curN_some Hx.out]; exact h.2.1)))
          clear q2 t1 t2
          go_wp2_with fail
          go_quiet (first | (go_at_call 56; exact Calls.quiet_of_same (Q1.out _)) | (go_at_call 17; exact Calls.quiet_of_same (Q2.out _)))
          go_wp2_with fail
          go_ret
          exact ⟨ret_bool Hb.out.symm, hx.dn _⟩
      · have q1 := fun w => isTime_no x.At w t1
        have Q1 := hid q1
        have Hb := hid (Bad.out (fun h => t1 (by rw [← curAt_some Hx.out]; exact h.1)))
        clear q1 t1
        go_wp2_with fail
        go_quiet (first | (go_at_call 56; exact Calls.quiet_of_same (Q1.out _)))
        go_wp2_with fail
        go_ret
        exact ⟨ret_bool Hb.out.symm, hx.dn _⟩
    · have hlt' : ¬ (k : Int) < (n : Int) := by omega
      obtain rfl : k = n := by omega
      by_cases hn0 : 0 < k
      · have hn0' : (0 : Int) < (k : Int) := by omega
        have Hf := hid (decide_eq_true (fine_iffR.2 ⟨by rw [Hn.out]; exact hn0, fun j hj => Hok.out j (by rw [Hn.out] at hj; exact hj)⟩))
        go_wp2_with fail
        go_ret
        exact ⟨ret_bool Hf.out.symm, hx⟩
      · have hn0' : ¬ (0 : Int) < (k : Int) := by omega
        have Hf := hid (decide_eq_false (p := Fine f) (fun h => by have := (fine_iffR.1 h).1; rw [Hn.out] at this; exact hn0 this))
        go_wp2_with fail
        go_ret
        exact ⟨ret_bool Hf.out.symm, hx⟩

/-- RunsFine, whatever comes -/
theorem RunsFine_any (w : World) (v : Value) (f : List Run) (hv : RunsV w v f) : Calls Tryd.prog 40 #[v] w fun e w' => e = .returned (.bool (decide (Fine f))) ∧ Ext w w' := by
  rcases hv with ⟨rfl, a0, c0, rfl, hc0⟩ | ⟨b, off, cap, rfl, h1, h2, h3, h4, h5⟩
  · have hf := hid (decide_eq_false (p := Fine []) (fun h => h.1))
    go_enter Tryd.func40, Tryd.ntmps40
    go_wp2
    go_loopw [3] (fun i wr => i = .int .i64 0 ∧ wr = w) (fun i _ => 0)
    case atStart => exact ⟨rfl, rfl⟩
    case round =>
      obtain ⟨rfl, rfl⟩ := hrel
      go_wp2
      go_ret
      exact ⟨ret_bool hf.out.symm, Ext.rf _⟩
  · exact RunsFine_some w b off cap f h3 h4 h5

end Go.Proofs.YtdcndkojmflhnaaDoor
