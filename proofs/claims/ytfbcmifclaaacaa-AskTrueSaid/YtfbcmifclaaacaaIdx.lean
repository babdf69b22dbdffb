/- slices.IndexFunc, slices.ContainsFunc at slices of structs: by a contract of the function that is handed in. -/
import Derived.Test.YtfbcmifclaaacaaRunsB
set_option linter.unusedVariables false
namespace Go.Proofs.Ytfbcmifclaaacaa
open Go.RowKit

/-- the index of the first one of which p holds; -1: none -/
@[irreducible] def idxOf {α : Type} (p : α → Bool) (xs : List α) : Int := match xs.findIdx? p with | some i => (i : Int) | none => -1

theorem idxOf_at {α : Type} {p : α → Bool} {xs : List α} {k : Nat} {x : α} (hk : xs[k]? = some x) (hp : p x = true) (hall : ∀ j y, j < k → xs[j]? = some y → p y = false) : idxOf p xs = k := by
  unfold idxOf
  have hkl := (List.getElem?_eq_some_iff.1 hk).1
  have : xs.findIdx? p = some k := by
    rw [List.findIdx?_eq_some_iff_getElem]
    refine ⟨hkl, ?_, fun j hj => ?_⟩
    · have := (List.getElem?_eq_some_iff.1 hk).2; rw [this]; exact hp
    · rw [hall j (xs[j]'(by omega)) hj (by simp)]; simp
  rw [this]

theorem idxOf_none {α : Type} {p : α → Bool} {xs : List α} (hall : ∀ j y, j < xs.length → xs[j]? = some y → p y = false) : idxOf p xs = -1 := by
  unfold idxOf
  have : xs.findIdx? p = none := by
    rw [List.findIdx?_eq_none_iff]
    intro x hx
    obtain ⟨j, hj, rfl⟩ := List.mem_iff_getElem.1 hx
    exact hall j _ hj (by simp)
  rw [this]

theorem idxOf_any {α : Type} (p : α → Bool) (xs : List α) : decide (0 ≤ idxOf p xs) = xs.any p := by
  unfold idxOf
  cases h : xs.findIdx? p with
  | none =>
    rw [List.findIdx?_eq_none_iff] at h
    have : xs.any p = false := by rw [List.any_eq_false]; intro x hx; rw [h x hx]; simp
    rw [this]; rfl
  | some i =>
    rw [List.findIdx?_eq_some_iff_getElem] at h
    obtain ⟨hi, hp, _⟩ := h
    have : xs.any p = true := List.any_eq_true.2 ⟨xs[i], List.getElem_mem _, hp⟩
    rw [this]; simp

theorem hall_snoc {α : Type} {p : α → Bool} {xs : List α} {k : Nat} {x : α} (hk : xs[k]? = some x) (hp : p x = false) (hall : ∀ j y, j < k → xs[j]? = some y → p y = false) : ∀ j y, j < k + 1 → xs[j]? = some y → p y = false := fun j y hj hy => by
  by_cases e : j = k
  · subst e; rw [hk] at hy; obtain rfl := Option.some.inj hy; exact hp
  · exact hall j y (by omega) hy

set_option maxHeartbeats 1000000 in
theorem IndexFunc_Run (w : World) (b off cap : Nat) (f : List Run) (G : Nat) (lb : Array Value) (p : Run → Bool) (hl : f.length ≤ 17592186044416) (hb : b < w.heap.size) (hE : ∀ k x, f[k]? = some x → ERun w b (off + k * 2) x)
    (heg : ∀ (args : Array Value) (w : World), (callFunc G args).run Try.prog w = .ok (.enter G args) w)
    (hp : ∀ (k : Nat) (x : Run), f[k]? = some x → ∀ W, Ext w W → Calls Try.prog G (#[.agg #[.int .i64 x.At, .int .i64 x.N]] ++ lb) W fun e w' => e = .returned (.bool (p x)) ∧ Ext W w') :
    Calls Try.prog 117 #[.slice (some ⟨b, off, none⟩) f.length cap, .func (.func G) #[] lb] w fun e w' => e = .returned (.int .i64 (idxOf p f)) ∧ Ext w w' := by
  have HE := hid hE
  have Hp := hid hp
  clear hE hp
  generalize hn : f.length = n at *
  have Hn := hid hn
  clear hn
  go_enter Try.func117, Try.ntmps117
  go_wp2_with fail
  go_loopw [8] (fun i wr => ∃ k : Nat, k ≤ n ∧ i = .int .i64 k ∧ Hid (∀ j y, j < k → f[j]? = some y → p y = false) ∧ Ext w wr) (fun i _ => n - (intOf i).toNat)
  case atStart => exact ⟨0, Nat.zero_le _, rfl, fun j y hj => absurd hj (Nat.not_lt_zero _), Ext.rf _⟩
  case round =>
    obtain ⟨k, hk, rfl, Hall, hx⟩ := hrel
    have hbw : b < wr.heap.size := Nat.lt_of_lt_of_le hb hx.size
    by_cases hlt : k < n
    · obtain ⟨x, hxk⟩ := getE (f := f) (k := k) (by rw [Hn.out]; exact hlt)
      obtain ⟨c1, c2, c3, c4⟩ := HE.out k x hxk
      replace c1 := hx.ce' c1
      replace c2 := hx.ce' c2
      have hc := Hp.out k x hxk wr hx
      have Hc := hid hc
      have Hx := hid hxk
      clear hc hxk
      cases hpx : p x with
      | true =>
        rw [hpx] at Hc
        have Hpx := hid hpx
        clear hpx
        go_wp2_with fail
        refine Hc.out.mono ?_
        rintro e w1 ⟨rfl, hx1⟩
        go_wp2_with fail
        go_ret
        exact ⟨ret_int (idxOf_at Hx.out Hpx.out Hall.out).symm, hx.tr hx1⟩
      | false =>
        rw [hpx] at Hc
        have Hpx := hid hpx
        clear hpx
        go_wp2_with fail
        refine Hc.out.mono ?_
        rintro e w1 ⟨rfl, hx1⟩
        go_wp2_with fail
        go_roundw
        case rel => exact ⟨k + 1, by omega, by go_num, hall_snoc Hx.out Hpx.out Hall.out, hx.tr hx1⟩
        case measure => simp [intOf]; omega
    · obtain rfl : k = n := by omega
      go_wp2_with fail
      go_ret
      exact ⟨ret_int (idxOf_none (fun j y hj hy => Hall.out j y (by rw [Hn.out] at hj; exact hj) hy)).symm, hx⟩

theorem ContainsFunc_Run (w : World) (v : Value) (f : List Run) (G : Nat) (lb : Array Value) (p : Run → Bool) (hv : RunsV w v f)
    (heg : ∀ (args : Array Value) (w : World), (callFunc G args).run Try.prog w = .ok (.enter G args) w)
    (hp : ∀ (k : Nat) (x : Run), f[k]? = some x → ∀ W, Ext w W → Calls Try.prog G (#[.agg #[.int .i64 x.At, .int .i64 x.N]] ++ lb) W fun e w' => e = .returned (.bool (p x)) ∧ Ext W w') :
    Calls Try.prog 112 #[v, .func (.func G) #[] lb] w fun e w' => e = .returned (.bool (f.any p)) ∧ Ext w w' := by
  rcases hv with ⟨rfl, a0, c0, rfl, hc0⟩ | ⟨b, off, cap, rfl, h1, h2, h3, h4, h5⟩
  · go_enter Try.func112, Try.ntmps112
    go_wp2
    go_loopw [8] (fun i wr => i = .int .i64 0 ∧ wr = w) (fun i _ => 0)
    case atStart => exact ⟨rfl, rfl⟩
    case round =>
      obtain ⟨rfl, rfl⟩ := hrel
      go_wp2
      go_ret
      exact ⟨rfl, Ext.rf _⟩
  · have hi := IndexFunc_Run w b off cap f G lb p h3 h4 h5 heg hp
    have Hi := hid hi
    have ha := hid (idxOf_any p f)
    clear hi hp h5
    generalize idxOf p f = q at *
    generalize hn : f.length = n at *
    clear hn
    generalize f.any p = r at *
    go_enter Try.func112, Try.ntmps112
    go_wp2_with fail
    refine Hi.out.mono ?_
    rintro e w1 ⟨rfl, hx1⟩
    go_wp2_with fail
    go_ret
    exact ⟨ret_bool ha.out, hx1⟩

end Go.Proofs.Ytfbcmifclaaacaa
