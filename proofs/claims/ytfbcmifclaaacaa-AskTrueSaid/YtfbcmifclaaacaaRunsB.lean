/- Walks of package runs: Span, At (with slices.BinarySearchFunc), Low, and the function 'next' inside Zip. -/
import Derived.Test.YtfbcmifclaaacaaProg
import Derived.Test.YtfbcmifclaaacaaBase
import Derived.Test.YtfbcmifclaaacaaRegion
import Derived.Deep.QuietTactic
import Derived.BigQuiet
import Derived.WalkLawsBesides
import Derived.WalkSpells
set_option linter.unusedVariables false
namespace Go.Proofs.Ytfbcmifclaaacaa
open Go.RowKit

theorem getE {α : Type} {f : List α} {k : Nat} (h : k < f.length) : ∃ x, f[k]? = some x := ⟨f[k], by simp [h]⟩
theorem curAt_some {f : List Run} {k : Nat} {x : Run} (h : f[k]? = some x) : curAt f k = x.At := by simp [curAt, List.getD, h]
theorem curN_some {f : List Run} {k : Nat} {x : Run} (h : f[k]? = some x) : curN f k = x.N := by simp [curN, List.getD, h]

/-! Span -/
theorem Span_yes (a b : Int) (w : World) (h1 : 0 ≤ a) (h2 : a < b) (h3 : b ≤ 48) : Calls Try.prog 39 #[.int .i64 a, .int .i64 b] w fun e w' => e = .returned (.bool true) ∧ w = w' := by
  go_enter Try.func39, Try.ntmps39
  go_wp2
  go_ret
  exact ⟨rfl, rfl⟩

theorem Span_no (a b : Int) (w : World) (h : ¬ (0 ≤ a ∧ a < b ∧ b ≤ 48)) : Calls Try.prog 39 #[.int .i64 a, .int .i64 b] w fun e w' => e = .returned (.bool false) ∧ w = w' := by
  by_cases h1 : 0 ≤ a
  · by_cases h2 : a < b
    · have h3 : ¬ b ≤ 48 := fun h3 => h ⟨h1, h2, h3⟩
      clear h
      go_enter Try.func39, Try.ntmps39
      go_wp2
      go_ret
      exact ⟨rfl, rfl⟩
    · clear h
      go_enter Try.func39, Try.ntmps39
      go_wp2
      go_ret
      exact ⟨rfl, rfl⟩
  · clear h
    go_enter Try.func39, Try.ntmps39
    go_wp2
    go_ret
    exact ⟨rfl, rfl⟩

/-! 'next' inside Zip -/
theorem next_any (w : World) (b off cap : Nat) (f : List Run) (k : Nat) (hl : f.length ≤ 17592186044416) (hb : b < w.heap.size) (hE : ∀ k x, f[k]? = some x → ERun w b (off + k * 2) x) (hk : k < f.length) :
    Calls Try.prog 88 #[.slice (some ⟨b, off, none⟩) f.length cap, .int .i64 k] w fun e w' => e = .returned (.int .i64 (nextAt f k)) ∧ w = w' := by
  by_cases h : k + 1 < f.length
  · obtain ⟨x, hx⟩ := getE h
    obtain ⟨c1, c2, c3, c4⟩ := hE (k + 1) x hx
    have hn : nextAt f k = x.At := by rw [nextAt_lt h, curAt_some hx]
    have Hn := hid hn
    have h' : (k : Int) + 1 < (f.length : Int) := by omega
    clear hn hx hE
    generalize f.length = n at *
    go_enter Try.func88, Try.ntmps88
    go_wp2
    go_ret
    exact ⟨ret_int Hn.out.symm, rfl⟩
  · have hn := hid (nextAt_end h)
    have h' : ¬ (k : Int) + 1 < (f.length : Int) := by omega
    clear hE
    generalize hfl : f.length = n at *
    clear hfl
    go_enter Try.func88, Try.ntmps88
    go_wp2
    go_ret
    exact ⟨ret_int hn.out.symm, rfl⟩

/-! At -/
theorem cmp_any (w : World) (at_ n t : Int) (h0 : 0 ≤ at_) (h1 : at_ ≤ 48) (h2 : 0 ≤ t) (h3 : t ≤ 48) :
    Calls Try.prog 75 #[.agg #[.int .i64 at_, .int .i64 n], .int .i64 t] w fun e w' => e = .returned (.int .i64 (at_ - t)) ∧ Ext w w' := by
  go_enter Try.func75, Try.ntmps75
  go_wp2
  go_ret
  exact ⟨rfl, (Ext.rf _).al _⟩

theorem curAt_mono {f : List Run} (hs : Shape f) {i j : Nat} (hij : i < j) (hj : j < f.length) : curAt f i < curAt f j := by
  induction j with
  | zero => omega
  | succ j ih =>
    have h := shape_idx hs (i := j) (by omega)
    rw [nextAt_lt hj] at h
    by_cases e : i = j
    · subst e; exact h.2.1
    · have := ih (by omega) (by omega); omega

theorem by_lt {f : List Run} (hs : Shape f) {k : Nat} {x : Run} {t : Int} (hx : f[k]? = some x) (hk : k < f.length) (h : x.At < t) : ∀ m, m ≤ k → curAt f m < t := fun m hm => by
  rw [← curAt_some hx] at h
  by_cases e : m = k
  · subst e; exact h
  · have := curAt_mono hs (i := m) (j := k) (by omega) hk; omega

theorem by_ge {f : List Run} (hs : Shape f) {k : Nat} {x : Run} {t : Int} (hx : f[k]? = some x) (h : t ≤ x.At) : ∀ m, k ≤ m → m < f.length → t ≤ curAt f m := fun m hm hmn => by
  rw [← curAt_some hx] at h
  by_cases e : k = m
  · subst e; exact h
  · have := curAt_mono hs (i := k) (j := m) (by omega) hmn; omega

/-- what the search tells -/
def Found (f : List Run) (t : Int) (w : World) (e : Ending) (w' : World) : Prop :=
  ∃ (i : Nat) (b : Bool), e = .returned (.tuple #[.int .i64 i, .bool b]) ∧ i ≤ f.length ∧ (∀ j, j < i → curAt f j < t) ∧ (∀ j, i ≤ j → j < f.length → t ≤ curAt f j) ∧ (b = true ↔ i < f.length ∧ curAt f i = t) ∧ Ext w w'

set_option maxHeartbeats 1000000 in
theorem search_any (w : World) (b off cap : Nat) (f : List Run) (t : Int) (hs : Shape f) (hm : cap ≤ 9223372036854775807) (hl : f.length ≤ cap) (hb : b < w.heap.size) (hE : ∀ k x, f[k]? = some x → ERun w b (off + k * 2) x) (h2 : 0 ≤ t) (h3 : t ≤ 48) :
    Calls Try.prog 74 #[.slice (some ⟨b, off, none⟩) f.length cap, .int .i64 t, .func (.func 75) #[] #[]] w (Found f t w) := by
  have hlen := shape_len hs
  have HE := hid hE
  have Hs := hid hs
  clear hE hs
  generalize hn : f.length = n at *
  have Hn := hid hn
  clear hn
  go_enter Try.func74, Try.ntmps74
  go_wp2_with fail
  go_loopw [9, 10] (fun a c wr => ∃ i j : Nat, i ≤ j ∧ j ≤ n ∧ a = .int .i64 i ∧ c = .int .i64 j ∧ Hid ((∀ m, m < i → curAt f m < t) ∧ (∀ m, j ≤ m → m < n → t ≤ curAt f m)) ∧ Ext w wr) (fun a c _ => (intOf c - intOf a).toNat)
  case atStart => exact ⟨0, n, Nat.zero_le _, Nat.le_refl _, rfl, rfl, ⟨fun m hm => absurd hm (Nat.not_lt_zero _), fun m h1 h2 => by omega⟩, Ext.rf _⟩
  case round =>
    obtain ⟨i, j, hij, hjn, rfl, rfl, H, hx⟩ := hrel
    have hbw : b < wr.heap.size := Nat.lt_of_lt_of_le hb hx.size
    by_cases hlt : i < j
    · obtain ⟨x, hxm⟩ := getE (f := f) (k := (i + j) / 2) (by rw [Hn.out]; omega)
      obtain ⟨c1, c2, c3, c4⟩ := HE.out ((i + j) / 2) x hxm
      replace c1 := hx.ce' c1
      replace c2 := hx.ce' c2
      have hr := shape_idx Hs.out (i := (i + j) / 2) (by rw [Hn.out]; omega)
      rw [curAt_some hxm] at hr
      obtain ⟨r1, r2, r3, _⟩ := hr
      have hr48 : x.At ≤ 48 := by omega
      have Hx := hid hxm
      clear hxm r2 r3
      by_cases hc : x.At < t
      · go_wp2_with (go_at_call 75; refine (cmp_any _ _ _ _ r1 hr48 h2 h3).mono ?_; rintro e w1 ⟨rfl, hx1⟩)
        go_roundw
        case rel => exact ⟨(i + j) / 2 + 1, j, by omega, by omega, by go_num, rfl, ⟨fun m hm => by_lt Hs.out Hx.out (by rw [Hn.out]; omega) hc m (by omega), H.out.2⟩, hx.tr hx1⟩
        case measure => simp [intOf]; omega
      · go_wp2_with (go_at_call 75; refine (cmp_any _ _ _ _ r1 hr48 h2 h3).mono ?_; rintro e w1 ⟨rfl, hx1⟩)
        go_roundw
        case rel => exact ⟨i, (i + j) / 2, by omega, by omega, rfl, by go_num, ⟨H.out.1, fun m hm hmn => by_ge Hs.out Hx.out (by omega) m hm (by rw [Hn.out]; exact hmn)⟩, hx.tr hx1⟩
        case measure => simp [intOf]; omega
    · obtain rfl : i = j := by omega
      by_cases hin : i < n
      · obtain ⟨x, hxm⟩ := getE (f := f) (k := i) (by rw [Hn.out]; omega)
        obtain ⟨c1, c2, c3, c4⟩ := HE.out i x hxm
        replace c1 := hx.ce' c1
        replace c2 := hx.ce' c2
        have hr := shape_idx Hs.out (i := i) (by rw [Hn.out]; omega)
        rw [curAt_some hxm] at hr
        obtain ⟨r1, r2, r3, _⟩ := hr
        have hr48 : x.At ≤ 48 := by omega
        have Hx := hid hxm
        have hin' : (i : Int) < (n : Int) := by omega
        clear hxm r2 r3
        by_cases hc : x.At = t
        · have hq := eqT (a := x.At - t) (b := 0) (by omega)
          have Hc := hid hc
          clear hc
          go_wp2_with (go_at_call 75; refine (cmp_any _ _ _ _ r1 hr48 h2 h3).mono ?_; rintro e w1 ⟨rfl, hx1⟩)
          go_ret2
          exact ⟨i, true, rfl, by rw [Hn.out]; exact hjn, H.out.1, by rw [Hn.out]; exact H.out.2, by rw [Hn.out, curAt_some Hx.out]; simp [hin, Hc.out], hx.tr hx1⟩
        · have hq := eqF (a := x.At - t) (b := 0) (by omega)
          go_wp2_with (go_at_call 75; refine (cmp_any _ _ _ _ r1 hr48 h2 h3).mono ?_; rintro e w1 ⟨rfl, hx1⟩)
          go_ret2
          exact ⟨i, false, rfl, by rw [Hn.out]; exact hjn, H.out.1, by rw [Hn.out]; exact H.out.2, by rw [Hn.out, curAt_some Hx.out]; simp [hc], hx.tr hx1⟩
      · have hin' : ¬ (i : Int) < (n : Int) := by omega
        go_wp2_with fail
        go_ret2
        exact ⟨i, false, rfl, by rw [Hn.out]; exact hjn, H.out.1, by rw [Hn.out]; exact H.out.2, by rw [Hn.out]; simp [hin], hx⟩

set_option maxHeartbeats 1000000 in
theorem At_some (w : World) (b off cap : Nat) (f : List Run) (t : Int) (hs : Shape f) (hm : cap ≤ 9223372036854775807) (hl : f.length ≤ cap) (hb : b < w.heap.size) (hE : ∀ k x, f[k]? = some x → ERun w b (off + k * 2) x) (h2 : 0 ≤ t) (h3 : t < 48) :
    Calls Try.prog 45 #[.slice (some ⟨b, off, none⟩) f.length cap, .int .i64 t] w fun e w' => e = .returned (.int .i64 (sp f t.toNat)) ∧ Ext w w' := by
  have hsearch := search_any w b off cap f t hs hm hl hb hE h2 (by omega)
  have S := hid hsearch
  have HE := hid hE
  have Hs := hid hs
  have hlen := shape_len hs
  clear hE hs hsearch
  generalize hn : f.length = n at *
  have Hn := hid hn
  clear hn
  go_enter Try.func45, Try.ntmps45
  go_wp2_with fail
  refine S.out.mono ?_
  rintro e w1 ⟨i, fb, rfl, f1, f2, f3, f4, hx⟩
  have hz := shape_zero Hs.out
  cases fb with
  | true =>
    have f5 := f4.1 rfl
    obtain ⟨x, hxi⟩ := getE (f := f) (k := i) f5.1
    obtain ⟨c1, c2, c3, c4⟩ := HE.out i x hxi
    replace c1 := hx.ce' c1
    replace c2 := hx.ce' c2
    have hsp : sp f t.toNat = x.N := by
      have h := shape_idx Hs.out f5.1
      rw [← curN_some hxi]
      exact h.2.2.2 t.toNat (by omega) (by omega)
    have Hsp := hid hsp
    have hin : (i : Int) < (n : Int) := by rw [Hn.out] at f5; omega
    clear f2 f3 f4 f5 hxi hsp hz
    go_wp2_with fail
    go_ret
    exact ⟨ret_int Hsp.out.symm, hx⟩
  | false =>
    have f5 : ¬ (i < f.length ∧ curAt f i = t) := fun h => by have := f4.2 h; cases this
    have hi0 : 0 < i := by
      rcases Nat.eq_zero_or_pos i with h | h
      · subst h
        exact absurd ⟨hz.1, by have := f3 0 (Nat.le_refl _) hz.1; omega⟩ f5
      · exact h
    obtain ⟨x, hxi⟩ := getE (f := f) (k := i - 1) (by omega)
    obtain ⟨c1, c2, c3, c4⟩ := HE.out (i - 1) x hxi
    replace c1 := hx.ce' c1
    replace c2 := hx.ce' c2
    have hsp : sp f t.toNat = x.N := by
      have h := shape_idx Hs.out (i := i - 1) (by omega)
      rw [← curN_some hxi]
      have h1 := f2 (i - 1) (by omega)
      refine h.2.2.2 t.toNat (by omega) ?_
      by_cases hi : i < f.length
      · rw [nextAt_lt (by omega), show i - 1 + 1 = i by omega]
        have h4 := f3 i (Nat.le_refl _) hi
        have : curAt f i ≠ t := fun e => f5 ⟨hi, e⟩
        omega
      · rw [nextAt_end (by omega)]; omega
    have Hsp := hid hsp
    have hin : (i : Int) - 1 < (n : Int) := by rw [Hn.out] at f1; omega
    have hin0 : (0 : Int) ≤ (i : Int) - 1 := by omega
    have hi1 : (0 : Int) < (i : Int) := by omega
    clear f2 f3 f4 f5 hxi hsp hz
    go_wp2_with fail
    go_ret
    exact ⟨ret_int Hsp.out.symm, hx⟩

set_option maxHeartbeats 1000000 in
theorem Low_some (w : World) (b off cap : Nat) (f : List Run) (s t : Int) (hs : Shape f) (hm : cap ≤ 9223372036854775807) (hl : f.length ≤ cap) (hb : b < w.heap.size) (hE : ∀ k x, f[k]? = some x → ERun w b (off + k * 2) x) (h1 : 0 ≤ s) (h2 : s < t) (h3 : t ≤ 48) :
    Calls Try.prog 40 #[.slice (some ⟨b, off, none⟩) f.length cap, .int .i64 s, .int .i64 t] w fun e w' => e = .returned (.int .i64 (lowT (sp f) s.toNat t.toNat)) ∧ Ext w w' := by
  have hat := At_some w b off cap f s hs hm hl hb hE h1 (by omega)
  have S := hid hat
  have HE := hid hE
  have Hs := hid hs
  have hlen := shape_len hs
  clear hE hs hat
  obtain ⟨a, rfl⟩ := Int.eq_ofNat_of_zero_le h1
  obtain ⟨c, rfl⟩ := Int.eq_ofNat_of_zero_le (show 0 ≤ t by omega)
  rw [Int.toNat_natCast, Int.toNat_natCast]
  generalize hn : f.length = n at *
  have Hn := hid hn
  clear hn
  go_enter Try.func40, Try.ntmps40
  go_wp2_with fail
  refine S.out.mono ?_
  rintro e w1 ⟨rfl, hx⟩
  rw [Int.toNat_natCast]
  go_wp2_with fail
  go_loopw [7, 15] (fun v i wr => ∃ k : Nat, k ≤ n ∧ i = .int .i64 k ∧ v = .int .i64 (lowAt f (sp f) a c k) ∧ Ext w wr) (fun _ i _ => n - (intOf i).toNat)
  case atStart => exact ⟨0, Nat.zero_le _, rfl, by rw [lowAt_start Hs.out], hx⟩
  case round =>
    obtain ⟨k, hk, rfl, rfl, hx⟩ := hrel
    have hbw : b < wr.heap.size := Nat.lt_of_lt_of_le hb hx.size
    by_cases hlt : k < n
    · obtain ⟨x, hxk⟩ := getE (f := f) (k := k) (by rw [Hn.out]; exact hlt)
      obtain ⟨c1, c2, c3, c4⟩ := HE.out k x hxk
      replace c1 := hx.ce' c1
      replace c2 := hx.ce' c2
      have hstep := lowAt_step Hs.out (a := a) (b := c) (by omega) (by omega) (k := k) (by rw [Hn.out]; exact hlt)
      rw [curAt_some hxk, curN_some hxk] at hstep
      have Hx := hid hxk
      by_cases t1 : (a : Int) < x.At
      · by_cases t2 : x.At < (c : Int)
        · rw [if_pos ⟨t1, t2⟩] at hstep
          have Hst := hid hstep
          clear hstep hxk
          generalize lowAt f (sp f) a c k = q at *
          go_wp2_with fail
          go_roundw
          case rel => exact ⟨k + 1, by omega, by go_num, by rw [Hst.out, minw], hx.al _⟩
          case measure => simp [intOf]; omega
        · rw [if_neg (fun h => t2 h.2)] at hstep
          have Hst := hid hstep
          clear hstep hxk
          generalize lowAt f (sp f) a c k = q at *
          go_wp2_with fail
          go_roundw
          case rel => exact ⟨k + 1, by omega, by go_num, by rw [Hst.out], hx.al _⟩
          case measure => simp [intOf]; omega
      · rw [if_neg (fun h => t1 h.1)] at hstep
        have Hst := hid hstep
        clear hstep hxk
        generalize lowAt f (sp f) a c k = q at *
        go_wp2_with fail
        go_roundw
        case rel => exact ⟨k + 1, by omega, by go_num, by rw [Hst.out], hx.al _⟩
        case measure => simp [intOf]; omega
    · obtain rfl : k = n := by omega
      have he := lowAt_end (f := f) (sp f) (a := a) (b := c) (by omega) (by omega)
      rw [Hn.out] at he
      have He := hid he
      clear he
      go_wp2_with fail
      go_ret
      exact ⟨ret_int He.out, hx⟩

end Go.Proofs.Ytfbcmifclaaacaa
