/- Walk of room.Seek. -/
import Derived.Test.YtfbcmifclaaacaaRunsD
set_option linter.unusedVariables false
namespace Go.Proofs.Ytfbcmifclaaacaa
open Go.RowKit

/-- the first place, as the program tells it -/
@[irreducible] def seekR (f : List Run) (from_ until_ size n : Int) : Int × Bool := match firstT (sp f) from_.toNat until_.toNat size.toNat n with | some t => ((t : Int), true) | none => (0, false)
theorem seekR_some {f : List Run} {F U Z t : Nat} {n : Int} (h : firstT (sp f) F U Z n = some t) : seekR f (F : Int) (U : Int) (Z : Int) n = ((t : Int), true) := by unfold seekR; simp only [Int.toNat_natCast, h]
theorem seekR_none {f : List Run} {F U Z : Nat} {n : Int} (h : firstT (sp f) F U Z n = none) : seekR f (F : Int) (U : Int) (Z : Int) n = (0, false) := by unfold seekR; simp only [Int.toNat_natCast, h]

def RetIs (w : World) (r : Int × Bool) (e : Ending) (w' : World) : Prop := e = .returned (.tuple #[.int .i64 r.1, .bool r.2]) ∧ Ext w w'
theorem retIs_of {w w' : World} {r : Int × Bool} {n : Int} {b : Bool} (h : r = (n, b)) (hx : Ext w w') : RetIs w r (.returned (.tuple #[.int .i64 n, .bool b])) w' := by
  subst h; exact ⟨rfl, hx⟩

theorem seekAt_bound {f : List Run} {F U Z : Nat} {n : Int} {k A : Nat} (hU : U ≤ 48) (hF : F ≤ 48) (h : SeekAt f F U Z n k A) : A ≤ 48 := by
  obtain ⟨E, hE, a1, a2, _⟩ := h
  omega

set_option maxHeartbeats 4000000 in
theorem Seek_some (w : World) (b off cap : Nat) (f : List Run) (F U Z : Nat) (n : Int) (hs : Shape f) (hF : F ≤ 48) (hU : U ≤ 48) (hZ : 0 < Z) (hZ4 : Z ≤ 48) (hcap : f.length ≤ cap) (hm : cap ≤ 9223372036854775807) (hb : b < w.heap.size) (hE : ∀ k x, f[k]? = some x → ERun w b (off + k * 2) x) :
    Calls Try.prog 114 #[.slice (some ⟨b, off, none⟩) f.length cap, .int .i64 F, .int .i64 U, .int .i64 Z, .int .i64 n] w (RetIs w (seekR f F U Z n)) := by
  have HE := hid hE
  have hl := shape_len hs
  have S0 := hid (seekAt_start (n := n) (from_ := F) (until_ := U) hs hZ)
  have SP := hid (fun (k A : Nat) (hk : k < f.length) (h : SeekAt f F U Z n k A) => seekAt_pass hs hZ hk h)
  have SL := hid (fun (k A : Nat) (hk : k < f.length) (h : SeekAt f F U Z n k A) => seekAt_low hs hZ hk h)
  have SH := hid (fun (k A : Nat) (hk : k < f.length) (h : SeekAt f F U Z n k A) => seekAt_high hs hk h)
  have SF := hid (fun (k A : Nat) (hk : k < f.length) (h : SeekAt f F U Z n k A) => seekAt_found hs hZ hk h)
  have SN := hid (fun (A : Nat) (h : SeekAt f F U Z n f.length A) => seekR_none (seekAt_none hU h))
  have SB := hid (fun (k A : Nat) (h : SeekAt f F U Z n k A) => seekAt_bound hU hF h)
  have SI := hid (fun (k : Nat) (hk : k < f.length) => shape_idx hs hk)
  clear hE hs
  generalize hn : f.length = m at *
  have Hn := hid hn
  clear hn
  go_enter Try.func114, Try.ntmps114
  go_wp2_with fail
  go_loopw [12, 19] (fun a c wr => ∃ k A : Nat, k ≤ m ∧ a = .int .i64 (A : Int) ∧ c = .int .i64 k ∧ Hid (SeekAt f F U Z n k A) ∧ Ext w wr) (fun _ c _ => m - (intOf c).toNat)
  case atStart => exact ⟨0, F, Nat.zero_le _, rfl, rfl, S0, Ext.rf _⟩
  case round =>
    obtain ⟨k, A, hk, rfl, rfl, hat, hx⟩ := hrel
    have hbw : b < wr.heap.size := Nat.lt_of_lt_of_le hb hx.size
    have hA := SB.out k A hat.out
    by_cases hlt : k < m
    · have hlt' : (k : Int) < (m : Int) := by omega
      obtain ⟨x, hxk⟩ := getE (f := f) (k := k) (by rw [Hn.out]; exact hlt)
      obtain ⟨c1, c2, c3, c4⟩ := HE.out k x hxk
      replace c1 := hx.ce' c1
      replace c2 := hx.ce' c2
      have cn := curN_some hxk
      have hcN := hid cn
      obtain ⟨q1, q2, q3, q4⟩ := SI.out k hlt
      clear hxk cn q4
      have e48 : nextAt f k ≤ 48 ∧ 0 ≤ nextAt f k := ⟨by omega, by omega⟩
      obtain ⟨E, hE⟩ : ∃ E : Int, seekEnd f U k = E := ⟨_, rfl⟩
      have HEE := hid hE
      have hE0 : 0 ≤ E ∧ E ≤ 48 := by rw [← hE]; unfold seekEnd; omega
      have SP1 := hid (SP.out k A hlt hat.out)
      have SL1 := hid (SL.out k A hlt hat.out)
      have SH1 := hid (SH.out k A hlt hat.out)
      have SF1 := hid (SF.out k A hlt hat.out)
      rw [hE] at SP1 SL1 SH1 SF1
      rw [hcN.out] at SL1 SH1 SF1
      clear hat SP SL SH SF
      have key : (k + 1 < m ∧ ∃ y, f[k + 1]? = some y ∧ y.At < (U : Int) ∧ E = y.At) ∨ (k + 1 < m ∧ ∃ y, f[k + 1]? = some y ∧ ¬ y.At < (U : Int) ∧ E = U) ∨ (¬ k + 1 < m ∧ E = U) := by
        by_cases hk1 : k + 1 < m
        · obtain ⟨y, hyk⟩ := getE (f := f) (k := k + 1) (by rw [Hn.out]; exact hk1)
          rw [← hE]; unfold seekEnd
          rw [nextAt_lt (by rw [Hn.out]; exact hk1), curAt_some hyk]
          by_cases hy : y.At < (U : Int)
          · exact .inl ⟨hk1, y, hyk, hy, by omega⟩
          · exact .inr (.inl ⟨hk1, y, hyk, hy, by omega⟩)
        · rw [← hE]; unfold seekEnd
          rw [nextAt_end (by rw [Hn.out]; exact hk1)]
          exact .inr (.inr ⟨hk1, by omega⟩)
      clear hE e48 HEE q1 q2 q3
      have leaf : ∀ K : Prop, (E ≤ (A : Int) → K) → (¬ E ≤ (A : Int) → x.N < n → K) → (¬ E ≤ (A : Int) → ¬ x.N < n → (Z : Int) ≤ E - A → K) → (¬ E ≤ (A : Int) → ¬ x.N < n → ¬ (Z : Int) ≤ E - A → K) → K := fun K h1 h2 h3 h4 => by
        by_cases g1 : E ≤ (A : Int)
        · exact h1 g1
        · by_cases g2 : x.N < n
          · exact h2 g1 g2
          · by_cases g3 : (Z : Int) ≤ E - A
            · exact h3 g1 g2 g3
            · exact h4 g1 g2 g3
      have Leaf := hid leaf
      clear leaf
      have e1 := hE0.1
      have e2 := hE0.2
      clear hE0
      rcases key with ⟨hk1, y, hyk, hy, rfl⟩ | ⟨hk1, y, hyk, hy, rfl⟩ | ⟨hk1, rfl⟩
      · have hk1' : (k : Int) + 1 < (m : Int) := by omega
        obtain ⟨d1, d2, d3, d4⟩ := HE.out (k + 1) y hyk
        replace d1 := hx.ce' d1
        clear d2 hyk
        refine Leaf.out _ (fun g1 => ?_) (fun g1 g2 => ?_) (fun g1 g2 g3 => ?_) (fun g1 g2 g3 => ?_)
        · go_wp2_with fail
          go_roundw
          case rel => exact ⟨k + 1, A, by omega, rfl, by go_num, hid (SP1.out g1), hx.al _⟩
          case measure => simp [intOf]; omega
        · go_wp2_with fail
          go_roundw
          case rel => exact ⟨k + 1, y.At.toNat, by omega, by rw [Int.toNat_of_nonneg e1], by go_num, hid (SL1.out (by omega) g2), hx.al _⟩
          case measure => simp [intOf]; omega
        · go_wp2_with fail
          go_ret2
          exact retIs_of (seekR_some (SF1.out (by omega) (by omega) g3)) (hx.al _)
        · go_wp2_with fail
          go_roundw
          case rel => exact ⟨k + 1, A, by omega, rfl, by go_num, hid (SH1.out (by omega) (by omega) (by omega)), hx.al _⟩
          case measure => simp [intOf]; omega
      · have hk1' : (k : Int) + 1 < (m : Int) := by omega
        obtain ⟨d1, d2, d3, d4⟩ := HE.out (k + 1) y hyk
        replace d1 := hx.ce' d1
        clear d2 hyk
        refine Leaf.out _ (fun g1 => ?_) (fun g1 g2 => ?_) (fun g1 g2 g3 => ?_) (fun g1 g2 g3 => ?_)
        · go_wp2_with fail
          go_roundw
          case rel => exact ⟨k + 1, A, by omega, rfl, by go_num, hid (SP1.out g1), hx.al _⟩
          case measure => simp [intOf]; omega
        · go_wp2_with fail
          go_roundw
          case rel => exact ⟨k + 1, U, by omega, rfl, by go_num, hid (by have := SL1.out (by omega) g2; simpa using this), hx.al _⟩
          case measure => simp [intOf]; omega
        · go_wp2_with fail
          go_ret2
          exact retIs_of (seekR_some (SF1.out (by omega) (by omega) g3)) (hx.al _)
        · go_wp2_with fail
          go_roundw
          case rel => exact ⟨k + 1, A, by omega, rfl, by go_num, hid (SH1.out (by omega) (by omega) (by omega)), hx.al _⟩
          case measure => simp [intOf]; omega
      · have hk1' : ¬ (k : Int) + 1 < (m : Int) := by omega
        refine Leaf.out _ (fun g1 => ?_) (fun g1 g2 => ?_) (fun g1 g2 g3 => ?_) (fun g1 g2 g3 => ?_)
        · go_wp2_with fail
          go_roundw
          case rel => exact ⟨k + 1, A, by omega, rfl, by go_num, hid (SP1.out g1), hx.al _⟩
          case measure => simp [intOf]; omega
        · go_wp2_with fail
          go_roundw
          case rel => exact ⟨k + 1, U, by omega, rfl, by go_num, hid (by have := SL1.out (by omega) g2; simpa using this), hx.al _⟩
          case measure => simp [intOf]; omega
        · go_wp2_with fail
          go_ret2
          exact retIs_of (seekR_some (SF1.out (by omega) (by omega) g3)) (hx.al _)
        · go_wp2_with fail
          go_roundw
          case rel => exact ⟨k + 1, A, by omega, rfl, by go_num, hid (SH1.out (by omega) (by omega) (by omega)), hx.al _⟩
          case measure => simp [intOf]; omega
    · obtain rfl : k = m := by omega
      have hlt' : ¬ (k : Int) < (k : Int) := by omega
      have Hr := hid (SN.out A (by have := hat.out; rw [← Hn.out] at this ⊢; exact this))
      go_wp2_with fail
      go_ret2
      exact retIs_of Hr.out hx

theorem Seek_any (w : World) (v : Value) (f : List Run) (a u z n : Int) (hv : RunsV w v f) (hs : Shape f) (ha : 0 ≤ a ∧ a ≤ 48) (hu : 0 ≤ u ∧ u ≤ 48) (hz : 1 ≤ z ∧ z ≤ 48) :
    Calls Try.prog 114 #[v, .int .i64 a, .int .i64 u, .int .i64 z, .int .i64 n] w (RetIs w (seekR f a u z n)) := by
  obtain ⟨b, off, cap, rfl, h4, h5, _, h6, h7⟩ := hv.some hs
  obtain ⟨F, rfl⟩ := Int.eq_ofNat_of_zero_le ha.1
  obtain ⟨U, rfl⟩ := Int.eq_ofNat_of_zero_le hu.1
  obtain ⟨Z, rfl⟩ := Int.eq_ofNat_of_zero_le (by omega : 0 ≤ z)
  exact Seek_some w b off cap f F U Z n hs (by omega) (by omega) (by omega) (by omega) h4 h5 h6 h7

end Go.Proofs.Ytfbcmifclaaacaa
