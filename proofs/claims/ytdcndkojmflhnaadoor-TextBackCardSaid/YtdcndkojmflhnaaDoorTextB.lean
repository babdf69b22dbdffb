/- Walks of the reference's Digits, cut, said. -/
import Derived.Test.YtdcndkojmflhnaaDoorTextA
import Derived.Laws.BytesArg
import Derived.Lib.CutLaws
set_option linter.unusedVariables false
set_option linter.unusedSimpArgs false
set_option maxRecDepth 100000
set_option maxHeartbeats 8000000
namespace Go.Proofs.YtdcndkojmflhnaaDoor
open Go.RowKit
/-- bytes as a text -/
def tx (l : By) : ByteArray := ⟨l.toArray⟩
theorem tx_app (a b : By) : tx a ++ tx b = tx (a ++ b) := by
  unfold tx; apply ByteArray.ext; simp
theorem bs_tx (l : By) : bs (tx l) = l := rfl
theorem tx_bs (s : ByteArray) : tx (bs s) = s := arr_bs s
theorem tx_size (l : By) : (tx l).size = l.length := by rw [← bs_len]; rfl
theorem digit_conv (m : Int) (h : 0 ≤ m ∧ m < 10) (w : World) :
    (convert 36 9 (.slice (some ⟨w.heap.size, 0, none⟩) 1 1)).run Tryd.prog (w.alloc (.cells #[.int .u8 (48 + m)] 5)) = .ok (.string (tx [UInt8.ofNat (48 + m.toNat)])) (w.alloc (.cells #[.int .u8 (48 + m)] 5)) := by
  have := run_convert_bytes_arg (P := Tryd.prog) (w.alloc (.cells #[.int .u8 (48 + m)] 5)) 36 5 (by kernel_rfl) (by kernel_rfl) w.heap.size 0 1 1 [48 + m] rfl (fun i hi => by
    obtain rfl : i = 0 := by omega
    exact cell_of_row (w.alloc (.cells #[.int .u8 (48 + m)] 5)) w.heap.size 0 _ _ _ (heap_alloc_new w _)) 9 (by kernel_rfl)
  rw [this]
  have e : (48 + m).toNat = 48 + m.toNat := by omega
  simp only [strOfNums, tx, List.map_cons, List.map_nil, e]
theorem Digits_one (n : Nat) (h : n < 10) (w : World) :
    Calls Tryd.prog 20 #[.int .i64 n] w fun e w' => e = .returned (.string (tx (dig n))) ∧ Ext w w' := by
  have hn0 : ¬ (n : Int) < 0 := by omega
  have hn10 : (n : Int) < 10 := by omega
  have hcv := digit_conv ((n : Int) % 10) (by omega) w
  have hE : tx [UInt8.ofNat (48 + ((n : Int) % 10).toNat)] = tx (dig n) := by unfold dig; rw [if_pos h]; congr; omega
  rw [hE] at hcv
  have HE := hid hE
  clear hE
  go_enter Tryd.func20, Tryd.ntmps20
  go_wp2_with fail
  go_ret
  exact ⟨rfl, (Ext.rf w).al _⟩
theorem Digits_any (n : Nat) (h : n < 100) (w : World) :
    Calls Tryd.prog 20 #[.int .i64 n] w fun e w' => e = .returned (.string (tx (dig n))) ∧ Ext w w' := by
  by_cases h1 : n < 10
  · exact Digits_one n h1 w
  · have hn0 : ¬ (n : Int) < 0 := by omega
    have hn10 : ¬ (n : Int) < 10 := by omega
    have hcv := digit_conv ((n : Int) % 10) (by omega) w
    obtain ⟨q, hqd⟩ : ∃ q : Nat, n / 10 = q := ⟨_, rfl⟩
    have hq := Digits_one q (by omega)
    obtain ⟨d0, hd0⟩ : ∃ d0, tx [UInt8.ofNat (48 + ((n : Int) % 10).toNat)] = d0 := ⟨_, rfl⟩
    rw [hd0] at hcv
    have HD := hid (show tx (dig q) ++ d0 = tx (dig n) from by
      have e0 : n / 10 < 10 := by omega
      rw [← hd0, ← hqd]
      have e1 : ((n : Int) % 10).toNat = n % 10 := by omega
      rw [tx_app, e1]
      unfold dig
      rw [if_pos e0, if_neg h1]; rfl)
    have hqn : IntKind.i64.wrap ((n : Int) / 10) = (q : Int) := by rw [IntKind.wrap_i64]; omega
    have hcc : ¬ 9223372036854775807 < (tx (dig q)).size + d0.size := by
      have := dig_len q (by omega)
      rw [← hd0, tx_size, tx_size]; simp only [List.length_cons, List.length_nil]; omega
    clear hqd hd0
    go_enter Tryd.func20, Tryd.ntmps20
    go_wp2_with (go_at_call 20; refine (hq _).mono ?_; rintro e w' ⟨rfl, hx⟩; have HX := hid hx; clear hx)
    go_ret
    exact ⟨by rw [HD.out]; rfl, ((Ext.rf w).al _).tr HX.out⟩
/-! ### cut -/
theorem ext_iff (s p : ByteArray) (i : Nat) (h : i + p.size ≤ s.size) : (s.extract i (i + p.size) = p) ↔ Lib.occAt (bs s) (bs p) i = true := by
  have e := Lib.occAt_iff_take (bs s) (bs p) i (by rw [bs_len, bs_len]; exact h)
  rw [e, bs_len]
  have e2 : bs (s.extract i (i + p.size)) = ((bs s).drop i).take p.size := by
    rw [Lib.extract_eq, show i + p.size - i = p.size from by omega]
    rfl
  constructor
  · intro h; rw [← e2, h]; simp
  · intro h
    have h2 : bs (s.extract i (i + p.size)) = bs p := by rw [e2]; simpa using h
    rw [← tx_bs (s.extract i (i + p.size)), h2, tx_bs]
/-- what cut answers -/
def CutIs (s p : ByteArray) (e : Ending) : Prop := e = .returned (.tuple #[.string (tx (Lib.cut (bs s) (bs p)).1), .string (tx (Lib.cut (bs s) (bs p)).2.1), .bool (Lib.cut (bs s) (bs p)).2.2])
theorem cut_any (s p : ByteArray) (hp : p.size ≤ 3) (hs : s.size ≤ 1000000) (w : World) :
    Calls Tryd.prog 27 #[.string s, .string p] w fun e w' => CutIs s p e ∧ Ext w w' := by
  rcases Lib.index_spec (bs s) (bs p) with ⟨h1, h2⟩ | ⟨I, h1, h2, h3, h4⟩
  · have HR := hid (Lib.cutB_miss s p h1)
    have HN := hid h2
    clear h1 h2
    go_enter Tryd.func27, Tryd.ntmps27
    go_wp2_with fail
    go_loopw [7] (fun c wr => ∃ k : Nat, c = .int .i64 k ∧ k ≤ s.size + 1 ∧ Ext w wr) (fun c _ => s.size + 1 - (intOf c).toNat)
    case atStart => exact ⟨0, rfl, by omega, Ext.rf _⟩
    case round =>
      obtain ⟨k, rfl, hk, hx⟩ := hrel
      have hw1 : IntKind.i64.wrap ((k : Int) + (p.size : Int)) = ((k + p.size : Nat) : Int) := by rw [IntKind.wrap_i64]; omega
      by_cases hlt : k + p.size ≤ s.size
      · have hlt' : ((k + p.size : Nat) : Int) ≤ (s.size : Int) := by omega
        have hno := nameF (x := s.extract k (k + p.size)) (y := p) fun e => by
          have := (ext_iff s p k hlt).1 e
          rw [HN.out k (by rw [bs_len]; omega)] at this
          cases this
        generalize hq : k + p.size = q at *
        go_wp2_with fail
        go_roundw
        case rel => exact ⟨k + 1, by go_num, by omega, hx⟩
        case measure => simp [intOf]; omega
      · have hlt' : ¬ ((k + p.size : Nat) : Int) ≤ (s.size : Int) := by omega
        generalize hq : k + p.size = q at *
        go_wp2_with fail
        go_ret3
        refine ⟨?_, hx⟩
        obtain ⟨a, b, c⟩ := HR.out
        unfold CutIs tx bs
        rw [a, b, c]; rfl
  · have hroom : I + p.size ≤ s.size := by
      have := Lib.index_room (bs s) (bs p) (by omega)
      rw [h1, bs_len, bs_len] at this; omega
    have HR := hid (Lib.cutB_hit s p I h1)
    have HN := hid h4
    have hyes := hid (nameT ((ext_iff s p I hroom).2 h3))
    clear h1 h2 h3 h4
    go_enter Tryd.func27, Tryd.ntmps27
    go_wp2_with fail
    go_loopw [7] (fun c wr => ∃ k : Nat, c = .int .i64 k ∧ k ≤ I ∧ Ext w wr) (fun c _ => s.size + 1 - (intOf c).toNat)
    case atStart => exact ⟨0, rfl, by omega, Ext.rf _⟩
    case round =>
      obtain ⟨k, rfl, hk, hx⟩ := hrel
      have hw1 : IntKind.i64.wrap ((k : Int) + (p.size : Int)) = ((k + p.size : Nat) : Int) := by rw [IntKind.wrap_i64]; omega
      have hlt : k + p.size ≤ s.size := by omega
      have hlt' : ((k + p.size : Nat) : Int) ≤ (s.size : Int) := by omega
      by_cases hkI : k < I
      · have hno := nameF (x := s.extract k (k + p.size)) (y := p) fun e => by
          have := (ext_iff s p k hlt).1 e
          rw [HN.out k hkI] at this
          cases this
        generalize hq : k + p.size = q at *
        go_wp2_with fail
        go_roundw
        case rel => exact ⟨k + 1, by go_num, by omega, hx⟩
        case measure => simp [intOf]; omega
      · obtain rfl : k = I := by omega
        have hye := hyes.out
        have HQ := hid (show k + p.size ≤ s.size from hlt)
        obtain ⟨q, hq⟩ : ∃ q, k + p.size = q := ⟨_, rfl⟩
        rw [hq] at hw1 hlt hlt' hye
        have c1 : (0 : Int) ≤ k := by omega
        have c2 : (k : Int) ≤ s.size := by omega
        have c3 : (0 : Int) ≤ q := by omega
        have c5 : (k : Int) ≤ q := by omega
        have c6 : (q : Int) ≤ s.size := by omega
        have HQ2 := hid hq
        clear hq
        go_wp2_with fail
        go_quiet (fail)
        go_wp2_with fail
        go_ret3
        refine ⟨?_, hx.dn _⟩
        obtain ⟨a, b, c⟩ := HR.out
        unfold CutIs tx bs
        rw [a, b, c, HQ2.out]; rfl
/-! ### said -/
def saidF (l : By) : Int := l.foldl (fun n b => 10 * n + (b.toNat : Int) - 48) 0
theorem saidF_snoc (l : By) (b : UInt8) : saidF (l ++ [b]) = 10 * saidF l + (b.toNat : Int) - 48 := by unfold saidF; simp
def bnd : Nat → Int
  | 0 => 0
  | k + 1 => 10 * bnd k + 270
theorem bnd_le : ∀ k, k ≤ 6 → bnd k ≤ 30000000 := by decide
theorem saidF_bnd (l : By) : ∀ k, k ≤ l.length → -bnd k ≤ saidF (l.take k) ∧ saidF (l.take k) ≤ bnd k
  | 0, _ => by simp [saidF, bnd]
  | k + 1, h => by
    have ih := saidF_bnd l k (by omega)
    have hb : l[k].toNat < 256 := l[k].toNat_lt
    rw [show l.take (k + 1) = l.take k ++ [l[k]] from by simp, saidF_snoc, bnd]
    omega
theorem said_any (s : ByteArray) (hs : s.size ≤ 1000000) (w : World) :
    Calls Tryd.prog 28 #[.string s] w fun e w' => e = .returned (.int .i64 (saidR (bs s))) ∧ Ext w w' := by
  by_cases h : 1 ≤ s.size ∧ s.size ≤ 6
  · have hR := hid (show saidR (bs s) = saidF (bs s) from by unfold saidR; rw [if_pos (by rw [bs_len]; exact h)]; rfl)
    have C := hid (fun (W : World) => within_yes (s.size : Int) 1 6 W (by omega) (by omega))
    have h1 := h.1
    have h6 := h.2
    clear h
    go_enter Tryd.func28, Tryd.ntmps28
    go_wp2_with fail
    refine (C.out _).mono ?_
    rintro e w1 ⟨rfl, rfl⟩
    clear C
    go_wp2_with fail
    go_loopw [3, 4] (fun m c wr => ∃ (k : Nat) (n : Int), c = .int .i64 k ∧ m = .int .i64 n ∧ k ≤ s.size ∧ Hid (n = saidF ((bs s).take k)) ∧ Ext w1 wr) (fun m c _ => s.size - (intOf c).toNat)
    case atStart => exact ⟨0, 0, rfl, rfl, by omega, hid rfl, Ext.rf _⟩
    case round =>
      obtain ⟨k, n, rfl, rfl, hk, HN, hx⟩ := hrel
      have hbd := saidF_bnd (bs s) k (by rw [bs_len]; exact hk)
      rw [← HN.out] at hbd
      have hb6 := bnd_le k (by omega)
      have hn1 : -30000000 ≤ n := by omega
      have hn2 : n ≤ 30000000 := by omega
      clear hbd hb6
      by_cases hlt : k < s.size
      · have hlt' : (k : Int) < (s.size : Int) := by omega
        have hix := fun w => index_str s k hlt w
        have HB := hid (show (byteAt s k : Int) = ((bs s)[k]'(by rw [bs_len]; exact hlt)).toNat from by rw [byteAt_get s k hlt]; rfl)
        have hb : byteAt s k < 256 := by rw [byteAt_get s k hlt]; exact (s[k]'hlt).toNat_lt
        have HN2 := hid (show 10 * n + (byteAt s k : Int) - 48 = saidF ((bs s).take (k + 1)) from by
          rw [show (bs s).take (k + 1) = (bs s).take k ++ [(bs s)[k]'(by rw [bs_len]; exact hlt)] from by simp, saidF_snoc, ← HN.out, ← HB.out])
        clear HN HB
        generalize byteAt s k = x at *
        have w1 : IntKind.i64.wrap (10 * n) = 10 * n := by rw [IntKind.wrap_i64]; omega
        have w2 : IntKind.i64.wrap (10 * n + x) = 10 * n + x := by rw [IntKind.wrap_i64]; omega
        have w3 : IntKind.i64.wrap (10 * n + x - 48) = 10 * n + x - 48 := by rw [IntKind.wrap_i64]; omega
        have w4 : IntKind.i64.wrap (x : Int) = (x : Int) := by rw [IntKind.wrap_i64]; omega
        go_wp2_with fail
        go_roundw
        case rel => exact ⟨k + 1, _, by go_num, rfl, by omega, HN2, hx⟩
        case measure => simp [intOf]; omega
      · have hlt' : ¬ (k : Int) < (s.size : Int) := by omega
        go_wp2_with fail
        go_ret
        refine ⟨?_, hx⟩
        have := HN.out
        rw [List.take_of_length_le (by rw [bs_len]; omega)] at this
        rw [hR.out, ← this]; rfl
  · have hR := hid (show saidR (bs s) = 0 from by unfold saidR; rw [if_neg (by rw [bs_len]; exact h)])
    have C := hid (fun (W : World) => within_no (s.size : Int) 1 6 W (by omega))
    clear h
    go_enter Tryd.func28, Tryd.ntmps28
    go_wp2_with fail
    refine (C.out _).mono ?_
    rintro e w1 ⟨rfl, rfl⟩
    go_wp2_with fail
    go_ret
    exact ⟨by rw [hR.out]; rfl, Ext.rf _⟩
end Go.Proofs.YtdcndkojmflhnaaDoor
