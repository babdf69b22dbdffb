/- Walk of the reference's OverOf. -/
import Derived.Test.YtoclbapkgfmphaaReqE
set_option linter.unusedVariables false
namespace Go.Proofs.Ytoclbapkgfmphaa
open Go.RowKit

set_option maxRecDepth 100000 in
set_option maxHeartbeats 4000000 in
theorem OverOf_ok (w : World) (pv bv : Value) (r : Request) (b : List Bite) (hr : ReqOk r) (h1z : 1 ≤ b.length) (hv : PiecesV w pv r.Pieces) (hb : BitesV w bv b) :
    Calls Try.prog 124 #[.agg #[.int .i64 r.Queue, .int .i64 r.From, .int .i64 r.Until, .int .i64 r.Kind, pv], bv] w (RetInt2 w (overR r b)) := by
  have S := hid (fun (W : World) (h : Ext w W) => shaped_any W pv r (hv.mono h))
  rw [deT hr] at S
  obtain ⟨m1, m3⟩ := hr.many
  have HN := hid (fun (k : Nat) (h : BiteIn r b k) => over_num hr h)
  have HY := hid (fun (h : ∀ k, k < b.length → BiteIn r b k) => overR_yes hr h1z h)
  have HB := hid (fun (k : Nat) (hk : k < b.length) (h : ¬ BiteIn r b k) => overR_no (r := r) (fun h' => h (h'.2.2 k hk)))
  obtain ⟨pb, po, pc, rfl, hpc, hpc9, hpb, hpE⟩ := pieces_at hv m1
  obtain ⟨bb, bo, bc, rfl, hbc, hbc9, hbl, hbb, hbE⟩ : ∃ bb bo bc, bv = .slice (some ⟨bb, bo, none⟩) b.length bc ∧ b.length ≤ bc ∧ bc ≤ 9223372036854775807 ∧ b.length ≤ 17592186044416 ∧ bb < w.heap.size ∧ ∀ k x, b[k]? = some x → EBite w bb (bo + k * 2) x := by
    rcases hb with ⟨rfl, _⟩ | ⟨b', off, cap, rfl, h1, h2, h3, h4, h5⟩
    · simp at h1z
    · exact ⟨b', off, cap, rfl, h1, h2, h3, h4, h5⟩
  have HPE := hid hpE
  have HBE := hid hbE
  clear hv hb hpE hbE hr
  generalize hn : r.Pieces.length = n at *
  have Hn := hid hn
  generalize hz : b.length = z at *
  have Hz := hid hz
  clear hn hz
  have hz0 := eqF (a := (z : Int)) (b := 0) (by omega)
  have hM0 := hid (show maxTo (overA r b) 0 = overA r b 0 from rfl)
  have hMS := hid (show ∀ k, maxTo (overA r b) (k + 1) = max (maxTo (overA r b) k) (overA r b (k + 1)) from fun _ => rfl)
  go_enter Try.func124, Try.ntmps124
  go_wp2_with fail
  refine (S.out _ ((Ext.rf w).al _)).mono ?_
  rintro e w1 ⟨rfl, hx1⟩
  have hal := hid (((Ext.rf w).al _).tr hx1)
  have Hbox := hid (fun (W : World) (h : Ext w1 W) => reqCells (hx1.tr h))
  have hBw : w.heap.size < w1.heap.size := by have := hx1.size; simp at this; omega
  clear hx1
  go_wp2_with fail
  go_loopw [6, 7] (fun mv c wr => ∃ (k : Nat) (m : Int), mv = .int .i64 m ∧ c = .int .i64 k ∧ k ≤ z ∧ Hid (0 < k → m = maxTo (overA r b) (k - 1)) ∧ Hid (∀ j, j < k → BiteIn r b j) ∧ Ext w1 wr) (fun _ c _ => z - (intOf c).toNat)
  case atStart => exact ⟨0, 0, rfl, rfl, by omega, hid (fun h => absurd h (Nat.lt_irrefl _)), hid (fun j hj => absurd hj (Nat.not_lt_zero _)), Ext.rf _⟩
  case round =>
    obtain ⟨k, m, rfl, rfl, hk, HM, Hall, hx⟩ := hrel
    have hxw := hal.out.tr hx
    have hsz := hx.size
    have hBr : w.heap.size < wr.heap.size := by omega
    have hpr : pb < wr.heap.size := by omega
    obtain ⟨z0, z1, z2, z3, z4⟩ := Hbox.out wr hx
    by_cases hlt : k < z
    · have hlt' : (k : Int) < (z : Int) := by omega
      obtain ⟨x, hxk⟩ := getA (f := b) (k := k) (by rw [Hz.out]; exact hlt)
      obtain ⟨e1, e2⟩ := bite_at hxk
      obtain ⟨c1, c2, _, _⟩ := E2.mono w wr bb _ x hxw (HBE.out k x hxk)
      have hbr : bb < wr.heap.size := by omega
      by_cases t1 : 0 ≤ x.Piece ∧ x.Piece ≤ (n : Int) - 1
      · have W1 := hid (fun (W : World) => within_yes x.Piece 0 ((n : Int) - 1) W t1.1 t1.2)
        by_cases t2 : 0 ≤ x.At ∧ x.At ≤ 48
        · have W2 := hid (fun (W : World) => within_yes x.At 0 48 W t2.1 t2.2)
          obtain ⟨t1a, t1b⟩ := t1
          obtain ⟨t2a, t2b⟩ := t2
          have hin : BiteIn r b k := ⟨by rw [e1]; omega, by rw [e1, Hn.out]; omega, by rw [e2]; omega, by rw [e2]; omega⟩
          have Hs := hid (show ∀ j, j < k + 1 → BiteIn r b j from fun j hj => by
            by_cases e : j = k
            · subst e; exact hin
            · exact Hall.out j (by omega))
          obtain ⟨j, hpj⟩ : ∃ j : Nat, x.Piece = j := ⟨x.Piece.toNat, by omega⟩
          have hjn : j < n := by omega
          obtain ⟨y, hyk⟩ := getA (f := r.Pieces) (k := j) (by rw [Hn.out]; exact hjn)
          obtain ⟨ey, _⟩ := piece_at hyk
          obtain ⟨d1, _, _, _⟩ := E2.mono w wr pb _ y hxw (HPE.out j y hyk)
          obtain ⟨_, _, l1, l2⟩ := HN.out k hin
          rw [e1, hpj, Int.toNat_natCast, ey] at l1 l2
          rw [hpj] at c1 W1 t1b
          have ho2 := hid (show overA r b k = x.At + y.Len from by unfold overA; rw [e1, e2, hpj, Int.toNat_natCast, ey])
          have hwr : (IntKind.i64.wrap (x.At + y.Len)) = x.At + y.Len := by rw [IntKind.wrap_i64]; omega
          by_cases hk0 : k = 0
          · subst hk0
            have hms := hid (show 0 < 0 + 1 → x.At + y.Len = maxTo (overA r b) (0 + 1 - 1) from fun _ => by rw [Nat.zero_add, Nat.sub_self, hM0.out, ho2.out])
            rw [Nat.zero_mul, Nat.add_zero] at c1 c2
            clear hxk e1 e2 Hall hyk ey hin hpj HM
            go_wp2_with fail
            go_quiet (first | (with_reducible exact Calls.quiet_of_same (W1.out _)) | (with_reducible exact Calls.quiet_of_same (W2.out _)))
            go_wp2_with fail
            go_quiet (fail)
            clear hwr
            go_wp2_with fail
            go_roundw
            case rel => exact ⟨0 + 1, _, rfl, by first | rfl | go_num, by omega, hms, Hs, hx.dn _⟩
            case measure => simp [intOf]; omega
          · have hkf := eqF (a := (k : Int)) (b := 0) (by omega)
            have hm := hid (HM.out (by omega))
            by_cases hgt : m < x.At + y.Len
            · have hgd := deT hgt
              have hms := hid (show 0 < k + 1 → x.At + y.Len = maxTo (overA r b) (k + 1 - 1) from fun _ => by
                rw [show k + 1 - 1 = (k - 1) + 1 by omega, hMS.out, ← hm.out, show k - 1 + 1 = k by omega, ho2.out]; omega)
              clear hxk e1 e2 Hall hyk ey hin hpj HM hk0
              go_wp2_with fail
              go_quiet (first | (with_reducible exact Calls.quiet_of_same (W1.out _)) | (with_reducible exact Calls.quiet_of_same (W2.out _)))
              go_wp2_with fail
              go_quiet (fail)
              clear hwr
              go_wp2_with fail
              go_roundw
              case rel => exact ⟨k + 1, _, rfl, by go_num, by omega, hms, Hs, hx.dn _⟩
              case measure => simp [intOf]; omega
            · have hgd := deF hgt
              have hms := hid (show 0 < k + 1 → m = maxTo (overA r b) (k + 1 - 1) from fun _ => by
                rw [show k + 1 - 1 = (k - 1) + 1 by omega, hMS.out, ← hm.out, show k - 1 + 1 = k by omega, ho2.out]; omega)
              clear hxk e1 e2 Hall hyk ey hin hpj HM hk0
              go_wp2_with fail
              go_quiet (first | (with_reducible exact Calls.quiet_of_same (W1.out _)) | (with_reducible exact Calls.quiet_of_same (W2.out _)))
              go_wp2_with fail
              go_quiet (fail)
              clear hwr
              go_wp2_with fail
              go_roundw
              case rel => exact ⟨k + 1, _, rfl, by go_num, by omega, hms, Hs, hx.dn _⟩
              case measure => simp [intOf]; omega
        · have W2 := hid (fun (W : World) => within_no x.At 0 48 W t2)
          have Hr := hid (HB.out k hlt (fun h => t2 (by have := h.at0; have := h.at48; rw [e2] at *; exact ⟨by assumption, by assumption⟩)))
          clear hxk e1 e2 Hall HM t1 t2
          go_wp2_with fail
          go_quiet (first | (with_reducible exact Calls.quiet_of_same (W1.out _)) | (with_reducible exact Calls.quiet_of_same (W2.out _)))
          go_wp2_with fail
          go_ret2
          exact retInt2_of Hr.out (hal.out.tr (hx.dn _))
      · have W1 := hid (fun (W : World) => within_no x.Piece 0 ((n : Int) - 1) W t1)
        have Hr := hid (HB.out k hlt (fun h => t1 (by have h1 := h.low; have h2 := h.is; rw [e1] at h1 h2; rw [Hn.out] at h2; exact ⟨h1, by omega⟩)))
        clear hxk e1 e2 Hall HM t1
        go_wp2_with fail
        go_quiet ((with_reducible exact Calls.quiet_of_same (W1.out _)))
        go_wp2_with fail
        go_ret2
        exact retInt2_of Hr.out (hal.out.tr (hx.dn _))
    · have hlt' : ¬ (k : Int) < (z : Int) := by omega
      obtain rfl : k = z := by omega
      have Hr := hid (HY.out (fun j hj => Hall.out j hj))
      have hm := hid (HM.out (by omega))
      rw [← hm.out] at Hr
      clear HM Hall
      go_wp2_with fail
      go_ret2
      exact retInt2_of Hr.out (hal.out.tr hx)

theorem OverOf_any (w : World) (pv bv : Value) (r : Request) (b : List Bite) (hv : PiecesV w pv r.Pieces) (hb : BitesV w bv b) :
    Calls Try.prog 124 #[.agg #[.int .i64 r.Queue, .int .i64 r.From, .int .i64 r.Until, .int .i64 r.Kind, pv], bv] w (RetInt2 w (overR r b)) := by
  by_cases h1 : 1 ≤ b.length
  · by_cases hr : ReqOk r
    · exact OverOf_ok w pv bv r b hr h1 hv hb
    · have S := hid (fun (W : World) (h : Ext w W) => shaped_any W pv r (hv.mono h))
      rw [deF hr] at S
      have Hr := hid (overR_no (r := r) (b := b) (fun h => hr h.1))
      have hz0 := eqF (a := (b.length : Int)) (b := 0) (by omega)
      obtain ⟨pa, pc, rfl, hpc, _, hpl⟩ := hv.form
      obtain ⟨ba, bc, rfl, hbc, _, hbl⟩ := hb.form
      clear hv hb hr
      generalize r.Pieces.length = n at *
      generalize b.length = z at *
      go_enter Try.func124, Try.ntmps124
      go_wp2_with fail
      refine (S.out _ ((Ext.rf w).al _)).mono ?_
      rintro e w1 ⟨rfl, hx1⟩
      go_wp2_with fail
      go_ret2
      exact retInt2_of Hr.out (((Ext.rf w).al _).tr hx1)
  · have Hr := hid (overR_no (r := r) (b := b) (fun h => h1 h.2.1))
    obtain ⟨pa, pc, rfl, hpc, _, hpl⟩ := hv.form
    obtain ⟨ba, bc, rfl, hbc, _, hbl⟩ := hb.form
    have h0 : b.length = 0 := by omega
    rw [h0]
    clear hv hb h1 h0
    generalize r.Pieces.length = n at *
    go_enter Try.func124, Try.ntmps124
    go_wp2_with fail
    go_ret2
    exact retInt2_of Hr.out ((Ext.rf w).al _)

end Go.Proofs.Ytoclbapkgfmphaa
