/- Walk of req.Meets. -/
import Derived.Test.YtfbcmifclaaacaaReqA
import Derived.Test.YtfbcmifclaaacaaReqB
set_option linter.unusedVariables false
namespace Go.Proofs.Ytfbcmifclaaacaa
open Go.RowKit

theorem bites_at {w : World} {v : Value} {l : List Bite} (hv : BitesV w v l) : ∃ a cap, v = .slice a l.length cap ∧ l.length ≤ cap ∧ cap ≤ 9223372036854775807 ∧ l.length ≤ 17592186044416 ∧
    (1 ≤ l.length → ∃ b off, a = some ⟨b, off, none⟩ ∧ b < w.heap.size ∧ ∀ k x, l[k]? = some x → EBite w b (off + k * 2) x) := by
  rcases hv with ⟨rfl, a, cap, rfl, h⟩ | ⟨b, off, cap, rfl, h1, h2, h3, h4, h5⟩
  · exact ⟨a, cap, rfl, by simp, h, by simp, fun h => by simp at h⟩
  · exact ⟨_, cap, rfl, h1, h2, h3, fun _ => ⟨b, off, rfl, h4, h5⟩⟩


set_option maxRecDepth 100000 in
set_option maxHeartbeats 4000000 in
theorem Meets_ok (w : World) (pv bv : Value) (r : Request) (b : List Bite) (hr : ReqOk r) (hv : PiecesV w pv r.Pieces) (hb : BitesV w bv b) :
    Calls Try.prog 16 #[.agg #[.int .i64 r.Queue, .int .i64 r.From, .int .i64 r.Until, .int .i64 r.Kind, pv], bv] w fun e w' => e = .returned (.bool (meetsR r b)) ∧ Ext w w' := by
  have F := hid (fun (W : World) (h : Ext w W) => Form_any W pv r (hv.mono h))
  rw [formR_ok hr] at F
  obtain ⟨s1, s2, s3⟩ := hr.range.1
  obtain ⟨m1, m3⟩ := hr.many
  have HPk := hid hr.range.2
  have HB := hid (fun (k : Nat) (hk : k < b.length) (h : ¬ StepOk r b k) => meetsR_step (r := r) hk h)
  have HY := hid (fun (h : ∀ k, k < b.length → StepOk r b k) => meetsR_yes hr h)
  have hcnt := hid (show CountOk r b ↔ if r.Kind = 2 then b.length = 1 else b.length = r.Pieces.length from Iff.rfl)
  obtain ⟨pb, po, pc, rfl, hpc, hpc9, hpb, hpE⟩ := pieces_at hv m1
  obtain ⟨ba, bc, rfl, hbc, hbc9, hbl, hbE⟩ := bites_at hb
  have HPE := hid hpE
  have HBE := hid hbE
  have hk1 := hr.kind.1
  have hk4 := hr.kind.2
  clear hv hb hpE hbE hr
  generalize hn : r.Pieces.length = n at *
  have Hn := hid hn
  generalize hz : b.length = z at *
  have Hz := hid hz
  have HL0 := hid (show lastP b 0 = -1 from rfl)
  have HA0 := hid (show endA r b 0 = -1 from rfl)
  clear hn hz
  go_enter Try.func16, Try.ntmps16
  go_wp2_with fail
  refine (F.out _ ((Ext.rf w).al _)).mono ?_
  rintro e w1 ⟨rfl, hx1⟩
  have hal := hid (((Ext.rf w).al _).tr hx1)
  have Hbox := hid (fun (W : World) (h : Ext w1 W) => reqCells (hx1.tr h))
  have hBw : w.heap.size < w1.heap.size := by have := hx1.size; simp at this; omega
  clear hx1
  go_wp2_with fail
  go_loopw [7, 8, 21] (fun lv av c wr => ∃ k : Nat, c = .int .i64 k ∧ k ≤ z ∧ Hid (lv = .int .i64 (lastP b k)) ∧ Hid (av = .int .i64 (endA r b k)) ∧ Hid (∀ j, j < k → StepOk r b j) ∧ Ext w1 wr) (fun _ _ c _ => z - (intOf c).toNat)
  case atStart => exact ⟨0, rfl, by omega, hid (by rw [HL0.out]), hid (by rw [HA0.out]), hid (fun j hj => absurd hj (Nat.not_lt_zero _)), Ext.rf _⟩
  case round =>
    obtain ⟨k, rfl, hk, hlv, hav, Hall, hx⟩ := hrel
    obtain ⟨q, hq⟩ : ∃ q, lastP b k = q := ⟨_, rfl⟩
    obtain ⟨a, ha⟩ : ∃ a, endA r b k = a := ⟨_, rfl⟩
    have hlv' := hlv.out
    have hav' := hav.out
    rw [hq] at hlv'
    rw [ha] at hav'
    subst hlv' hav'
    have HLs := hid hq
    have HAs := hid ha
    clear hlv hav hq ha
    have hxw := hal.out.tr hx
    have hBr : w.heap.size < wr.heap.size := by have := hx.size; omega
    have hpr : pb < wr.heap.size := by omega
    obtain ⟨z0, z1, z2, z3, z4⟩ := Hbox.out wr hx
    by_cases hlt : k < z
    · have hlt' : (k : Int) < (z : Int) := by omega
      obtain ⟨bb, bo, rfl, hbb, hbE⟩ := HBE.out (by omega)
      obtain ⟨x, hxk⟩ := getA (f := b) (k := k) (by rw [Hz.out]; exact hlt)
      obtain ⟨e1, e2⟩ := bite_at hxk
      obtain ⟨c1, c2, _, _⟩ := E2.mono w wr bb _ x hxw (hbE k x hxk)
      have hbr : bb < wr.heap.size := by omega
      clear hbE
      by_cases t1 : x.Piece ≤ q
      · have t1d := deT t1
        have Hr := hid (HB.out k hlt (fun h => by have := h.up; rw [HLs.out, e1] at this; omega))
        clear HLs HAs hxk e1 e2
        go_wp2_with fail
        go_ret
        exact ⟨(congrArg (fun b => Ending.returned (.bool b)) Hr.out).symm, hal.out.tr (hx.al _)⟩
      · have t1d := deF t1
        by_cases t2 : (n : Int) ≤ x.Piece
        · have t2d := deT t2
          have Hr := hid (HB.out k hlt (fun h => by have := h.is; rw [e1, Hn.out] at this; omega))
          clear HLs HAs hxk e1 e2
          go_wp2_with fail
          go_ret
          exact ⟨(congrArg (fun b => Ending.returned (.bool b)) Hr.out).symm, hal.out.tr (hx.al _)⟩
        · have t2d := deF t2
          by_cases t3 : x.At < r.From
          · have t3d := deT t3
            have Hr := hid (HB.out k hlt (fun h => by have := h.from_; rw [e2] at this; omega))
            clear HLs HAs hxk e1 e2
            go_wp2_with fail
            go_ret
            exact ⟨(congrArg (fun b => Ending.returned (.bool b)) Hr.out).symm, hal.out.tr (hx.al _)⟩
          · have t3d := deF t3
            by_cases t4 : r.Until < x.At
            · have t4d := deT t4
              have Hr := hid (HB.out k hlt (fun h => by have := h.until_; rw [e2] at this; omega))
              clear HLs HAs hxk e1 e2
              go_wp2_with fail
              go_ret
              exact ⟨(congrArg (fun b => Ending.returned (.bool b)) Hr.out).symm, hal.out.tr (hx.al _)⟩
            · have t4d := deF t4
              have hq0 : -1 ≤ q := by
                rw [← HLs.out]
                unfold lastP
                split
                · exact Int.le_refl _
                · have := step_low Hall.out (k - 1) (by omega); omega
              obtain ⟨j, hpj⟩ : ∃ j : Nat, x.Piece = j := ⟨x.Piece.toNat, by omega⟩
              have hjn : j < n := by omega
              obtain ⟨y, hyk⟩ := getA (f := r.Pieces) (k := j) (by rw [Hn.out]; exact hjn)
              obtain ⟨ey, _⟩ := piece_at hyk
              obtain ⟨d1, _, _, _⟩ := E2.mono w wr pb _ y hxw (HPE.out j y hyk)
              have hpo := HPk.out y (List.mem_of_getElem? hyk)
              obtain ⟨⟨l1, l2⟩, _⟩ := hpo
              rw [hpj] at c1
              by_cases t5 : r.Until - x.At < y.Len
              · have t5d := deT t5
                have Hr := hid (HB.out k hlt (fun h => by have := h.fits; rw [e1, e2, hpj, Int.toNat_natCast, ey] at this; omega))
                clear HLs HAs hxk e1 e2
                go_wp2_with fail
                go_ret
                exact ⟨(congrArg (fun b => Ending.returned (.bool b)) Hr.out).symm, hal.out.tr (hx.al _)⟩
              · have t5d := deF t5
                by_cases hk0 : k = 0
                · have haq : a = -1 := by rw [← HAs.out, hk0, HA0.out]
                  subst haq
                  have Hs := hid (show ∀ j, j < k + 1 → StepOk r b j from fun j hj => by
                    by_cases e : j = k
                    · subst e
                      exact ⟨by rw [HLs.out, e1]; omega, by rw [e1, Hn.out]; omega, by rw [e2]; omega, by rw [e2]; omega, by rw [e1, e2, hpj, Int.toNat_natCast, ey]; omega, fun h => by omega, fun h => by omega⟩
                    · exact Hall.out j (by omega))
                  have hl2 := hid (show lastP b (k + 1) = (j : Int) from by unfold lastP; rw [if_neg (by omega), Nat.add_sub_cancel, e1, hpj])
                  have ha2 := hid (show endA r b (k + 1) = x.At + y.Len from by unfold endA; rw [if_neg (by omega), Nat.add_sub_cancel, e1, e2, hpj, Int.toNat_natCast, ey])
                  clear HLs HAs hxk e1 e2 Hall hyk ey hk0
                  go_wp2_with fail
                  go_quiet (fail)
                  go_wp2_with fail
                  go_roundw
                  case rel => exact ⟨k + 1, by go_num, by omega, hid (congrArg (Value.int .i64) hl2.out.symm), hid (congrArg (Value.int .i64) ha2.out.symm), Hs, (hx.al _).dn _⟩
                  case measure => simp [intOf]; omega
                · have ha0 : 1 ≤ a := by
                    rw [← HAs.out]
                    unfold endA
                    rw [if_neg hk0]
                    have h1 := Hall.out (k - 1) (by omega)
                    have h2 := h1.from_
                    have h3 := step_low Hall.out (k - 1) (by omega)
                    obtain ⟨y', hy'⟩ := getA (f := r.Pieces) (k := (bP b (k - 1)).toNat) (by have := h1.is; omega)
                    have h4 := (HPk.out y' (List.mem_of_getElem? hy')).1.1
                    rw [(piece_at hy').1]
                    omega
                  have a0d := deF (show ¬ a < 0 by omega)
                  have hapx := Hall.out (k - 1) (by omega)
                  by_cases k3 : r.Kind = 3
                  · have k3t := eqT k3
                    have k4f := eqF (show ¬ r.Kind = 4 by omega)
                    by_cases t6 : x.At < a
                    · have t6d := deT t6
                      have Hr := hid (HB.out k hlt (fun h => by have := h.order (by omega) k3; rw [HAs.out, e2] at this; omega))
                      clear HLs HAs hxk e1 e2
                      go_wp2_with fail
                      go_ret
                      exact ⟨(congrArg (fun b => Ending.returned (.bool b)) Hr.out).symm, hal.out.tr (hx.al _)⟩
                    · have t6d := deF t6
                      have Hs := hid (show ∀ j, j < k + 1 → StepOk r b j from fun j hj => by
                        by_cases e : j = k
                        · subst e
                          exact ⟨by rw [HLs.out, e1]; omega, by rw [e1, Hn.out]; omega, by rw [e2]; omega, by rw [e2]; omega, by rw [e1, e2, hpj, Int.toNat_natCast, ey]; omega, fun _ _ => by rw [HAs.out, e2]; omega, fun _ h4 => by omega⟩
                        · exact Hall.out j (by omega))
                      have hl2 := hid (show lastP b (k + 1) = (j : Int) from by unfold lastP; rw [if_neg (by omega), Nat.add_sub_cancel, e1, hpj])
                      have ha2 := hid (show endA r b (k + 1) = x.At + y.Len from by unfold endA; rw [if_neg (by omega), Nat.add_sub_cancel, e1, e2, hpj, Int.toNat_natCast, ey])
                      clear HLs HAs hxk e1 e2 Hall hyk ey hk0 k3
                      go_wp2_with fail
                      go_quiet (fail)
                      go_wp2_with fail
                      go_roundw
                      case rel => exact ⟨k + 1, by go_num, by omega, hid (congrArg (Value.int .i64) hl2.out.symm), hid (congrArg (Value.int .i64) ha2.out.symm), Hs, (hx.al _).dn _⟩
                      case measure => simp [intOf]; omega
                  · have k3f := eqF k3
                    by_cases k4 : r.Kind = 4
                    · have k4t := eqT k4
                      by_cases t7 : x.At = a
                      · have t7d := neF t7
                        have Hs := hid (show ∀ j, j < k + 1 → StepOk r b j from fun j hj => by
                          by_cases e : j = k
                          · subst e
                            exact ⟨by rw [HLs.out, e1]; omega, by rw [e1, Hn.out]; omega, by rw [e2]; omega, by rw [e2]; omega, by rw [e1, e2, hpj, Int.toNat_natCast, ey]; omega, fun _ h3 => by omega, fun _ _ => by rw [HAs.out, e2]; exact t7⟩
                          · exact Hall.out j (by omega))
                        have hl2 := hid (show lastP b (k + 1) = (j : Int) from by unfold lastP; rw [if_neg (by omega), Nat.add_sub_cancel, e1, hpj])
                        have ha2 := hid (show endA r b (k + 1) = x.At + y.Len from by unfold endA; rw [if_neg (by omega), Nat.add_sub_cancel, e1, e2, hpj, Int.toNat_natCast, ey])
                        clear HLs HAs hxk e1 e2 Hall hyk ey hk0 k4 t7
                        go_wp2_with fail
                        go_quiet (fail)
                        go_wp2_with fail
                        go_roundw
                        case rel => exact ⟨k + 1, by go_num, by omega, hid (congrArg (Value.int .i64) hl2.out.symm), hid (congrArg (Value.int .i64) ha2.out.symm), Hs, (hx.al _).dn _⟩
                        case measure => simp [intOf]; omega
                      · have t7d := neT t7
                        have Hr := hid (HB.out k hlt (fun h => by have := h.tight (by omega) k4; rw [HAs.out, e2] at this; exact t7 this))
                        clear HLs HAs hxk e1 e2
                        go_wp2_with fail
                        go_ret
                        exact ⟨(congrArg (fun b => Ending.returned (.bool b)) Hr.out).symm, hal.out.tr (hx.al _)⟩
                    · have k4f := eqF k4
                      have Hs := hid (show ∀ j, j < k + 1 → StepOk r b j from fun j hj => by
                        by_cases e : j = k
                        · subst e
                          exact ⟨by rw [HLs.out, e1]; omega, by rw [e1, Hn.out]; omega, by rw [e2]; omega, by rw [e2]; omega, by rw [e1, e2, hpj, Int.toNat_natCast, ey]; omega, fun _ h3 => absurd h3 k3, fun _ h4 => absurd h4 k4⟩
                        · exact Hall.out j (by omega))
                      have hl2 := hid (show lastP b (k + 1) = (j : Int) from by unfold lastP; rw [if_neg (by omega), Nat.add_sub_cancel, e1, hpj])
                      have ha2 := hid (show endA r b (k + 1) = x.At + y.Len from by unfold endA; rw [if_neg (by omega), Nat.add_sub_cancel, e1, e2, hpj, Int.toNat_natCast, ey])
                      clear HLs HAs hxk e1 e2 Hall hyk ey hk0
                      go_wp2_with fail
                      go_quiet (fail)
                      go_wp2_with fail
                      go_roundw
                      case rel => exact ⟨k + 1, by go_num, by omega, hid (congrArg (Value.int .i64) hl2.out.symm), hid (congrArg (Value.int .i64) ha2.out.symm), Hs, (hx.al _).dn _⟩
                      case measure => simp [intOf]; omega
    · have hlt' : ¬ (k : Int) < (z : Int) := by omega
      obtain rfl : k = z := by omega
      have HR := hid (HY.out (fun j hj => Hall.out j hj))
      by_cases k2 : r.Kind = 2
      · have k2t := eqT k2
        by_cases hz1 : (k : Int) = 1
        · have hzt := eqT hz1
          have Hr := hid (show meetsR r b = true from by rw [HR.out]; exact decide_eq_true (hcnt.out.2 (by rw [if_pos k2]; omega)))
          clear HLs HAs Hall k2 hz1
          go_wp2_with fail
          go_ret
          exact ⟨(congrArg (fun b => Ending.returned (.bool b)) Hr.out).symm, hal.out.tr hx⟩
        · have hzt := eqF hz1
          have Hr := hid (show meetsR r b = false from by rw [HR.out]; exact decide_eq_false (fun h => by have := hcnt.out.1 h; rw [if_pos k2] at this; omega))
          clear HLs HAs Hall k2 hz1
          go_wp2_with fail
          go_ret
          exact ⟨(congrArg (fun b => Ending.returned (.bool b)) Hr.out).symm, hal.out.tr hx⟩
      · have k2f := eqF k2
        by_cases hz1 : (k : Int) = (n : Int)
        · have hzt := eqT hz1
          have Hr := hid (show meetsR r b = true from by rw [HR.out]; exact decide_eq_true (hcnt.out.2 (by rw [if_neg k2]; omega)))
          clear HLs HAs Hall k2 hz1
          go_wp2_with fail
          go_ret
          exact ⟨(congrArg (fun b => Ending.returned (.bool b)) Hr.out).symm, hal.out.tr hx⟩
        · have hzt := eqF hz1
          have Hr := hid (show meetsR r b = false from by rw [HR.out]; exact decide_eq_false (fun h => by have := hcnt.out.1 h; rw [if_neg k2] at this; omega))
          clear HLs HAs Hall k2 hz1
          go_wp2_with fail
          go_ret
          exact ⟨(congrArg (fun b => Ending.returned (.bool b)) Hr.out).symm, hal.out.tr hx⟩


theorem Meets_any (w : World) (pv bv : Value) (r : Request) (b : List Bite) (hv : PiecesV w pv r.Pieces) (hb : BitesV w bv b) :
    Calls Try.prog 16 #[.agg #[.int .i64 r.Queue, .int .i64 r.From, .int .i64 r.Until, .int .i64 r.Kind, pv], bv] w fun e w' => e = .returned (.bool (meetsR r b)) ∧ Ext w w' := by
  by_cases hr : ReqOk r
  · exact Meets_ok w pv bv r b hr hv hb
  · have F := hid (fun (W : World) (h : Ext w W) => Form_any W pv r (hv.mono h))
    obtain ⟨fe, fb, hf, hne⟩ := formR_bad hr
    rw [hf] at F
    rw [meetsR_form hr]
    have hne' := neT hne
    obtain ⟨pa, pc, rfl, hpc, _, hpl⟩ := hv.form
    obtain ⟨ba, bc, rfl, hbc, _, hbl⟩ := hb.form
    clear hv hb hf hr hne
    generalize r.Pieces.length = n at *
    generalize b.length = z at *
    go_enter Try.func16, Try.ntmps16
    go_wp2_with fail
    refine (F.out _ ((Ext.rf w).al _)).mono ?_
    rintro e w1 ⟨rfl, hx1⟩
    go_wp2_with fail
    go_ret
    exact ⟨rfl, ((Ext.rf w).al _).tr hx1⟩

end Go.Proofs.Ytfbcmifclaaacaa
