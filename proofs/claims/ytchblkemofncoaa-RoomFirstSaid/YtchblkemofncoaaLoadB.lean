/- Walk of load.One: what one book takes. -/
import Derived.Test.YtchblkemofncoaaLoadA
import Derived.Test.YtchblkemofncoaaFind
import Derived.Test.YtchblkemofncoaaReqE
import Derived.Test.YtchblkemofncoaaLawA
set_option linter.unusedVariables false
namespace Go.Proofs.Ytchblkemofncoaa
open Go.RowKit

/-- what the first k bites of a book take at a time -/
def takesUp (x : Book) : Nat → Nat → Int
  | 0 => fun _ => 0
  | k + 1 => fun t => takesUp x k t + hillT (bA x.Bites k).toNat ((bA x.Bites k).toNat + (pL x.Req (bP x.Bites k).toNat).toNat) (pN x.Req (bP x.Bites k).toNat) t
/-- what a book takes at a time -/
def takesT (x : Book) : Nat → Int := takesUp x x.Bites.length

theorem takesUp_num {x : Book} (hr : ReqOk x.Req) (hin : ∀ k, k < x.Bites.length → BiteIn x.Req x.Bites k) : ∀ k, k ≤ x.Bites.length → ∀ t, 0 ≤ takesUp x k t ∧ takesUp x k t ≤ 50 * (k : Int)
  | 0, _, t => ⟨Int.le_refl _, Int.le_refl _⟩
  | k + 1, hk, t => by
    obtain ⟨h1, h2⟩ := takesUp_num hr hin k (by omega) t
    obtain ⟨_, q4⟩ := req_range hr
    have hb := hin k (by omega)
    obtain ⟨_, p3, p4⟩ := q4 (bP x.Bites k).toNat (by have := hb.low; have := hb.is; omega)
    simp only [takesUp]
    unfold hillT
    split <;> omega

theorem fold_zero : fold (fun _ => (0 : Int)) = [⟨0, 0⟩] := by decide +kernel

theorem sum_any (a b : Int) (w : World) (ha : -1000000000 ≤ a ∧ a ≤ 1000000000) (hb : -1000000000 ≤ b ∧ b ≤ 1000000000) : Calls Try.prog 141 #[.int .i64 a, .int .i64 b] w fun e w' => e = .returned (.int .i64 (a + b)) ∧ w' = w := by
  obtain ⟨a1, a2⟩ := ha
  obtain ⟨b1, b2⟩ := hb
  go_enter Try.func141, Try.ntmps141
  go_wp2
  go_ret
  exact ⟨rfl, rfl⟩

/-- Zip of two that are folded, by sum -/
theorem zip_sum (w : World) (vf vg : Value) (x y : Nat → Int) (hf : RunsV w vf (fold x)) (hg : RunsV w vg (fold y)) (hx : ∀ t, t < 48 → -100000000 ≤ x t ∧ x t ≤ 100000000) (hy : ∀ t, t < 48 → -100000000 ≤ y t ∧ y t ≤ 100000000) :
    Calls Try.prog 118 #[vf, vg, .func (.func 141) #[] #[]] w (RetRunsF w (fold fun t => x t + y t)) := by
  have h := Zip_anyF w vf vg _ _ hf hg (shape_fold x) (shape_fold y) 141 (fun a b => a + b) (enters_of Try.func141 (by kernel_rfl) rfl) (fun a ha b hb => by
    have h1 := fold_all (p := fun m => -100000000 ≤ m ∧ m ≤ 100000000) hx a ha
    have h2 := fold_all (p := fun m => -100000000 ≤ m ∧ m ≤ 100000000) hy b hb
    exact ⟨I64.of (by omega) (by omega), fun V => sum_any _ _ V ⟨by omega, by omega⟩ ⟨by omega, by omega⟩⟩)
  rw [fold_congr (y := fun t => x t + y t) (fun t ht => by rw [sp_fold ht, sp_fold ht])] at h
  exact h

set_option maxRecDepth 100000 in
set_option maxHeartbeats 4000000 in
theorem One_any (w : World) (pv bv : Value) (x : Book) (hp : PiecesV w pv x.Req.Pieces) (hb : BitesV w bv x.Bites) (hr : ReqOk x.Req) (hin : ∀ k, k < x.Bites.length → BiteIn x.Req x.Bites k) (h3 : x.Bites.length ≤ 3) (hfit : ∀ k, k < x.Bites.length → bA x.Bites k + pL x.Req (bP x.Bites k).toNat ≤ 48) :
    Calls Try.prog 140 #[.agg #[.int .i64 x.Id, .int .i64 x.Req.Queue, .int .i64 x.Req.From, .int .i64 x.Req.Until, .int .i64 x.Req.Kind, pv, bv]] w (RetRuns w (fold (takesT x))) := by
  obtain ⟨⟨q1, q2, q3⟩, q4⟩ := req_range hr
  obtain ⟨m1, m3⟩ := hr.many
  have HT := hid (takesUp_num hr hin)
  obtain ⟨pb, po, pc, rfl, hpc, hpc9, hpb, hpE⟩ := pieces_at hp (by omega)
  have HPE := hid hpE
  have HQ := hid q4
  have HIN := hid hin
  have HFT := hid hfit
  obtain ⟨ba, bc, rfl, hbc, hbc9, hbl, hbE⟩ := bites_at hb
  have HBE := hid hbE
  have H0 := hid (show takesUp x 0 = fun _ => 0 from rfl)
  have H1 := hid (show ∀ k, takesUp x (k + 1) = fun t => takesUp x k t + hillT (bA x.Bites k).toNat ((bA x.Bites k).toNat + (pL x.Req (bP x.Bites k).toNat).toNat) (pN x.Req (bP x.Bites k).toNat) t from fun _ => rfl)
  have hTT : takesT x = takesUp x x.Bites.length := rfl
  rw [hTT]
  clear hp hb hpE hin hr q4 hbE hTT hfit
  generalize hnn : x.Req.Pieces.length = n at *
  have Hnn := hid hnn
  clear hnn
  generalize hzz : x.Bites.length = z at *
  have Hz := hid hzz
  clear hzz
  generalize takesUp x = tu at *
  go_enter Try.func140, Try.ntmps140
  go_wp2_with fail
  have hx1 := ((Ext.rf w).al (.cells #[.int .i64 x.Id, .int .i64 x.Req.Queue, .int .i64 x.Req.From, .int .i64 x.Req.Until, .int .i64 x.Req.Kind, .slice (some ⟨pb, po, none⟩) n pc, .slice ba z bc] 137)).al (.cells #[.int .i64 0, .int .i64 0] 79)
  have hZ := runs_lit (w := w.alloc (.cells #[.int .i64 x.Id, .int .i64 x.Req.Queue, .int .i64 x.Req.From, .int .i64 x.Req.Until, .int .i64 x.Req.Kind, .slice (some ⟨pb, po, none⟩) n pc, .slice ba z bc] 137)) (cs := #[.int .i64 0, .int .i64 0]) (b := w.heap.size + 1) (n := 1) [⟨0, 0⟩] (by simp) rfl rfl (by decide) (lit_nums (by decide +kernel))
  have hbk := bookCells ((Ext.rf (w.alloc (.cells #[.int .i64 x.Id, .int .i64 x.Req.Queue, .int .i64 x.Req.From, .int .i64 x.Req.Until, .int .i64 x.Req.Kind, .slice (some ⟨pb, po, none⟩) n pc, .slice ba z bc] 137))).al (.cells #[.int .i64 0, .int .i64 0] 79))
  generalize (w.alloc (.cells #[.int .i64 x.Id, .int .i64 x.Req.Queue, .int .i64 x.Req.From, .int .i64 x.Req.Until, .int .i64 x.Req.Kind, .slice (some ⟨pb, po, none⟩) n pc, .slice ba z bc] 137)).alloc (.cells #[.int .i64 0, .int .i64 0] 79) = w1 at *
  have HX1 := hid hx1
  have HZ := hid hZ
  have HBK := hid hbk.2.2.2.2.1
  clear hx1 hZ hbk
  go_loopw [3, 12] (fun v c wr => ∃ (k : Nat) (ga : Option Addr) (gn gc : Nat), v = .slice ga gn gc ∧ c = .int .i64 k ∧ k ≤ z ∧ Hid (RunsV wr (.slice ga gn gc) (fold (tu k))) ∧ Ext w1 wr) (fun _ c _ => z - (intOf c).toNat)
  case atStart => exact ⟨0, _, 1, 1, rfl, rfl, by omega, hid (by rw [H0.out, fold_zero]; exact HZ.out), Ext.rf _⟩
  case round =>
    obtain ⟨k, ga, gn, gc, rfl, rfl, hk, Hf, hx⟩ := hrel
    by_cases hlt : k < z
    · have hlt' : (k : Int) < (z : Int) := by omega
      obtain ⟨y, hyk⟩ := getA (f := x.Bites) (k := k) (by rw [Hz.out]; exact hlt)
      obtain ⟨bb, bo, rfl, hbb, hBE⟩ := HBE.out (by omega)
      obtain ⟨c1, c2, _, _⟩ := E2.mono w wr bb _ y (HX1.out.tr hx) (hBE k y hyk)
      obtain ⟨e1, e2⟩ := bite_at hyk
      have hI := HIN.out k hlt
      obtain ⟨j, hj⟩ := Int.eq_ofNat_of_zero_le (by have := hI.low; rw [e1] at this; exact this : 0 ≤ y.Piece)
      have hjn : j < n := by have := hI.is; rw [e1, hj, Hnn.out] at this; exact_mod_cast this
      have hA0 : 0 ≤ y.At := by have := hI.at0; rw [e2] at this; exact this
      have hA1 : y.At ≤ 48 := by have := hI.at48; rw [e2] at this; exact this
      obtain ⟨p, hpk⟩ := getA (f := x.Req.Pieces) (k := j) (by rw [Hnn.out]; exact hjn)
      obtain ⟨d1, d2, _, _⟩ := E2.mono w wr pb _ p (HX1.out.tr hx) (HPE.out j p hpk)
      obtain ⟨⟨p1, p2⟩, p3, p4⟩ := HQ.out j hjn
      obtain ⟨eL, eN⟩ := piece_at hpk
      rw [eL] at p1 p2
      rw [eN] at p3 p4
      have hnx := H1.out k
      rw [e1, e2, hj, Int.toNat_natCast, eL, eN] at hnx
      rw [hj] at c1
      have HNX := hid hnx
      have hfit := HFT.out k hlt
      rw [e1, e2, hj, Int.toNat_natCast, eL] at hfit
      have HH := hid (fun (V : World) => Hill_any V y.At (y.At + p.Len) p.N hA0 (by omega) hfit (I64.of (by omega) (by omega)))
      have hhe : hillL y.At (y.At + p.Len) p.N = fold (hillT y.At.toNat (y.At.toNat + p.Len.toNat) p.N) := by
        rw [show y.At = ((y.At.toNat : Nat) : Int) by omega, show ((y.At.toNat : Nat) : Int) + p.Len = ((y.At.toNat + p.Len.toNat : Nat) : Int) by omega, hillL_eq (by omega) (by omega)]
        simp only [Int.toNat_natCast]
      rw [hhe] at HH
      have HZZ := hid (fun (V : World) (vh : Value) (hV : Ext wr V) (hvh : RunsV V vh (fold (hillT y.At.toNat (y.At.toNat + p.Len.toNat) p.N))) => zip_sum V (.slice ga gn gc) vh (tu k) _ (Hf.out.mono hV) hvh (fun t _ => by have := HT.out k (by omega) t; omega) (fun t _ => by unfold hillT; split <;> omega))
      have hw1 : IntKind.i64.wrap (y.At + p.Len) = y.At + p.Len := by rw [IntKind.wrap_i64]; omega
      have hbx := (Ext.rf wr).al (.cells #[.int .i64 (j : Int), .int .i64 y.At] 54)
      have b5 := hbx.ce' (hx.ce' HBK.out)
      have d1' := hbx.ce' d1
      have d2' := hbx.ce' d2
      have hal := hid (fun (o1 o2 : Obj) => ((Ext.rf wr).al o1).al o2)
      clear e1 e2 hI hj hyk hpk eL eN hnx hBE hhe hfit hbx
      go_wp2_with fail
      refine (HH.out _).mono ?_
      rintro e w2 ⟨vh, rfl, hvh, hx2⟩
      have hx02 := hid ((hal.out _ _).tr hx2)
      have HVH := hid hvh
      clear hvh hx2
      go_wp2_with fail
      refine (HZZ.out _ _ hx02.out HVH.out).mono ?_
      rintro e w3 ⟨vz, rfl, hvz, _, hx3⟩
      obtain ⟨za, zc, rfl, _, _, _⟩ := hvz.form
      have HVZ := hid hvz
      clear hvz
      go_wp2_with fail
      go_roundw
      case rel => exact ⟨k + 1, za, _, zc, rfl, by go_num, by omega, hid (by rw [HNX.out]; exact HVZ.out), hx.tr (hx02.out.tr hx3)⟩
      case measure => simp [intOf]; omega
    · obtain rfl : k = z := by omega
      have hlt' : ¬ (k : Int) < (k : Int) := by omega
      go_wp2_with fail
      go_ret
      exact ⟨_, rfl, Hf.out, HX1.out.tr hx⟩

end Go.Proofs.Ytchblkemofncoaa
