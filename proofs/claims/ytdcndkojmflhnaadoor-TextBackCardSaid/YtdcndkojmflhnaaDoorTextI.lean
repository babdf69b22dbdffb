/- strings.Lines, as a loop sees it. -/
import Derived.Test.YtdcndkojmflhnaaDoorTextH
set_option linter.unusedVariables false
set_option linter.unusedSimpArgs false
set_option maxRecDepth 100000
set_option maxHeartbeats 8000000
namespace Go.Proofs.YtdcndkojmflhnaaDoor
open Go.RowKit
attribute [local go_sem] Oper.semAt_some
/-- the text in a box -/
def boxText (B : Nat) (W : World) : Nat := match W.cell? ⟨B, 0, none⟩ with | some (.string x) => x.size | _ => 0
theorem boxText_of {W : World} {B : Nat} {t : TypeId} {x : ByteArray} (h : Boxed W B t (.string x)) : boxText B W = x.size := by unfold boxText; rw [h.cell]
theorem Lines_any (w : World) (s : ByteArray) :
    Calls Tryd.prog 22 #[.string s] w fun e w' => e = .returned (.func (.func 41) #[] #[.pointer (some ⟨w.heap.size, 0, none⟩)]) ∧ w' = w.alloc (.cells #[.string s] 9) := by
  go_enter Tryd.func22, Tryd.ntmps22
  go_wp2_with fail
  go_ret
  exact ⟨rfl, rfl⟩
theorem tx_extract (r : By) (a b : Nat) : (tx r).extract a b = tx ((r.drop a).take (b - a)) := by
  rw [← tx_bs ((tx r).extract a b)]
  congr 1
  unfold bs
  rw [Lib.extract_eq]
  simp [tx]
theorem head_cut (r : By) (k : Nat) : (tx r).extract 0 (k + 1) = tx (r.take (k + 1)) := by rw [tx_extract]; simp
theorem rest_cut (r : By) (k : Nat) : (tx r).extract (k + 1) r.length = tx (r.drop (k + 1)) := by
  rw [tx_extract, List.take_of_length_le (by simp)]
theorem grownDN (w : World) (n : Nat) : w.grownBy (w.drewN n) none := ⟨rfl, rfl, rfl, Nat.le_refl _, fun _ _ _ => rfl⟩
theorem lines1_in (n : Nat) (hn : 1 ≤ n) (y q : Nat) (s : By) (hs : s.length ≤ 4096) (J : List By → World → Prop) (Jp : List PanicEntry → World → Prop) (tJ : Turns q J)
    (hY : ∀ pre x post W, linesOf s = pre ++ x :: post → J pre W → YieldAt Fence.wide (n - 1) Tryd.prog y #[.string (tx x)] W fun e W' =>
      (e = .returned (.bool true) ∧ J (pre ++ [x]) W' ∧ KeepB [q] W W') ∨ (∃ ch, e = .panicked ch ∧ Jp ch W'))
    (W : World) (hB : Boxed W q 9 (.string (tx s))) (h0 : J [] W) :
    CallsIn Fence.wide n Tryd.prog 41 #[.func (.yield y) #[] #[], .pointer (some ⟨q, 0, none⟩)] W fun e W' => (∃ v, e = .returned v ∧ J (linesOf s) W') ∨ (∃ ch, e = .panicked ch ∧ Jp ch W') := by
  refine callsIn_of_wp Tryd.func41 rfl trivial ?_ rfl
  simp only [Tryd.ntmps41, List.size_toArray, List.length_cons, List.length_nil, Nat.reduceAdd, Nat.reduceSub, Array.replicate_succ, Array.replicate_zero, List.push_toArray, List.append_toArray, List.nil_append, List.cons_append]
  gi_wp2
  gi_loopw [] (fun wr => ∃ (pre : List By) (r : By), Boxed wr q 9 (.string (tx r)) ∧ r.length ≤ 4096 ∧ Hid (linesOf s = pre ++ linesOf r) ∧ J pre wr) (fun wr => boxText q wr)
  case atStart => exact ⟨[], s, hB, hs, hid rfl, h0⟩
  case round =>
    obtain ⟨pre, r, hBr, hrl, HL, hJ⟩ := hrel
    have hcq := hBr.cell
    have hrz := tx_size r
    by_cases hr : r = []
    · have HE := hid (show linesOf s = pre from by rw [HL.out, hr, linesOf_nil, List.append_nil])
      have h00 : ¬ (0 : Int) < ((tx r).size : Int) := by rw [hrz, hr]; simp
      clear hrz
      gi_wp2
      go_end0
      exact .inl ⟨⟨_, rfl⟩, by rw [HE.out]; exact hJ⟩
    · have hpos : (0 : Int) < (r.length : Int) := by have := List.length_pos_iff.2 hr; omega
      have HST := hid (show linesOf s = pre ++ headL r :: linesOf (restL r) from by rw [HL.out, linesOf_step hr])
      have HLT := hid (restL_lt hr)
      have hfz := hBr.frozen
      have hmore := hY pre (headL r) (linesOf (restL r))
      have IB := hid (fun (W : World) => show Calls Tryd.prog 42 #[.string (tx r), .int .u8 10] W fun e w' => e = .returned (.int .i64 (Lib.indexByte r 10)) ∧ w' = W from Tryd.strings_IndexByte (tx r) 10 W)
      rcases byte_room r 10 with hm | ⟨k, hk, hkl⟩
      · obtain ⟨e1, e2⟩ := line_miss hm
        rw [hm] at IB
        rw [e1, e2] at hmore HST
        have HBS := hid (hBr.set (.string ⟨#[]⟩))
        have HJS := hid (tJ _ _ _ _ hJ (grownBy_setCell' wr q (.string ⟨#[]⟩)) (fun r e => (Option.some.inj e).symm))
        have HMO := hid hmore
        have HM := hid (boxText_of hBr)
        obtain ⟨fn, tmps, assign, body, hy, hR⟩ := HMO.out (wr.setCell ⟨q, 0, none⟩ (.string ⟨#[]⟩)) HST.out HJS.out
        clear hm e1 e2 hmore hJ
        gi_wp2
        refine ⟨trivial, (callsIn_wide.2 (IB.out _)).mono ?_⟩
        rintro e W1 ⟨rfl, hW1⟩
        obtain rfl := hW1.symm
        gi_wp2
        refine hR.mono ?_
        rintro e W3 (⟨rfl, hJ3, hk3⟩ | ⟨ch, rfl, hp⟩)
        · have hb3 : Boxed W3 q 9 (.string (tx [])) := (hk3.same q (by simp) HBS.out.lt).trans HBS.out
          have HB3 := hid hb3
          have HJ3 := hid hJ3
          clear hb3 hk3 hJ3 hy
          gi_wp2
          go_roundw
          case rel => exact ⟨pre ++ [r], [], HB3.out, by simp, hid (by rw [HST.out]; simp), HJ3.out⟩
          case measure => rw [boxText_of HB3.out, HM.out, tx_size, tx_size]; exact List.length_pos_iff.2 hr
        · exact ⟨rfl, .inr ⟨ch, rfl, hp⟩⟩
      · obtain ⟨e1, e2⟩ := line_hit hk
        rw [hk] at IB
        rw [e1, e2] at hmore HST
        rw [e2] at HLT
        obtain ⟨k1, hk1⟩ : ∃ k1, k + 1 = k1 := ⟨_, rfl⟩
        have hw1 : IntKind.i64.wrap ((k : Int) + 1) = (k1 : Int) := by rw [IntKind.wrap_i64]; omega
        have HH := hid (head_cut r k)
        have HRC := hid (rest_cut r k)
        have c1 : (0 : Int) ≤ k1 := by omega
        have c2 : (k1 : Int) ≤ r.length := by omega
        rw [hk1] at hmore HST HLT HH HRC
        obtain ⟨A, hA⟩ : ∃ A, r.take k1 = A := ⟨_, rfl⟩
        obtain ⟨R, hR0⟩ : ∃ R, r.drop k1 = R := ⟨_, rfl⟩
        rw [hA] at hmore HST HH
        rw [hR0] at hmore HST HLT HRC
        have HBS := hid (hBr.set (.string (tx R)))
        have HJS := hid (tJ _ _ _ _ hJ (grownBy_setCell' wr q (.string (tx R))) (fun r e => (Option.some.inj e).symm))
        have HMO := hid hmore
        have HM := hid (boxText_of hBr)
        have hk0 : (0 : Int) ≤ k := by omega
        have hRl : R.length ≤ 4096 := by have := HLT.out; omega
        clear hk e1 e2 hmore hk1 hA hR0
        gi_wp2
        refine ⟨trivial, (callsIn_wide.2 (IB.out _)).mono ?_⟩
        rintro e W1 ⟨rfl, hW1⟩
        obtain rfl := hW1.symm
        gi_wp2
        refine wpIn_wide.2 ?_
        refine region_quiet_tail (C := fun w' => ∃ n, w' = wr.drewN n) 9 (by kernel_rfl) (by kernel_rfl) ⟨1, rfl⟩ ?_
        simp only [List.take_succ_cons, List.take_zero, List.drop_succ_cons, List.drop_zero]
        repeat (go_big_quiet_step (fail))
        refine wpQuiet_nil ?_
        rintro w' ⟨nq, rfl⟩
        have hBd : Boxed (wr.drewN nq) q 9 (.string (tx r)) := hBr
        have hcd := hBd.cell
        have hfd := hBd.frozen
        obtain ⟨fn, tmps, assign, body, hy, hR⟩ := HMO.out ((wr.drewN nq).setCell ⟨q, 0, none⟩ (.string (tx R))) HST.out (tJ _ _ _ _ (tJ _ _ _ _ hJ (grownDN wr nq) (fun r e => (by cases e))) (grownBy_setCell' (wr.drewN nq) q (.string (tx R))) (fun r e => (Option.some.inj e).symm))
        have HBS2 := hid (hBd.set (.string (tx R)))
        clear hJ
        rw [HRC.out, HH.out]
        go_wp2_with fail
        gi_wp2
        refine hR.mono ?_
        rintro e W3 (⟨rfl, hJ3, hk3⟩ | ⟨ch, rfl, hp⟩)
        · have hb3 : Boxed W3 q 9 (.string (tx R)) := (hk3.same q (by simp) HBS2.out.lt).trans HBS2.out
          have HB3 := hid hb3
          have HJ3 := hid hJ3
          clear hb3 hk3 hJ3 hy
          gi_wp2
          go_roundw
          case rel => exact ⟨pre ++ [A], R, HB3.out, hRl, hid (by rw [HST.out]; simp), HJ3.out⟩
          case measure => rw [boxText_of HB3.out, HM.out, tx_size, tx_size]; exact HLT.out
        · exact ⟨rfl, .inr ⟨ch, rfl, hp⟩⟩
theorem lines_seq (n : Nat) (hn : 1 ≤ n) (q : Nat) (s : By) (hs : s.length ≤ 4096) (w : World) (hB : Boxed w q 9 (.string (tx s))) :
    SeqP n Tryd.prog 41 #[.pointer (some ⟨q, 0, none⟩)] (fun x : By => #[Value.string (tx x)]) (KeepB [q]) (linesOf s) q w :=
  fun y J Jp W hW tJ hY h0 => lines1_in n hn y q s hs J Jp tJ hY W ((hW.block q hB.lt).trans hB) h0
end Go.Proofs.YtdcndkojmflhnaaDoor
