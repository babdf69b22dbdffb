/- The law PlanTrue. -/
import Derived.Test.YtfbcmifclaaacaaPlanL
import Derived.Test.YtfbcmifclaaacaaRoomTrue
set_option linter.unusedVariables false
namespace Go.Proofs.Ytfbcmifclaaacaa
open Go.RowKit

/-- of a right state no queue has less room than none, from the clock on -/
theorem room_right {s : State} (h : stateE s = 0) {k t : Nat} (hk : k < s.Tree.length) (ht : s.Clock ≤ (t : Int)) (h48 : t < 48) : 0 ≤ roomT s.Tree s.Books (k : Int) t := by
  obtain ⟨hf, ht0⟩ := stateE_zero h
  obtain ⟨hb, ⟨k1, _, _, _⟩, _, _⟩ := formE_zero hf
  obtain ⟨ok, _, h12, hbok⟩ := booksE_zero hb
  have hfit : FitsT s.Tree s.Books s.Clock.toNat := by
    apply Classical.byContradiction
    intro hn
    rw [too_yes hn] at ht0
    cases ht0
  have := minTo_num (g := fun j => leftT s.Tree s.Books j t) (a := 0) (b := 50) (lineL s.Tree (k : Int)) (fun j hj => by
    have h1 := (lineL_lt ok.pars s.Tree.length (k : Int) (by omega) (by omega) j hj).1
    exact ⟨hfit t (by omega) h48 j h1, (left_num ok hbok h12 j t h1).2⟩) (by rw [lineL_pos ok.pars hk]; simp)
  exact this.1
/-- each book of a right state meets its request, is not over, and is found -/
theorem book_right {s : State} (h : stateE s = 0) {o : Nat} {x : Book} (ho : s.Books[o]? = some x) : ∃ n, overR x.Req x.Bites = (n, 0) ∧ s.Clock < n ∧ meetsR x.Req x.Bites = true ∧ findB s x.Id = ((o : Int), 0) := by
  obtain ⟨hf, _⟩ := stateE_zero h
  obtain ⟨hb, _, hids, hlate⟩ := formE_zero hf
  obtain ⟨_, _, _, hbok⟩ := booksE_zero hb
  have hm := List.mem_of_getElem? ho
  have bk := hbok x hm
  have hl : lateB s.Clock x = false := by
    rw [List.any_eq_false] at hlate
    simpa using hlate x hm
  rw [late_is bk] at hl
  have hol := (List.getElem?_eq_some_iff.1 ho).1
  have hix : idxOf (isId x.Id) s.Books = (o : Int) := idxOf_at ho (by unfold isId; exact decide_eq_true rfl) (fun j y hj hy => by
    have := ids_mono hids j o hj hol
    rw [idAt_some hy, idAt_some ho] at this
    unfold isId; exact decide_eq_false (by omega))
  refine ⟨_, over_is bk, by have := of_decide_eq_false hl; omega, bk.meets, ?_⟩
  rw [findB_is h (by rw [hix]; omega), hix]

theorem keep8 {w1 w' : World} {a0 a1 a2 a3 a4 a5 a6 a7 : Addr} {z a b c d e f g : Value} (hx : Ext w1 w') (h0 : w1.cell? a0 = some z) (b0 : w1.cell? a1 = some a) (b1 : w1.cell? a2 = some b) (b2 : w1.cell? a3 = some c) (b3 : w1.cell? a4 = some d) (b4 : w1.cell? a5 = some e) (b5 : w1.cell? a6 = some f) (b6 : w1.cell? a7 = some g) :
    w'.cell? a0 = some z ∧ w'.cell? a1 = some a ∧ w'.cell? a2 = some b ∧ w'.cell? a3 = some c ∧ w'.cell? a4 = some d ∧ w'.cell? a5 = some e ∧ w'.cell? a6 = some f ∧ w'.cell? a7 = some g :=
  ⟨ext_ceA hx h0, ext_ceA hx b0, ext_ceA hx b1, ext_ceA hx b2, ext_ceA hx b3, ext_ceA hx b4, ext_ceA hx b5, ext_ceA hx b6⟩

set_option maxRecDepth 100000 in
set_option maxHeartbeats 6000000 in
theorem planTrue_any (w : World) (sv : Value) (s : State) (q k : Int) (hs : StateV w sv s) (hq : I64 q) (hk : I64 k) :
    Calls Try.prog 3 #[sv, .int .i64 q, .int .i64 k] w fun e w' => e = .returned (.bool true) ∧ Ext w w' := by
  obtain ⟨cs, rfl, tv, bv, rfl, ht, hb, hci, _⟩ := hs
  have B := hid (fun (W : World) => planBegun_true W)
  have CK := hid (fun (W : World) (h : Ext w W) => planCheck_any W tv bv s (ht.mono h) (hb.mono h))
  have HS := hid (fun (W : World) (hx : Ext (w.alloc (.cells #[.int .i64 s.Clock, .int .i64 s.Next, tv, bv] 25)) W) => stateCells hx)
  have X0 := hid ((Ext.rf w).al (.cells #[.int .i64 s.Clock, .int .i64 s.Next, tv, bv] 25))
  by_cases h0 : stateE s = 0
  · obtain ⟨hf0, _⟩ := stateE_zero h0
    obtain ⟨hb0, ⟨k1, k2, _, _⟩, _, _⟩ := formE_zero hf0
    obtain ⟨ok, _, h12, hbok⟩ := booksE_zero hb0
    rw [h0] at CK
    have hn1 := ok.n1
    have hn5 := ok.n5
    obtain ⟨c, hc⟩ := Int.eq_ofNat_of_zero_le k1
    have hc48 : c ≤ 48 := by omega
    have hin := chooseR_in (c := q) (n := (s.Tree.length : Int)) (by omega)
    have CQ := hid (fun (W : World) => choose_any q (s.Tree.length : Int) W hq (by omega) (I64.of (by omega) (by omega)))
    obtain ⟨p, hp⟩ : ∃ p : Nat, chooseR q (s.Tree.length : Int) = p := ⟨(chooseR q (s.Tree.length : Int)).toNat, by omega⟩
    have hpn : p < s.Tree.length := by omega
    rw [hp] at CQ
    clear hin hp
    have RO := hid (fun (W : World) (h : Ext w W) => roomOf_is (w := W) (roomR_ok (q := (p : Int)) hb0 ⟨by omega, by omega⟩) (ht.mono h) (hb.mono h))
    have HF := fine_fold (x := roomT s.Tree s.Books (p : Int)) (fun t _ => room_num ok hbok h12 hpn t)
    have LE := hid (fun (hcl : c < 48) (W : World) (u : Value) (hu : RunsV W u (fold (roomT s.Tree s.Books (p : Int)))) => Least_is (w := W) (least_in HF hcl (Nat.le_refl 48)) hu)
    have LO := hid (fun (hcl : c < 48) => show 0 ≤ lowT (sp (fold (roomT s.Tree s.Books (p : Int)))) c 48 from (le_lowT hcl).2 (fun t h1 h2 => by rw [sp_fold h2]; exact room_right h0 hpn (by omega) h2))
    have BR := hid (fun (o : Nat) (x : Book) (ho : s.Books[o]? = some x) => book_right h0 ho)
    have FI := hid (fun (W : World) (h : Ext w W) (id : Int) => planFind_any W tv bv s id (ht.mono h) (hb.mono h))
    obtain ⟨ta, tc, rfl, _, _, _⟩ := ht.form
    obtain ⟨ba, bc, rfl, hbc, hbc9, _, hbE⟩ := books_at hb
    have HBE := hid hbE
    have HC := hid hc
    clear ht hb h0 hf0 hb0 ok hbok HF hbE k1 k2 hc
    generalize hFF : fold (roomT s.Tree s.Books (p : Int)) = F at *
    have hFne : F ≠ [] := by rw [← hFF]; exact fold_ne _
    clear hFF
    generalize s.Tree.length = tn at *
    generalize hzz : s.Books.length = z at *
    have Hz := hid hzz
    clear hzz
    have t0 := eqF (a := (tn : Int)) (b := 0) (by omega)
    go_enter Try.func3, Try.ntmps3
    go_wp2_with fail
    refine (CK.out _ X0.out).mono ?_
    rintro e w2 ⟨rfl, hx2⟩
    obtain ⟨a0, a1, a2, a3⟩ := HS.out w2 hx2
    have X12 := hid hx2
    have X02 := hid (X0.out.tr hx2)
    clear hx2
    go_wp2_with fail
    clear a0 a1 a2 a3
    go_region_held3 (fun W' => W'.cell? ⟨w.heap.size, 2, none⟩ = some (.slice ta tn tc) ∧ W'.cell? ⟨w.heap.size, 3, none⟩ = some (.slice ba z bc))
      (first | exact ⟨(HS.out _ (X12.out.tr X3.out)).2.2.1, (HS.out _ (X12.out.tr X3.out)).2.2.2⟩ | exact ⟨(HS.out _ X12.out.dr).2.2.1, (HS.out _ X12.out.dr).2.2.2⟩)
      (first
        | (go_at_call 12; refine (CQ.out _).mono ?_; rintro e wq ⟨rfl, rfl⟩)
        | (go_at_call 11; refine (RO.out _ X02.out.dr).mono ?_; rintro e w3 ⟨u, rfl, hu, hx3⟩; have X3 := hid (Ext.tr (Ext.dr (Ext.rf w2)) hx3); have HU := hid hu; clear hu hx3))
    obtain ⟨ub, uo, uc, rfl, _⟩ := runs_cells HU.out hFne
    obtain ⟨a0, a1, a2, a3⟩ := HS.out w3 (X12.out.tr X3.out)
    by_cases hcl : c < 48
    · have t1 : s.Clock < 48 := by have := HC.out; omega
      have LE1 := LE.out hcl w3 _ HU.out
      have hlow := LO.out hcl
      rw [show ((c : Nat) : Int) = s.Clock from HC.out.symm] at LE1
      have HLE := hid LE1
      clear LE1
      generalize lowT (sp F) c 48 = low at *
      have hl' : ¬ low < 0 := by omega
      go_wp2_with fail
      refine HLE.out.mono ?_
      rintro e w4 ⟨rfl, hx4⟩
      have X4 := hid hx4
      clear hx4 HLE a0 a1 a2 a3
      have X1W := hid (X12.out.tr (X3.out.tr X4.out))
      have X0W := hid (X0.out.tr X1W.out)
      obtain ⟨a0, a1, a2, a3⟩ := HS.out _ X1W.out
      by_cases hz0 : z = 0
      · have hz' := eqT (a := (z : Int)) (b := 0) (by omega)
        go_wp2_with fail
        refine (B.out _).mono ?_
        rintro e w5 ⟨rfl, hx5⟩
        go_wp2_with fail
        go_ret
        exact ⟨rfl, X0W.out.tr hx5⟩
      · have hz' := eqF (a := (z : Int)) (b := 0) (by omega)
        have hin := chooseR_in (c := k) (n := (z : Int)) (by omega)
        have CO := hid (fun W => choose_any k (z : Int) W hk (by omega) (I64.of (by omega) (by omega)))
        obtain ⟨o, ho⟩ : ∃ o : Nat, chooseR k (z : Int) = o := ⟨(chooseR k (z : Int)).toNat, by omega⟩
        rw [ho] at CO
        have hoz : o < z := by omega
        clear hin ho
        obtain ⟨y, hyk⟩ := getA (f := s.Books) (k := o) (by rw [Hz.out]; exact hoz)
        obtain ⟨n, hov, hcn, hme, hfi⟩ := BR.out o y hyk
        obtain ⟨bb, bo, rfl, hbb, hE⟩ := HBE.out (by omega)
        obtain ⟨pv, biv, c0, c1, c2, c3, c4, c5, c6, hpv, hbi⟩ := ebook_cells (EBook.mono w _ bb _ y X0W.out (hE o y hyk))
        have OV := hid (fun (W : World) (h : Ext w4 W) => show Calls Try.prog 14 #[.agg #[.int .i64 y.Req.Queue, .int .i64 y.Req.From, .int .i64 y.Req.Until, .int .i64 y.Req.Kind, pv], biv] W (fun e w' => e = .returned (.tuple #[.int .i64 n, .int .i64 0]) ∧ Ext W w') from by
          have := Over_any W pv biv y.Req y.Bites (hpv.mono h) (hbi.mono h)
          rw [hov] at this
          exact this)
        have ME := hid (fun (W : World) (h : Ext w4 W) => show Calls Try.prog 16 #[.agg #[.int .i64 y.Req.Queue, .int .i64 y.Req.From, .int .i64 y.Req.Until, .int .i64 y.Req.Kind, pv], biv] W (fun e w' => e = .returned (.bool true) ∧ Ext W w') from by
          have := Meets_any W pv biv y.Req y.Bites (hpv.mono h) (hbi.mono h)
          rw [hme] at this
          exact this)
        have FY := hid (fun (W : World) (h : Ext w W) => show Calls Try.prog 15 #[.agg #[.int .i64 s.Clock, .int .i64 s.Next, .slice ta tn tc, .slice (some ⟨bb, bo, none⟩) z bc], .int .i64 y.Id] W (fun e w' => e = .returned (.tuple #[.int .i64 (o : Int), .int .i64 0]) ∧ Ext W w') from by
          have := FI.out W h y.Id
          rw [hfi] at this
          exact this)
        obtain ⟨pa, pc, rfl, _, _, _⟩ := hpv.form
        obtain ⟨bia, bic, rfl, _, _, _⟩ := hbi.form
        clear hpv hbi hE hyk hov hme hfi hbb
        generalize y.Req.Pieces.length = pn at *
        generalize y.Bites.length = bn at *
        have i1 : (0 : Int) ≤ (o : Int) := by omega
        have i2 : (o : Int) < (z : Int) := by omega
        have i3 := deF (show ¬ (o : Int) < 0 by omega)
        have i4 := deF (show ¬ (z : Int) ≤ (o : Int) by omega)
        have i5 := deF (show ¬ z ≤ o by omega)
        go_wp2_with fail
        clear a0 a1 a2
        have X6 := hid (((Ext.rf w4).al (.cells #[.int .i64 y.Id, .int .i64 y.Req.Queue, .int .i64 y.Req.From, .int .i64 y.Req.Until, .int .i64 y.Req.Kind, .slice pa pn pc, .slice bia bn bic] 40)).dr)
        have HBC := hid (fun (V : World) (h : Ext (w4.alloc (.cells #[.int .i64 y.Id, .int .i64 y.Req.Queue, .int .i64 y.Req.From, .int .i64 y.Req.Until, .int .i64 y.Req.Kind, .slice pa pn pc, .slice bia bn bic] 40)).drew V) => bookCells ((Ext.dr (Ext.rf (w4.alloc (.cells #[.int .i64 y.Id, .int .i64 y.Req.Queue, .int .i64 y.Req.From, .int .i64 y.Req.Until, .int .i64 y.Req.Kind, .slice pa pn pc, .slice bia bn bic] 40)))).tr h))
        have HB0 := hid (fun (V : World) (h : Ext (w4.alloc (.cells #[.int .i64 y.Id, .int .i64 y.Req.Queue, .int .i64 y.Req.From, .int .i64 y.Req.Until, .int .i64 y.Req.Kind, .slice pa pn pc, .slice bia bn bic] 40)).drew V) => show V.cell? ⟨w4.heap.size, 0, none⟩ = some (.int .i64 y.Id) from ((Ext.dr (Ext.rf (w4.alloc (.cells #[.int .i64 y.Id, .int .i64 y.Req.Queue, .int .i64 y.Req.From, .int .i64 y.Req.Until, .int .i64 y.Req.Kind, .slice pa pn pc, .slice bia bn bic] 40)))).tr h).ce' (by rw [cell_of_row _ _ _ _ _ _ (heap_alloc_new w4 (.cells #[.int .i64 y.Id, .int .i64 y.Req.Queue, .int .i64 y.Req.From, .int .i64 y.Req.Until, .int .i64 y.Req.Kind, .slice pa pn pc, .slice bia bn bic] 40))]; rfl))
        go_region_held3 (fun W' => W'.cell? ⟨w.heap.size, 3, none⟩ = some (.slice (some ⟨bb, bo, none⟩) z bc) ∧ W'.cell? ⟨bb, bo + o * 7, none⟩ = some (.int .i64 y.Id) ∧ W'.cell? ⟨bb, bo + o * 7 + 1, none⟩ = some (.int .i64 y.Req.Queue) ∧ W'.cell? ⟨bb, bo + o * 7 + 2, none⟩ = some (.int .i64 y.Req.From) ∧ W'.cell? ⟨bb, bo + o * 7 + 3, none⟩ = some (.int .i64 y.Req.Until) ∧ W'.cell? ⟨bb, bo + o * 7 + 4, none⟩ = some (.int .i64 y.Req.Kind) ∧ W'.cell? ⟨bb, bo + o * 7 + 5, none⟩ = some (.slice pa pn pc) ∧ W'.cell? ⟨bb, bo + o * 7 + 6, none⟩ = some (.slice bia bn bic))
          ((refine keep8 ?_ a3 c0 c1 c2 c3 c4 c5 c6; (repeat (first | exact Ext.rf _ | refine Ext.dr ?_ | refine Ext.al ?_ _ | refine Ext.se ?_ (by simp) _))))
          (first
            | (go_at_call 12; refine (CO.out _).mono ?_; rintro e wq ⟨rfl, rfl⟩))
        clear a3 c0 c1 c2 c3 c4 c5 c6 i1 i2 i3 i4 i5
        all_goals generalize (w4.alloc (.cells #[.int .i64 y.Id, .int .i64 y.Req.Queue, .int .i64 y.Req.From, .int .i64 y.Req.Until, .int .i64 y.Req.Kind, .slice pa pn pc, .slice bia bn bic] 40)).drew = w6 at *
        all_goals obtain ⟨f1, f2, f3, f4, f5, f6⟩ := HBC.out w6 (Ext.rf _)
        all_goals go_wp2_with fail
        all_goals refine (OV.out _ X6.out).mono ?_
        all_goals rintro e w7 ⟨rfl, hx7⟩
        all_goals clear f1 f2 f3 f4 f5 f6
        all_goals obtain ⟨a0, a1, a2, a3⟩ := HS.out w7 (X1W.out.tr (X6.out.tr hx7))
        all_goals have f0 := HB0.out w7 hx7
        all_goals go_wp2_with fail
        all_goals refine (FY.out _ (X0W.out.tr (X6.out.tr hx7))).mono ?_
        all_goals rintro e w8 ⟨rfl, hx8⟩
        all_goals clear a0 a1 a2 a3 f0
        all_goals go_wp2_with fail
        all_goals refine (B.out _).mono ?_
        all_goals rintro e w9 ⟨rfl, hx9⟩
        all_goals obtain ⟨a0, a1, a2, a3⟩ := HS.out w9 (X1W.out.tr (X6.out.tr (hx7.tr (hx8.tr hx9))))
        all_goals obtain ⟨f1, f2, f3, f4, f5, f6⟩ := HBC.out w9 (hx7.tr (hx8.tr hx9))
        all_goals go_wp2_with fail
        all_goals refine (ME.out _ (X6.out.tr (hx7.tr (hx8.tr hx9)))).mono ?_
        all_goals rintro e wa ⟨rfl, hxa⟩
        all_goals clear a0 a1 a2 a3 f1 f2 f3 f4 f5 f6
        all_goals obtain ⟨a0, a1, a2, a3⟩ := HS.out wa (X1W.out.tr (X6.out.tr (hx7.tr (hx8.tr (hx9.tr hxa)))))
        all_goals go_wp2_with fail
        all_goals refine (CO.out _).mono ?_
        all_goals rintro e wb ⟨rfl, hw⟩
        all_goals obtain rfl := hw.symm
        all_goals go_wp2_with fail
        all_goals go_ret
        all_goals exact ⟨rfl, X0W.out.tr (X6.out.tr (hx7.tr (hx8.tr (hx9.tr hxa))))⟩
    · have t1 : ¬ s.Clock < 48 := by have := HC.out; omega
      have X4 := hid (Ext.rf w3)
      clear a0 a1 a2 a3
      have X1W := hid (X12.out.tr (X3.out.tr X4.out))
      have X0W := hid (X0.out.tr X1W.out)
      obtain ⟨a0, a1, a2, a3⟩ := HS.out _ X1W.out
      by_cases hz0 : z = 0
      · have hz' := eqT (a := (z : Int)) (b := 0) (by omega)
        go_wp2_with fail
        refine (B.out _).mono ?_
        rintro e w5 ⟨rfl, hx5⟩
        go_wp2_with fail
        go_ret
        exact ⟨rfl, X0W.out.tr hx5⟩
      · have hz' := eqF (a := (z : Int)) (b := 0) (by omega)
        have hin := chooseR_in (c := k) (n := (z : Int)) (by omega)
        have CO := hid (fun W => choose_any k (z : Int) W hk (by omega) (I64.of (by omega) (by omega)))
        obtain ⟨o, ho⟩ : ∃ o : Nat, chooseR k (z : Int) = o := ⟨(chooseR k (z : Int)).toNat, by omega⟩
        rw [ho] at CO
        have hoz : o < z := by omega
        clear hin ho
        obtain ⟨y, hyk⟩ := getA (f := s.Books) (k := o) (by rw [Hz.out]; exact hoz)
        obtain ⟨n, hov, hcn, hme, hfi⟩ := BR.out o y hyk
        obtain ⟨bb, bo, rfl, hbb, hE⟩ := HBE.out (by omega)
        obtain ⟨pv, biv, c0, c1, c2, c3, c4, c5, c6, hpv, hbi⟩ := ebook_cells (EBook.mono w _ bb _ y X0W.out (hE o y hyk))
        have OV := hid (fun (W : World) (h : Ext w3 W) => show Calls Try.prog 14 #[.agg #[.int .i64 y.Req.Queue, .int .i64 y.Req.From, .int .i64 y.Req.Until, .int .i64 y.Req.Kind, pv], biv] W (fun e w' => e = .returned (.tuple #[.int .i64 n, .int .i64 0]) ∧ Ext W w') from by
          have := Over_any W pv biv y.Req y.Bites (hpv.mono h) (hbi.mono h)
          rw [hov] at this
          exact this)
        have ME := hid (fun (W : World) (h : Ext w3 W) => show Calls Try.prog 16 #[.agg #[.int .i64 y.Req.Queue, .int .i64 y.Req.From, .int .i64 y.Req.Until, .int .i64 y.Req.Kind, pv], biv] W (fun e w' => e = .returned (.bool true) ∧ Ext W w') from by
          have := Meets_any W pv biv y.Req y.Bites (hpv.mono h) (hbi.mono h)
          rw [hme] at this
          exact this)
        have FY := hid (fun (W : World) (h : Ext w W) => show Calls Try.prog 15 #[.agg #[.int .i64 s.Clock, .int .i64 s.Next, .slice ta tn tc, .slice (some ⟨bb, bo, none⟩) z bc], .int .i64 y.Id] W (fun e w' => e = .returned (.tuple #[.int .i64 (o : Int), .int .i64 0]) ∧ Ext W w') from by
          have := FI.out W h y.Id
          rw [hfi] at this
          exact this)
        obtain ⟨pa, pc, rfl, _, _, _⟩ := hpv.form
        obtain ⟨bia, bic, rfl, _, _, _⟩ := hbi.form
        clear hpv hbi hE hyk hov hme hfi hbb
        generalize y.Req.Pieces.length = pn at *
        generalize y.Bites.length = bn at *
        have i1 : (0 : Int) ≤ (o : Int) := by omega
        have i2 : (o : Int) < (z : Int) := by omega
        have i3 := deF (show ¬ (o : Int) < 0 by omega)
        have i4 := deF (show ¬ (z : Int) ≤ (o : Int) by omega)
        have i5 := deF (show ¬ z ≤ o by omega)
        go_wp2_with fail
        clear a0 a1 a2
        have X6 := hid (((Ext.rf w3).al (.cells #[.int .i64 y.Id, .int .i64 y.Req.Queue, .int .i64 y.Req.From, .int .i64 y.Req.Until, .int .i64 y.Req.Kind, .slice pa pn pc, .slice bia bn bic] 40)).dr)
        have HBC := hid (fun (V : World) (h : Ext (w3.alloc (.cells #[.int .i64 y.Id, .int .i64 y.Req.Queue, .int .i64 y.Req.From, .int .i64 y.Req.Until, .int .i64 y.Req.Kind, .slice pa pn pc, .slice bia bn bic] 40)).drew V) => bookCells ((Ext.dr (Ext.rf (w3.alloc (.cells #[.int .i64 y.Id, .int .i64 y.Req.Queue, .int .i64 y.Req.From, .int .i64 y.Req.Until, .int .i64 y.Req.Kind, .slice pa pn pc, .slice bia bn bic] 40)))).tr h))
        have HB0 := hid (fun (V : World) (h : Ext (w3.alloc (.cells #[.int .i64 y.Id, .int .i64 y.Req.Queue, .int .i64 y.Req.From, .int .i64 y.Req.Until, .int .i64 y.Req.Kind, .slice pa pn pc, .slice bia bn bic] 40)).drew V) => show V.cell? ⟨w3.heap.size, 0, none⟩ = some (.int .i64 y.Id) from ((Ext.dr (Ext.rf (w3.alloc (.cells #[.int .i64 y.Id, .int .i64 y.Req.Queue, .int .i64 y.Req.From, .int .i64 y.Req.Until, .int .i64 y.Req.Kind, .slice pa pn pc, .slice bia bn bic] 40)))).tr h).ce' (by rw [cell_of_row _ _ _ _ _ _ (heap_alloc_new w3 (.cells #[.int .i64 y.Id, .int .i64 y.Req.Queue, .int .i64 y.Req.From, .int .i64 y.Req.Until, .int .i64 y.Req.Kind, .slice pa pn pc, .slice bia bn bic] 40))]; rfl))
        go_region_held3 (fun W' => W'.cell? ⟨w.heap.size, 3, none⟩ = some (.slice (some ⟨bb, bo, none⟩) z bc) ∧ W'.cell? ⟨bb, bo + o * 7, none⟩ = some (.int .i64 y.Id) ∧ W'.cell? ⟨bb, bo + o * 7 + 1, none⟩ = some (.int .i64 y.Req.Queue) ∧ W'.cell? ⟨bb, bo + o * 7 + 2, none⟩ = some (.int .i64 y.Req.From) ∧ W'.cell? ⟨bb, bo + o * 7 + 3, none⟩ = some (.int .i64 y.Req.Until) ∧ W'.cell? ⟨bb, bo + o * 7 + 4, none⟩ = some (.int .i64 y.Req.Kind) ∧ W'.cell? ⟨bb, bo + o * 7 + 5, none⟩ = some (.slice pa pn pc) ∧ W'.cell? ⟨bb, bo + o * 7 + 6, none⟩ = some (.slice bia bn bic))
          ((refine keep8 ?_ a3 c0 c1 c2 c3 c4 c5 c6; (repeat (first | exact Ext.rf _ | refine Ext.dr ?_ | refine Ext.al ?_ _ | refine Ext.se ?_ (by simp) _))))
          (first
            | (go_at_call 12; refine (CO.out _).mono ?_; rintro e wq ⟨rfl, rfl⟩))
        clear a3 c0 c1 c2 c3 c4 c5 c6 i1 i2 i3 i4 i5
        all_goals generalize (w3.alloc (.cells #[.int .i64 y.Id, .int .i64 y.Req.Queue, .int .i64 y.Req.From, .int .i64 y.Req.Until, .int .i64 y.Req.Kind, .slice pa pn pc, .slice bia bn bic] 40)).drew = w6 at *
        all_goals obtain ⟨f1, f2, f3, f4, f5, f6⟩ := HBC.out w6 (Ext.rf _)
        all_goals go_wp2_with fail
        all_goals refine (OV.out _ X6.out).mono ?_
        all_goals rintro e w7 ⟨rfl, hx7⟩
        all_goals clear f1 f2 f3 f4 f5 f6
        all_goals obtain ⟨a0, a1, a2, a3⟩ := HS.out w7 (X1W.out.tr (X6.out.tr hx7))
        all_goals have f0 := HB0.out w7 hx7
        all_goals go_wp2_with fail
        all_goals refine (FY.out _ (X0W.out.tr (X6.out.tr hx7))).mono ?_
        all_goals rintro e w8 ⟨rfl, hx8⟩
        all_goals clear a0 a1 a2 a3 f0
        all_goals go_wp2_with fail
        all_goals refine (B.out _).mono ?_
        all_goals rintro e w9 ⟨rfl, hx9⟩
        all_goals obtain ⟨a0, a1, a2, a3⟩ := HS.out w9 (X1W.out.tr (X6.out.tr (hx7.tr (hx8.tr hx9))))
        all_goals obtain ⟨f1, f2, f3, f4, f5, f6⟩ := HBC.out w9 (hx7.tr (hx8.tr hx9))
        all_goals go_wp2_with fail
        all_goals refine (ME.out _ (X6.out.tr (hx7.tr (hx8.tr hx9)))).mono ?_
        all_goals rintro e wa ⟨rfl, hxa⟩
        all_goals clear a0 a1 a2 a3 f1 f2 f3 f4 f5 f6
        all_goals obtain ⟨a0, a1, a2, a3⟩ := HS.out wa (X1W.out.tr (X6.out.tr (hx7.tr (hx8.tr (hx9.tr hxa)))))
        all_goals go_wp2_with fail
        all_goals refine (CO.out _).mono ?_
        all_goals rintro e wb ⟨rfl, hw⟩
        all_goals obtain rfl := hw.symm
        all_goals go_wp2_with fail
        all_goals go_ret
        all_goals exact ⟨rfl, X0W.out.tr (X6.out.tr (hx7.tr (hx8.tr (hx9.tr hxa))))⟩
  · have hne := neT h0
    obtain ⟨ta, tc, rfl, _, _, _⟩ := ht.form
    obtain ⟨ba, bc, rfl, _, _, _⟩ := hb.form
    clear ht hb h0
    generalize s.Tree.length = tn at *
    generalize s.Books.length = bn at *
    generalize stateE s = se at *
    go_enter Try.func3, Try.ntmps3
    go_wp2_with fail
    refine (CK.out _ X0.out).mono ?_
    rintro e w2 ⟨rfl, hx2⟩
    go_wp2_with fail
    refine (B.out _).mono ?_
    rintro e w3 ⟨rfl, hx3⟩
    go_wp2_with fail
    go_ret
    exact ⟨rfl, X0.out.tr (hx2.tr hx3)⟩

end Go.Proofs.Ytfbcmifclaaacaa
