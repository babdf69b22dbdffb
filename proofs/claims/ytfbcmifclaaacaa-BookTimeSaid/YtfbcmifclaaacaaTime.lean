/- Two ticks are one; the law BookTime. -/
import Derived.Test.YtfbcmifclaaacaaBook
import Derived.Test.YtfbcmifclaaacaaPlanT
set_option linter.unusedVariables false
namespace Go.Proofs.Ytfbcmifclaaacaa
open Go.RowKit

/-! ### the plain law -/
theorem tickR_zero {s X : State} {t n : Int} (h : tickR s t = (X, n, 0)) : stateE s = 0 ∧ (0 ≤ t ∧ t ≤ 48) ∧ ¬ t < s.Clock ∧ X = laterS s t ∧ n = (s.Books.length : Int) - ((stayB t s.Books).length : Int) := by
  by_cases h0 : stateE s = 0
  · by_cases h1 : 0 ≤ t ∧ t ≤ 48
    · by_cases h2 : t < s.Clock
      · rw [tickR_late h0 h1 h2] at h
        exact absurd (show (9 : Int) = 0 from congrArg (fun p => p.2.2) h) (by decide)
      · rw [tickR_ok h0 h1 h2] at h
        exact ⟨h0, h1, h2, (congrArg (fun p => p.1) h).symm, (congrArg (fun p => p.2.1) h).symm⟩
    · rw [tickR_range h0 h1] at h
      exact absurd (show (3 : Int) = 0 from congrArg (fun p => p.2.2) h) (by decide)
  · rw [tickR_bad h0] at h
    exact absurd (congrArg (fun p => p.2.2) h) h0
theorem stay_stay {t u : Int} (h : t ≤ u) (b : List Book) : stayB u (stayB t b) = stayB u b := by
  unfold stayB
  rw [List.filter_filter]
  refine List.filter_congr fun x _ => ?_
  unfold lateB
  by_cases h1 : (overR x.Req x.Bites).1 ≤ u
  · simp [h1]
  · have h2 : ¬ (overR x.Req x.Bites).1 ≤ t := by omega
    simp [h1, h2]
theorem stay_len (t : Int) (b : List Book) : (stayB t b).length ≤ b.length := List.length_filter_le _ _
theorem state_few {s : State} (h : stateE s = 0) : s.Books.length ≤ 12 := by
  obtain ⟨hf, _⟩ := stateE_zero h
  obtain ⟨hb, _⟩ := formE_zero hf
  exact (booksE_zero hb).2.2.1
/-- what two ticks tell -/
theorem tick_twice {s X Y : State} {t u n m : Int} (h1 : tickR s t = (X, n, 0)) (h2 : tickR X u = (Y, m, 0)) :
    tickR s u = (Y, n + m, 0) ∧ stateE X = 0 ∧ X.Clock = t ∧ (X.Books.length : Int) + n = (s.Books.length : Int) ∧ (0 ≤ n ∧ n ≤ 12) ∧ (0 ≤ m ∧ m ≤ 12) ∧ X.Books.length ≤ 12 ∧
    ∀ (k : Nat) x, X.Books[k]? = some x → ∃ v, overR x.Req x.Bites = (v, 0) ∧ t < v := by
  obtain ⟨a0, a1, a2, a3, a4⟩ := tickR_zero h1
  obtain ⟨b0, b1, b2, b3, b4⟩ := tickR_zero h2
  have c1 : X.Clock = t := by rw [a3]; rfl
  have c2 : X.Books = stayB t s.Books := by rw [a3]; rfl
  have c3 : X.Next = s.Next ∧ X.Tree = s.Tree := by rw [a3]; exact ⟨rfl, rfl⟩
  have l1 := stay_len t s.Books
  have l2 := stay_len u X.Books
  have l3 := state_few a0
  have hs : stayB u X.Books = stayB u s.Books := by rw [c2]; exact stay_stay (by omega) _
  refine ⟨?_, b0, c1, by rw [c2]; omega, by omega, by rw [c2] at l2 b4; omega, by rw [c2]; omega, fun k x hk => ?_⟩
  · rw [tickR_ok a0 b1 (by omega), b3, a4, b4]
    have e : laterS s u = laterS X u := by unfold laterS; rw [c3.1, c3.2, hs]
    rw [e, ← hs, c2]
    refine congrArg (fun z : Int => (laterS X u, z, (0 : Int))) ?_
    omega
  · obtain ⟨v, h, h', _⟩ := book_right b0 hk
    exact ⟨v, h, by omega⟩

/-! ### the walk -/
set_option maxRecDepth 100000 in
set_option maxHeartbeats 4000000 in
theorem bookTime_any (w : World) (sv : Value) (s : State) (t u : Int) (hs : StateV w sv s) :
    Calls Try.prog 6 #[sv, .int .i64 t, .int .i64 u] w fun e w' => e = .returned (.bool true) ∧ Ext w w' := by
  obtain ⟨cs, rfl, tv, bv, rfl, ht, hb, _⟩ := hs
  obtain ⟨⟨S, n, er⟩, hsr⟩ : ∃ x, tickR s t = x := ⟨_, rfl⟩
  obtain ⟨⟨T, m, fr⟩, htr⟩ : ∃ x, tickR S u = x := ⟨_, rfl⟩
  have TA := hid (fun (W : World) (h : Ext w W) => ret3_parts (S := S) (n := n) (m := er) (by have := Tick_any W tv bv s t (ht.mono h) (hb.mono h); rwa [hsr] at this))
  have TB := hid (fun (W : World) (a b : Value) (h1 : QueuesV W a S.Tree) (h2 : BooksV W b S.Books) => ret3_parts (S := T) (n := m) (m := fr) (by have := Tick_any W a b S u h1 h2; rwa [htr] at this))
  have BG := hid (fun (W : World) => bookBegun_true W)
  have X0 := hid ((Ext.rf w).al (.cells #[.int .i64 s.Clock, .int .i64 s.Next, tv, bv] 25))
  have HS0 := hid (fun (V : World) (h : Ext (w.alloc (.cells #[.int .i64 s.Clock, .int .i64 s.Next, tv, bv] 25)) V) => newState h)
  by_cases hok : er = 0 ∧ fr = 0
  · obtain ⟨rfl, rfl⟩ := hok
    obtain ⟨l1, l2, l3, l4, l5, l6, l7, l8⟩ := tick_twice hsr htr
    have TC := hid (fun (W : World) (h : Ext w W) => ret3_parts (S := T) (n := n + m) (m := 0) (by have := Tick_any W tv bv s u (ht.mono h) (hb.mono h); rwa [l1] at this))
    have PC := hid (fun (W : World) (a b : Value) (h1 : QueuesV W a S.Tree) (h2 : BooksV W b S.Books) => show Calls Try.prog 9 #[.agg #[.int .i64 S.Clock, .int .i64 S.Next, a, b]] W (fun e w' => e = .returned (.int .i64 0) ∧ Ext W w') from by
      have := planCheck_any W a b S h1 h2; rw [l2] at this; exact this)
    have L3 := hid l3
    have L8 := hid l8
    have e4 := eqT l4
    have L7 := hid l7
    clear hsr htr l1 l2 l3 l7 l8 l4
    obtain ⟨qa, qc, rfl, _, _, _⟩ := ht.form
    obtain ⟨ba, bc, rfl, _, _, _⟩ := hb.form
    clear ht hb
    generalize s.Tree.length = sn at *
    generalize s.Books.length = sz at *
    have e2 : (n + m == n + m) = true := by simp
    have e3 : (t == t) = true := by simp
    go_enter Try.func6, Try.ntmps6
    go_wp2_with fail
    refine (TA.out _ X0.out).mono ?_
    rintro e wa ⟨x, y, rfl, hu, hv, hx⟩
    obtain ⟨ua, ca, rfl, _, _, _⟩ := hu.form
    obtain ⟨va, da, rfl, _, _, _, hvE⟩ := sv_at hv
    have HE := hid hvE
    clear hvE
    have hal := (Ext.rf wa).al (.cells #[.int .i64 S.Clock, .int .i64 S.Next, .slice ua S.Tree.length ca, .slice va S.Books.length da] 25)
    have HBa := hid (fun (V : World) (h : Ext (wa.alloc (.cells #[.int .i64 S.Clock, .int .i64 S.Next, .slice ua S.Tree.length ca, .slice va S.Books.length da] 25)) V) => newState h)
    have HUa := hid hu
    have HVa := hid hv
    have Aa := hid hal
    have Ga := hid (hx.tr hal)
    have Xa := hid (X0.out.tr Ga.out)
    clear hx hu hv hal
    go_wp2_with fail
    refine (TB.out _ _ _ (HUa.out.mono Aa.out) (HVa.out.mono Aa.out)).mono ?_
    rintro e wb ⟨x, y, rfl, hu, hv, hx⟩
    obtain ⟨ub, cb, rfl, _, _, _⟩ := hu.form
    obtain ⟨vb, db, rfl, _, _, _⟩ := hv.form
    have hal := (Ext.rf wb).al (.cells #[.int .i64 T.Clock, .int .i64 T.Next, .slice ub T.Tree.length cb, .slice vb T.Books.length db] 25)
    have HBb := hid (fun (V : World) (h : Ext (wb.alloc (.cells #[.int .i64 T.Clock, .int .i64 T.Next, .slice ub T.Tree.length cb, .slice vb T.Books.length db] 25)) V) => newState h)
    have HUb := hid hu
    have HVb := hid hv
    have Ab := hid hal
    have Kb := hid (hx.tr hal)
    have Gb := hid (Ga.out.tr Kb.out)
    have Xb := hid (X0.out.tr Gb.out)
    obtain ⟨a0, a1, a2, a3⟩ := HS0.out wb (Ga.out.tr hx)
    have hlt : w.heap.size < wb.heap.size := World.block_lt_of_cell? _ _ a0
    clear hx hu hv hal
    go_wp2_with fail
    clear a0 a1 a2 a3 hlt
    refine (TC.out _ Xb.out).mono ?_
    rintro e wc ⟨x, y, rfl, hu, hv, hx⟩
    obtain ⟨uc, cc, rfl, _, _, _⟩ := hu.form
    obtain ⟨vc, dc, rfl, _, _, _⟩ := hv.form
    have hal := (Ext.rf wc).al (.cells #[.int .i64 T.Clock, .int .i64 T.Next, .slice uc T.Tree.length cc, .slice vc T.Books.length dc] 25)
    have HBc := hid (fun (V : World) (h : Ext (wc.alloc (.cells #[.int .i64 T.Clock, .int .i64 T.Next, .slice uc T.Tree.length cc, .slice vc T.Books.length dc] 25)) V) => newState h)
    have HUc := hid hu
    have HVc := hid hv
    have Ac := hid hal
    have Kc := hid (hx.tr hal)
    have Gc := hid (Gb.out.tr Kc.out)
    have Xc := hid (X0.out.tr Gc.out)
    clear hx hu hv hal
    go_wp2_with fail
    generalize hwl : wc.alloc (.cells #[.int .i64 T.Clock, .int .i64 T.Next, .slice uc T.Tree.length cc, .slice vc T.Books.length dc] 25) = wl at *
    go_loopw [16, 17, 18] (fun c _ _ wr => ∃ k : Nat, c = .int .i64 k ∧ k ≤ S.Books.length ∧ Ext wl wr) (fun c _ _ _ => S.Books.length - (intOf c).toNat)
    case atStart => exact ⟨0, rfl, by omega, Ext.rf wl⟩
    case round =>
      obtain ⟨k, rfl, hk, hx⟩ := hrel
      have HX := hid hx
      obtain ⟨a0, a1, a2, a3⟩ := HBa.out wr (Kb.out.tr (Kc.out.tr hx))
      by_cases hlt : k < S.Books.length
      · have hlt' : (k : Int) < (S.Books.length : Int) := by omega
        obtain ⟨x, hxk⟩ := getA (f := S.Books) (k := k) hlt
        obtain ⟨v, hov, htv⟩ := L8.out k x hxk
        obtain ⟨fb, fo, rfl, hfb, hfe⟩ := HE.out (by omega)
        obtain ⟨pv, biv, c0, c1, c2, c3, c4, c5, c6, hpv, hbi⟩ := ebook_cells (EBook.mono wa wr fb _ x (Aa.out.tr (Kb.out.tr (Kc.out.tr hx))) (hfe k x hxk))
        have ML1 := hid (fun p : Later wr => later_of p (v := .tuple #[.int .i64 v, .int .i64 0]) (show Calls Try.prog 14 #[.agg #[.int .i64 x.Req.Queue, .int .i64 x.Req.From, .int .i64 x.Req.Until, .int .i64 x.Req.Kind, pv], biv] p.v (fun e w' => e = .returned (.tuple #[.int .i64 v, .int .i64 0]) ∧ Ext p.v w') from by
          have := Over_any p.v pv biv x.Req x.Bites (hpv.mono p.h) (hbi.mono p.h)
          rw [hov] at this
          exact this))
        obtain ⟨pa, pc, rfl, _, _, _⟩ := hpv.form
        obtain ⟨bia, bic, rfl, _, _, _⟩ := hbi.form
        have t1 := deF (show ¬ (k : Int) < 0 by omega)
        have t2 := deF (show ¬ (S.Books.length : Int) ≤ (k : Int) by omega)
        have t3 := deF (show ¬ S.Books.length ≤ k by omega)
        have t4 := deF (show ¬ v ≤ t by omega)
        clear hfe hxk hpv hbi hov
        generalize x.Req.Pieces.length = pn at *
        generalize x.Bites.length = bn at *
        go_wp2_with fail
        clear a0 a1 a2
        replace a3 := fun p : Later wr => p.cell a3
        replace c0 := fun p : Later wr => p.cell c0
        replace c1 := fun p : Later wr => p.cell c1
        replace c2 := fun p : Later wr => p.cell c2
        replace c3 := fun p : Later wr => p.cell c3
        replace c4 := fun p : Later wr => p.cell c4
        replace c5 := fun p : Later wr => p.cell c5
        replace c6 := fun p : Later wr => p.cell c6
        refine region_later (by kernel_rfl) (by kernel_rfl) ?_
        repeat (go_big_quiet_step (first | with_reducible exact ML1.out _))
        refine wpQuiet_nil ?_
        rintro w' ⟨p, rfl⟩
        have HX' := hid (HX.out.tr p.h)
        clear ML1 a3 c0 c1 c2 c3 c4 c5 c6
        generalize p.v = W at *
        go_wp2_with fail
        go_roundw
        case rel => exact ⟨k + 1, by go_num, by omega, HX'.out⟩
        case measure => simp [intOf]; omega
      · obtain rfl : k = S.Books.length := by omega
        have hlt' : ¬ (S.Books.length : Int) < (S.Books.length : Int) := by omega
        clear hlt' hlt
        go_wp2_with fail
        refine (BG.out _).mono ?_
        rintro e wd ⟨rfl, hxd⟩
        have KD := hid (hx.tr hxd)
        clear hxd hx a0 a1 a2 a3 HX
        obtain ⟨b0, b1, b2, b3⟩ := HBb.out wd (Kc.out.tr KD.out)
        obtain ⟨c0, c1, c2, c3⟩ := HBc.out wd KD.out
        have SS := hid (fun (W : World) (h : Ext wd W) => sameStates_yes W T.Clock T.Next (.slice ub T.Tree.length cb) (.slice vb T.Books.length db) (.slice uc T.Tree.length cc) (.slice vc T.Books.length dc) T.Tree T.Books (HUb.out.mono (Ab.out.tr (Kc.out.tr (KD.out.tr h)))) (HVb.out.mono (Ab.out.tr (Kc.out.tr (KD.out.tr h)))) (HUc.out.mono (Ac.out.tr (KD.out.tr h))) (HVc.out.mono (Ac.out.tr (KD.out.tr h))))
        go_wp2_with fail
        refine (SS.out _ (Ext.rf _)).mono ?_
        rintro e we ⟨rfl, hxe⟩
        have KE := hid (KD.out.tr hxe)
        clear hxe b0 b1 b2 b3 c0 c1 c2 c3
        obtain ⟨a0, a1, a2, a3⟩ := HBa.out we (Kb.out.tr (Kc.out.tr KE.out))
        have PC' := hid (PC.out we _ _ (HUa.out.mono (Aa.out.tr (Kb.out.tr (Kc.out.tr KE.out)))) (HVa.out.mono (Aa.out.tr (Kb.out.tr (Kc.out.tr KE.out)))))
        go_wp2_with fail
        refine PC'.out.mono ?_
        rintro e wf ⟨rfl, hxf⟩
        have KF := hid (KE.out.tr hxf)
        clear hxf a0 a1 a2 a3
        obtain ⟨a0, a1, a2, a3⟩ := HBa.out wf (Kb.out.tr (Kc.out.tr KF.out))
        obtain ⟨b0, b1, b2, b3⟩ := HS0.out wf (Gc.out.tr KF.out)
        have hcl := L3.out
        rw [hcl] at a0
        go_wp2_with fail
        go_ret
        exact ⟨rfl, Xc.out.tr KF.out⟩
  · clear hsr htr
    by_cases her : er = 0
    · subst her
      have e1 := neT (show fr ≠ 0 from fun h => hok ⟨rfl, h⟩)
      clear hok
      obtain ⟨qa, qc, rfl, _, _, _⟩ := ht.form
      obtain ⟨ba, bc, rfl, _, _, _⟩ := hb.form
      clear ht hb
      generalize s.Tree.length = sn at *
      generalize s.Books.length = sz at *
      go_enter Try.func6, Try.ntmps6
      go_wp2_with fail
      refine (TA.out _ X0.out).mono ?_
      rintro e wa ⟨x, y, rfl, hu, hv, hx⟩
      obtain ⟨ua, ca, rfl, _, _, _⟩ := hu.form
      obtain ⟨va, da, rfl, _, _, _, hvE⟩ := sv_at hv
      have HE := hid hvE
      clear hvE
      have hal := (Ext.rf wa).al (.cells #[.int .i64 S.Clock, .int .i64 S.Next, .slice ua S.Tree.length ca, .slice va S.Books.length da] 25)
      have HBa := hid (fun (V : World) (h : Ext (wa.alloc (.cells #[.int .i64 S.Clock, .int .i64 S.Next, .slice ua S.Tree.length ca, .slice va S.Books.length da] 25)) V) => newState h)
      have HUa := hid hu
      have HVa := hid hv
      have Aa := hid hal
      have Ga := hid (hx.tr hal)
      have Xa := hid (X0.out.tr Ga.out)
      clear hx hu hv hal
      go_wp2_with fail
      refine (TB.out _ _ _ (HUa.out.mono Aa.out) (HVa.out.mono Aa.out)).mono ?_
      rintro e wb ⟨x, y, rfl, hu, hv, hx⟩
      obtain ⟨ub, cb, rfl, _, _, _⟩ := hu.form
      obtain ⟨vb, db, rfl, _, _, _⟩ := hv.form
      have hal := (Ext.rf wb).al (.cells #[.int .i64 T.Clock, .int .i64 T.Next, .slice ub T.Tree.length cb, .slice vb T.Books.length db] 25)
      have HBb := hid (fun (V : World) (h : Ext (wb.alloc (.cells #[.int .i64 T.Clock, .int .i64 T.Next, .slice ub T.Tree.length cb, .slice vb T.Books.length db] 25)) V) => newState h)
      have HUb := hid hu
      have HVb := hid hv
      have Ab := hid hal
      have Kb := hid (hx.tr hal)
      have Gb := hid (Ga.out.tr Kb.out)
      have Xb := hid (X0.out.tr Gb.out)
      obtain ⟨a0, a1, a2, a3⟩ := HS0.out wb (Ga.out.tr hx)
      have hlt : w.heap.size < wb.heap.size := World.block_lt_of_cell? _ _ a0
      clear hx hu hv hal
      go_wp2_with fail
      clear a0 a1 a2 a3 hlt
      refine (BG.out _).mono ?_
      rintro e wd ⟨rfl, hxd⟩
      go_wp2_with fail
      go_ret
      exact ⟨rfl, Xb.out.tr hxd⟩
    · have e1 := neT her
      clear hok her
      obtain ⟨qa, qc, rfl, _, _, _⟩ := ht.form
      obtain ⟨ba, bc, rfl, _, _, _⟩ := hb.form
      clear ht hb
      generalize s.Tree.length = sn at *
      generalize s.Books.length = sz at *
      go_enter Try.func6, Try.ntmps6
      go_wp2_with fail
      refine (TA.out _ X0.out).mono ?_
      rintro e wa ⟨x, y, rfl, hu, hv, hx⟩
      obtain ⟨ua, ca, rfl, _, _, _⟩ := hu.form
      obtain ⟨va, da, rfl, _, _, _, hvE⟩ := sv_at hv
      have HE := hid hvE
      clear hvE
      have hal := (Ext.rf wa).al (.cells #[.int .i64 S.Clock, .int .i64 S.Next, .slice ua S.Tree.length ca, .slice va S.Books.length da] 25)
      have HBa := hid (fun (V : World) (h : Ext (wa.alloc (.cells #[.int .i64 S.Clock, .int .i64 S.Next, .slice ua S.Tree.length ca, .slice va S.Books.length da] 25)) V) => newState h)
      have HUa := hid hu
      have HVa := hid hv
      have Aa := hid hal
      have Ga := hid (hx.tr hal)
      have Xa := hid (X0.out.tr Ga.out)
      clear hx hu hv hal
      go_wp2_with fail
      refine (TB.out _ _ _ (HUa.out.mono Aa.out) (HVa.out.mono Aa.out)).mono ?_
      rintro e wb ⟨x, y, rfl, hu, hv, hx⟩
      obtain ⟨ub, cb, rfl, _, _, _⟩ := hu.form
      obtain ⟨vb, db, rfl, _, _, _⟩ := hv.form
      have hal := (Ext.rf wb).al (.cells #[.int .i64 T.Clock, .int .i64 T.Next, .slice ub T.Tree.length cb, .slice vb T.Books.length db] 25)
      have HBb := hid (fun (V : World) (h : Ext (wb.alloc (.cells #[.int .i64 T.Clock, .int .i64 T.Next, .slice ub T.Tree.length cb, .slice vb T.Books.length db] 25)) V) => newState h)
      have HUb := hid hu
      have HVb := hid hv
      have Ab := hid hal
      have Kb := hid (hx.tr hal)
      have Gb := hid (Ga.out.tr Kb.out)
      have Xb := hid (X0.out.tr Gb.out)
      obtain ⟨a0, a1, a2, a3⟩ := HS0.out wb (Ga.out.tr hx)
      have hlt : w.heap.size < wb.heap.size := World.block_lt_of_cell? _ _ a0
      clear hx hu hv hal
      go_wp2_with fail
      clear a0 a1 a2 a3 hlt
      refine (BG.out _).mono ?_
      rintro e wd ⟨rfl, hxd⟩
      go_wp2_with fail
      go_ret
      exact ⟨rfl, Xb.out.tr hxd⟩

end Go.Proofs.Ytfbcmifclaaacaa
