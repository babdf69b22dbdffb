/- The laws on queues: TreeTrue. -/
import Derived.Test.YtchblkemofncoaaLawT
import Derived.Test.YtchblkemofncoaaChoose
set_option linter.unusedVariables false
namespace Go.Proofs.Ytchblkemofncoaa
open Go.RowKit

/-! the plain law: a line -/
theorem lineL_next {l : List Queue} (hp : ParsOk l) : ∀ (n : Nat) (q : Int), q < n → q < l.length → ∀ m y : Nat, (lineL l q)[m + 1]? = some y → ∃ x, (lineL l q)[m]? = some x ∧ par l x = (y : Int)
  | n, q, hn, hq, m, y, hy => by
    by_cases h : q < 0
    · rw [lineL_neg h] at hy; simp at hy
    · obtain ⟨k, rfl⟩ : ∃ k : Nat, q = k := ⟨q.toNat, by omega⟩
      have h2 := hp k (by omega)
      rw [lineL_pos hp (by omega)] at hy ⊢
      rw [List.getElem?_cons_succ] at hy
      match n, hn with
      | n + 1, hn =>
        match m with
        | 0 =>
          refine ⟨k, by simp, ?_⟩
          by_cases h3 : par l k < 0
          · rw [lineL_neg h3] at hy; simp at hy
          · obtain ⟨j, hj⟩ : ∃ j : Nat, par l k = j := ⟨(par l k).toNat, by omega⟩
            rw [hj, lineL_pos hp (by have := h2.2; omega)] at hy
            simp at hy
            rw [hj, hy]
        | m + 1 =>
          rw [List.getElem?_cons_succ]
          exact lineL_next hp n (par l k) (by have := h2.2; omega) (by have := h2.2; omega) m y hy

theorem lineL_last {l : List Queue} (hp : ParsOk l) : ∀ (n : Nat) (q : Int), q < n → q < l.length → ∀ m x : Nat, (lineL l q)[m]? = some x → m + 1 = (lineL l q).length → par l x = -1
  | n, q, hn, hq, m, x, hx, hm => by
    by_cases h : q < 0
    · rw [lineL_neg h] at hx; simp at hx
    · obtain ⟨k, rfl⟩ : ∃ k : Nat, q = k := ⟨q.toNat, by omega⟩
      have h2 := hp k (by omega)
      rw [lineL_pos hp (by omega)] at hx hm
      match n, hn with
      | n + 1, hn =>
        match m with
        | 0 =>
          simp at hx hm
          subst hx
          by_cases h3 : par l k < 0
          · have := h2.1; omega
          · obtain ⟨j, hj⟩ : ∃ j : Nat, par l k = j := ⟨(par l k).toNat, by omega⟩
            rw [hj, lineL_pos hp (by have := h2.2; omega)] at hm
            simp at hm
        | m + 1 =>
          rw [List.getElem?_cons_succ] at hx
          exact lineL_last hp n (par l k) (by have := h2.2; omega) (by have := h2.2; omega) m x hx (by simpa using hm)

theorem underL_at {W : World} {v : Value} {l : List Queue} {q : Int} (h : BoolsV W v (underL l q)) (h1 : 1 ≤ l.length) :
    ∃ b off cap, v = .slice (some ⟨b, off, none⟩) l.length cap ∧ l.length ≤ cap ∧ cap ≤ 9223372036854775807 ∧ ∀ j : Nat, j < l.length → W.cell? ⟨b, off + j, none⟩ = some (.bool (under l j q)) := by
  have hlen : (underL l q).length = l.length := by simp [underL]
  rcases h with ⟨he, _⟩ | ⟨b, off, cap, rfl, h2, h3, h4, h5, h6⟩
  · rw [he] at hlen; simp at hlen; omega
  · refine ⟨b, off, cap, by rw [hlen], by omega, h3, fun j hj => ?_⟩
    have := h6 j (under l j q) (by simp [underL, hj])
    rw [Nat.mul_one] at this
    exact this

theorem lineL_at {W : World} {v : Value} {l : List Queue} {q : Int} (h : IntsV W v ((lineL l q).map fun k : Nat => (k : Int))) (h1 : 1 ≤ (lineL l q).length) :
    ∃ b off cap, v = .slice (some ⟨b, off, none⟩) (lineL l q).length cap ∧ (lineL l q).length ≤ cap ∧ cap ≤ 9223372036854775807 ∧ ∀ (m x : Nat), (lineL l q)[m]? = some x → W.cell? ⟨b, off + m, none⟩ = some (.int .i64 (x : Int)) := by
  rcases h with ⟨he, _⟩ | ⟨b, off, cap, rfl, h2, h3, h4, h5, h6⟩
  · have := congrArg List.length he; simp at this; rw [this] at h1; simp at h1
  · simp only [List.length_map] at *
    refine ⟨b, off, cap, rfl, h2, h3, fun m x hx => ?_⟩
    have := (h6 m (x : Int) (by rw [List.getElem?_map, hx]; rfl)).1
    rw [Nat.mul_one] at this
    exact this

theorem contains_take {L : List Nat} {m x : Nat} {k : Int} (hx : L[m]? = some x) : ((L.take (m + 1)).map fun j : Nat => (j : Int)).contains k = (((L.take m).map fun j : Nat => (j : Int)).contains k || decide ((x : Int) = k)) := by
  rw [List.take_add_one, hx, Bool.eq_iff_iff]
  simp only [List.contains_iff_mem, List.map_append, List.mem_append, Bool.or_eq_true, decide_eq_true_iff]
  simp [eq_comm]

set_option maxRecDepth 100000 in
set_option maxHeartbeats 8000000 in
theorem treeTrue_any (w : World) (v : Value) (l : List Queue) (a b : Int) (hv : QueuesV w v l) (ha : I64 a) (hb : I64 b) :
    Calls Try.prog 4 #[v, .int .i64 a, .int .i64 b] w fun e w' => e = .returned (.bool true) ∧ Ext w w' := by
  have T := hid (treeCheck_any w v l hv)
  have B := hid (fun (W : World) => treeBegun_true W)
  by_cases h0 : checkT l = 0
  · have ok := checkT_ok h0
    have hn1 := ok.n1
    have hn5 := ok.n5
    obtain ⟨hi1, hi2⟩ := chooseR_in (c := a) (n := (l.length : Int)) (by omega)
    obtain ⟨hk1, hk2⟩ := chooseR_in (c := b) (n := (l.length : Int)) (by omega)
    have CA := hid (fun (W : World) => choose_any a (l.length : Int) W ha (by omega) (I64.of (by omega) (by omega)))
    have CB := hid (fun (W : World) => choose_any b (l.length : Int) W hb (by omega) (I64.of (by omega) (by omega)))
    obtain ⟨i, hi⟩ : ∃ i : Nat, chooseR a (l.length : Int) = i := ⟨(chooseR a (l.length : Int)).toNat, by omega⟩
    obtain ⟨k, hk⟩ : ∃ k : Nat, chooseR b (l.length : Int) = k := ⟨(chooseR b (l.length : Int)).toNat, by omega⟩
    rw [hi] at CA hi1 hi2
    rw [hk] at CB hk1 hk2
    have hil : i < l.length := by omega
    have hkl : k < l.length := by omega
    have LN := hid (fun (W : World) (h : Ext w W) => Line_is (q := (i : Int)) (show lineR l i = (_, 0) from lineR_ok (queueE_ok h0 ⟨by omega, by omega⟩)) (hv.mono h))
    have UD := hid (fun (W : World) (h : Ext w W) (x : Nat) (hx : x < l.length) => Under_is (q := (x : Int)) (show underR l x = (_, 0) from underR_ok (queueE_ok h0 ⟨by omega, by omega⟩)) (hv.mono h))
    obtain ⟨L, hL⟩ : ∃ L, lineL l (i : Int) = L := ⟨_, rfl⟩
    have hL0 : L[0]? = some i := by rw [← hL, lineL_pos ok.pars hil]; rfl
    have hLn := hid (show ∀ m y : Nat, L[m + 1]? = some y → ∃ x, L[m]? = some x ∧ par l x = (y : Int) from by rw [← hL]; exact lineL_next ok.pars l.length i (by omega) (by omega))
    have hLl := hid (show ∀ m x : Nat, L[m]? = some x → m + 1 = L.length → par l x = -1 from by rw [← hL]; exact lineL_last ok.pars l.length i (by omega) (by omega))
    have hLt := hid (show ∀ x ∈ L, x < l.length from by rw [← hL]; exact fun x hx => (lineL_lt ok.pars l.length i (by omega) (by omega) x hx).1)
    have hLz : 1 ≤ L.length := by have := (List.getElem?_eq_some_iff.1 hL0).1; omega
    have hL5 : L.length ≤ 5 := by rw [← hL]; exact lineL_five ok.pars (by omega) hn5
    have HL := hid hL
    have HLi := hid (show ∀ x ∈ L, under l (i : Int) (x : Int) = true from fun x hx => under_iff.2 ⟨x, by rw [hL]; exact hx, rfl⟩)
    have HUk := hid (show under l (i : Int) (k : Int) = (L.map fun j : Nat => (j : Int)).contains (k : Int) from by unfold under; rw [hL])
    have HL0 := hid hL0
    have HP := hid ok.pars
    rw [h0] at T
    obtain ⟨qb, qo, qc, rfl, hcap, hc9, hqb, hE⟩ := queues_at hv hn1
    have HE := hid (show ∀ (W : World), Ext w W → ∀ (x : Nat), x < l.length → W.cell? ⟨qb, qo + x * 3 + 1, none⟩ = some (.int .i64 (par l x)) from fun W hx x hxl => by
      obtain ⟨y, hy⟩ := getQ hxl
      rw [(at_some hy).2.1]
      exact hx.ce' (hE x y hy).2.2.1)
    clear hv hE h0 ok hi hk hL hL0 ha hb
    have UA := hid (fun (W : World) (v : Value) (x : Nat) (h : BoolsV W v (underL l (x : Int))) => underL_at h (by omega : 1 ≤ l.length))
    have LA := hid (fun (W : World) (v : Value) (h : IntsV W v ((lineL l (i : Int)).map fun k : Nat => (k : Int))) => lineL_at h (by rw [HL.out]; omega))
    rw [HL.out] at LA LN
    generalize hn : l.length = n at *
    generalize hz : L.length = z at *
    have Hn := hid hn
    have Hz := hid hz
    clear hn hz
    go_enter Try.func4, Try.ntmps4
    go_wp2_with fail
    refine T.out.mono ?_
    rintro e w1 ⟨rfl, hx1⟩
    have hn0 := eqF (a := (n : Int)) (b := 0) (by omega)
    go_wp2_with fail
    refine (CA.out _).mono ?_
    rintro e w2 ⟨rfl, rfl⟩
    go_wp2_with fail
    refine (CB.out _).mono ?_
    rintro e w3 ⟨rfl, rfl⟩
    go_wp2_with fail
    refine (LN.out _ hx1).mono ?_
    rintro e w4 ⟨v4, rfl, h4, hx4⟩
    obtain ⟨lb, lo, lc, rfl, hlc1, hlc2, hlE⟩ := LA.out _ _ h4
    have HLE := hid hlE
    have hx04 := hx1.tr hx4
    have h4lt : lb < w4.heap.size := World.block_lt_of_cell? _ _ (hlE 0 i HL0.out)
    clear h4 hlE hx1 hx4
    go_wp2_with fail
    refine (UD.out _ hx04 k hkl).mono ?_
    rintro e w5 ⟨v5, rfl, h5, hx5⟩
    obtain ⟨ub, uo, uc, rfl, huc1, huc2, huE⟩ := UA.out _ _ _ h5
    have HUE := hid huE
    have hx05 := hx04.tr hx5
    have hub : ub < w5.heap.size := World.block_lt_of_cell? _ _ (huE 0 (by omega))
    have hcl0 := hx5.ce' (HLE.out 0 i HL0.out)
    have hii := neF (a := (i : Int)) (b := (i : Int)) rfl
    have hnn := neF (a := (n : Int)) (b := (n : Int)) rfl
    have hz0 := eqF (a := (z : Int)) (b := 0) (by omega)
    rw [Nat.add_zero] at hcl0
    have HX5 := hid hx5
    clear h5 huE hx5
    go_wp2_with fail
    -- @LOOP
    go_loopw [13, 14] (fun sv c wr => ∃ (m : Nat) (sb : Bool), c = .int .i64 m ∧ m ≤ z ∧ sv = .bool sb ∧ Hid (sb = ((L.take m).map fun j : Nat => (j : Int)).contains (k : Int)) ∧ Ext w5 wr) (fun _ c _ => z - (intOf c).toNat)
    case atStart => exact ⟨0, false, rfl, by omega, rfl, hid (by simp), Ext.rf _⟩
    case round =>
      obtain ⟨m, sb, rfl, hm, rfl, HSB, hx⟩ := hrel
      by_cases hlt : m < z
      · have hlt' : (m : Int) < (z : Int) := by omega
        obtain ⟨x, hxm⟩ := getA (f := L) (k := m) (by rw [Hz.out]; exact hlt)
        have hcon := hid (contains_take (k := (k : Int)) hxm)
        have hxn := hLt.out x (List.mem_of_getElem? hxm)
        have HLx := hid (HLi.out x (List.mem_of_getElem? hxm))
        have c1 := hx.ce' (HX5.out.ce' (HLE.out m x hxm))
        have g1 : ¬ (x : Int) < 0 := by omega
        have g2 : ¬ (n : Int) ≤ (x : Int) := by omega
        have g1d := deF g1
        have g2n : ¬ n ≤ x := by omega
        have g2d := deF g2n
        by_cases hm0 : m = 0
        · subst hm0
          clear hxm
          rw [Nat.add_zero] at c1
          go_wp2_with fail
          go_quiet (fail)
          cases sb with
          | true =>
            go_wp2_with fail
            refine (UD.out _ (hx05.tr (hx.dn _)) x hxn).mono ?_
            rintro e w6 ⟨v6, rfl, h6, hx6⟩
            obtain ⟨pb, po, pc, rfl, htc1, htc2, htE⟩ := UA.out _ _ _ h6
            have htc := htE i hil
            rw [HLx.out] at htc
            clear h6 htE
            go_wp2_with fail
            go_roundw
            case rel => exact ⟨0 + 1, true, by first | rfl | go_num, by omega, rfl, hid (by rw [hcon.out, ← HSB.out, Bool.true_or] <;> rfl), (hx.dn _).tr hx6⟩
            case measure => simp [intOf]; omega
          | false =>
            by_cases hxk : (x : Int) = (k : Int)
            · have hd := deT hxk
              have ht := eqT hxk
              have HD := hid hd
              clear hd hxk
              go_wp2_with fail
              refine (UD.out _ (hx05.tr (hx.dn _)) x hxn).mono ?_
              rintro e w6 ⟨v6, rfl, h6, hx6⟩
              obtain ⟨pb, po, pc, rfl, htc1, htc2, htE⟩ := UA.out _ _ _ h6
              have htc := htE i hil
              rw [HLx.out] at htc
              clear h6 htE
              go_wp2_with fail
              go_roundw
              case rel => exact ⟨0 + 1, true, by first | rfl | go_num, by omega, rfl, hid (by rw [hcon.out, ← HSB.out, HD.out] <;> rfl), (hx.dn _).tr hx6⟩
              case measure => simp [intOf]; omega
            · have hd := deF hxk
              have ht := eqF hxk
              have HD := hid hd
              clear hd hxk
              go_wp2_with fail
              refine (UD.out _ (hx05.tr (hx.dn _)) x hxn).mono ?_
              rintro e w6 ⟨v6, rfl, h6, hx6⟩
              obtain ⟨pb, po, pc, rfl, htc1, htc2, htE⟩ := UA.out _ _ _ h6
              have htc := htE i hil
              rw [HLx.out] at htc
              clear h6 htE
              go_wp2_with fail
              go_roundw
              case rel => exact ⟨0 + 1, false, by first | rfl | go_num, by omega, rfl, hid (by rw [hcon.out, ← HSB.out, HD.out] <;> rfl), (hx.dn _).tr hx6⟩
              case measure => simp [intOf]; omega
        · have g3 : (0 : Int) < (m : Int) := by omega
          obtain ⟨y, hym, hyp⟩ := hLn.out (m - 1) x (by rw [show m - 1 + 1 = m by omega]; exact hxm)
          have hyn := hLt.out y (List.mem_of_getElem? hym)
          have d1 := hx.ce' (HX5.out.ce' (HLE.out (m - 1) y hym))
          have e1 := HE.out wr (hx05.tr hx) y hyn
          rw [hyp] at e1
          have g4 : ¬ (y : Int) ≤ (x : Int) := by have := (HP.out y (by rw [Hn.out]; exact hyn)).2; omega
          have g5 := neF (a := (x : Int)) (b := (x : Int)) rfl
          have g4n : ¬ y ≤ x := by omega
          have g4d := deF g4n
          have g3n : 0 < m := by omega
          have g3d := deT g3n
          clear hxm hym hyp
          go_wp2_with fail
          go_quiet (fail)
          cases sb with
          | true =>
            go_wp2_with fail
            refine (UD.out _ (hx05.tr (hx.dn _)) x hxn).mono ?_
            rintro e w6 ⟨v6, rfl, h6, hx6⟩
            obtain ⟨pb, po, pc, rfl, htc1, htc2, htE⟩ := UA.out _ _ _ h6
            have htc := htE i hil
            rw [HLx.out] at htc
            clear h6 htE
            go_wp2_with fail
            go_roundw
            case rel => exact ⟨m + 1, true, by go_num, by omega, rfl, hid (by rw [hcon.out, ← HSB.out, Bool.true_or] <;> rfl), (hx.dn _).tr hx6⟩
            case measure => simp [intOf]; omega
          | false =>
            by_cases hxk : (x : Int) = (k : Int)
            · have hd := deT hxk
              have ht := eqT hxk
              have HD := hid hd
              clear hd hxk
              go_wp2_with fail
              refine (UD.out _ (hx05.tr (hx.dn _)) x hxn).mono ?_
              rintro e w6 ⟨v6, rfl, h6, hx6⟩
              obtain ⟨pb, po, pc, rfl, htc1, htc2, htE⟩ := UA.out _ _ _ h6
              have htc := htE i hil
              rw [HLx.out] at htc
              clear h6 htE
              go_wp2_with fail
              go_roundw
              case rel => exact ⟨m + 1, true, by go_num, by omega, rfl, hid (by rw [hcon.out, ← HSB.out, HD.out] <;> rfl), (hx.dn _).tr hx6⟩
              case measure => simp [intOf]; omega
            · have hd := deF hxk
              have ht := eqF hxk
              have HD := hid hd
              clear hd hxk
              go_wp2_with fail
              refine (UD.out _ (hx05.tr (hx.dn _)) x hxn).mono ?_
              rintro e w6 ⟨v6, rfl, h6, hx6⟩
              obtain ⟨pb, po, pc, rfl, htc1, htc2, htE⟩ := UA.out _ _ _ h6
              have htc := htE i hil
              rw [HLx.out] at htc
              clear h6 htE
              go_wp2_with fail
              go_roundw
              case rel => exact ⟨m + 1, false, by go_num, by omega, rfl, hid (by rw [hcon.out, ← HSB.out, HD.out] <;> rfl), (hx.dn _).tr hx6⟩
              case measure => simp [intOf]; omega
      · have hlt' : ¬ (m : Int) < (z : Int) := by omega
        obtain rfl : m = z := by omega
        obtain ⟨x, hxm⟩ := getA (f := L) (k := m - 1) (by rw [Hz.out]; omega)
        have hxn := hLt.out x (List.mem_of_getElem? hxm)
        have hxp := hLl.out (m - 1) x hxm (by omega)
        have hsb := hid (show sb = under l (i : Int) (k : Int) from by rw [HSB.out, HUk.out, List.take_of_length_le (Nat.le_of_eq Hz.out)])
        go_wp2_with fail
        refine (B.out _).mono ?_
        rintro e w6 ⟨rfl, hx6⟩
        have c1 := hx6.ce' (hx.ce' (HX5.out.ce' (HLE.out (m - 1) x hxm)))
        have e1 := HE.out w6 (hx05.tr (hx.tr hx6)) x hxn
        rw [hxp] at e1
        have d1 := hx6.ce' (hx.ce' (HUE.out i hil))
        rw [← hsb.out] at d1
        clear hxm hxp hsb
        cases sb
        all_goals
          go_wp2_with fail
          go_ret
          exact ⟨rfl, hx05.tr (hx.tr hx6)⟩
  · have hne := neT h0
    obtain ⟨a, cap, rfl, _, _, hl⟩ := hv.form
    clear hv h0 ha hb
    generalize l.length = n at *
    go_enter Try.func4, Try.ntmps4
    go_wp2_with fail
    refine T.out.mono ?_
    rintro e w1 ⟨rfl, hx1⟩
    go_wp2_with fail
    refine (B.out _).mono ?_
    rintro e w2 ⟨rfl, hx2⟩
    go_wp2_with fail
    go_ret
    exact ⟨rfl, hx1.tr hx2⟩

end Go.Proofs.Ytchblkemofncoaa
