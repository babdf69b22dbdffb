/- The laws on runs: RunsTrue. -/
import Derived.Test.YtchblkemofncoaaLawC
set_option linter.unusedVariables false
namespace Go.Proofs.Ytchblkemofncoaa
open Go.RowKit

/-- what choose comes to -/
@[irreducible] def chooseR (c n : Int) : Int := (if c < 0 then -(c + 1) else c) % n
theorem chooseR_in {c n : Int} (hn : 0 < n) : 0 ≤ chooseR c n ∧ chooseR c n < n := by
  unfold chooseR
  exact ⟨Int.emod_nonneg _ (by omega), Int.emod_lt_of_pos _ hn⟩

theorem choose_any (c n : Int) (w : World) (hc : I64 c) (h0 : 0 < n) (hn : I64 n) : Calls Try.prog 27 #[.int .i64 c, .int .i64 n] w fun e w' => e = .returned (.int .i64 (chooseR c n)) ∧ w' = w := by
  have h1 := hc.1
  have h2 := hc.2
  have h3 := hn.2
  have hin := chooseR_in (c := c) h0
  by_cases hneg : c < 0
  · have hr : chooseR c n = (-(c + 1)) % n := by unfold chooseR; rw [if_pos hneg]
    rw [hr] at hin ⊢
    have i1 := hin.1
    have i2 := hin.2
    have hz := eqF (a := n) (b := 0) (by omega)
    have hz' : n ≠ 0 := by omega
    have hm : n ≠ -1 := by omega
    clear hr hc hn hin
    go_enter Try.func27, Try.ntmps27
    go_wp2
    go_ret
    exact ⟨ret_int (by rw [← Int.neg_tmod, Int.tmod_eq_emod_of_nonneg (by omega)]), rfl⟩
  · have hr : chooseR c n = c % n := by unfold chooseR; rw [if_neg hneg]
    rw [hr] at hin ⊢
    have i1 := hin.1
    have i2 := hin.2
    have hz := eqF (a := n) (b := 0) (by omega)
    have hz' : n ≠ 0 := by omega
    have hm : n ≠ -1 := by omega
    clear hr hc hn hin
    go_enter Try.func27, Try.ntmps27
    go_wp2
    go_ret
    exact ⟨rfl, rfl⟩

theorem Minus_is {w : World} {vf vg : Value} {f g l : List Run} {n : Int} (h : bothR f g (fun a b => a - b) = (l, n)) (hf : RunsV w vf f) (hg : RunsV w vg g) :
    Calls Try.prog 46 #[vf, vg] w fun e w' => ∃ v, e = .returned (.tuple #[v, .int .i64 n]) ∧ RunsV w' v l ∧ Ext w w' := by
  have := Minus_any w vf vg f g hf hg; rw [h] at this; exact this

/-! the plain law -/
theorem toldT_zero {x : Nat → Int} {l : List Run} (h : toldT x = (l, 0)) : (∀ t, t < 48 → NumOk (x t)) ∧ l = fold x := by
  by_cases hx : ∀ t, t < 48 → NumOk (x t)
  · rw [toldT_yes hx] at h
    exact ⟨hx, (Prod.mk.inj h).1.symm⟩
  · unfold toldT at h
    rw [if_neg hx] at h
    have := (Prod.mk.inj h).2
    omega
theorem toldT_code {x : Nat → Int} : (toldT x).2 = 0 ∨ (toldT x).2 = 2 := by
  unfold toldT; split
  · exact .inl rfl
  · exact .inr rfl

theorem bothR_zero {f g l : List Run} {of : Int → Int → Int} (h : bothR f g of = (l, 0)) : Fine f ∧ Fine g ∧ Fine l ∧ (∀ t, t < 48 → sp l t = of (sp f t) (sp g t)) := by
  by_cases hb : Fine f ∧ Fine g
  · rw [bothR_yes hb.1 hb.2] at h
    obtain ⟨h1, rfl⟩ := toldT_zero h
    exact ⟨hb.1, hb.2, fine_fold h1, fun t ht => sp_fold ht⟩
  · rw [bothR_no hb] at h
    have := (Prod.mk.inj h).2
    omega

theorem both_back {f g l : List Run} (h : bothR f g (fun a b => a + b) = (l, 0)) : bothR l g (fun a b => a - b) = (f, 0) := by
  obtain ⟨hf, hg, hl, hs⟩ := bothR_zero h
  rw [bothR_yes hl hg, toldT_congr (y := sp f) (fun t ht => by rw [hs t ht]; omega), toldT_yes (fun t ht => fine_sp hf ht), fold_sp hf.1]

theorem both_lesser {f g : List Run} (hf : Fine f) (hg : Fine g) : ∃ l, bothR f g (fun a b => min a b) = (l, 0) ∧ bothR g f (fun a b => min a b) = (l, 0) := by
  have h : ∀ t, t < 48 → NumOk (min (sp f t) (sp g t)) := fun t ht => by
    have h1 := fine_sp hf ht
    have h2 := fine_sp hg ht
    exact ⟨by have := h1.1; have := h2.1; omega, by have := h1.2; have := h2.2; omega⟩
  refine ⟨_, by rw [bothR_yes hf hg, toldT_yes h], ?_⟩
  rw [bothR_yes hg hf, toldT_congr (y := fun t => min (sp f t) (sp g t)) (fun t ht => by omega), toldT_yes h]

theorem valueR_fine {f : List Run} {t : Int} (hf : Fine f) (h0 : 0 ≤ t) (h1 : t < 48) : valueR f t = (sp f t.toNat, 0) := by
  unfold valueR; rw [if_pos hf, if_pos ⟨h0, h1⟩]

set_option maxRecDepth 100000 in
set_option maxHeartbeats 8000000 in
/-- the sum may not be: runsBegun is answered -/
theorem RunsTrue_not (w : World) (vf : Value) (f : List Run) (vg : Value) (g : List Run) (t a b : Int) (hf : RunsV w vf f) (hg : RunsV w vg g) (h1 : (bothR f g (fun a b => a + b)).2 ≠ 0) :
    Calls Try.prog 10 #[vf, vg, .int .i64 t, .int .i64 a, .int .i64 b] w fun e w' => e = .returned (.bool true) ∧ Ext w w' := by
  have P := hid (Plus_any w vf vg f g hf hg)
  have M := hid (fun (W : World) (v : Value) (l : List Run) (h : Ext w W) (hv : RunsV W v l) => Minus_any W v vg l g hv (hg.mono h))
  have L := hid (fun (W : World) (h : Ext w W) => Lesser_any W vf vg f g (hf.mono h) (hg.mono h))
  have K := hid (fun (W : World) (h : Ext w W) => Lesser_any W vg vf g f (hg.mono h) (hf.mono h))
  clear hf hg
  generalize bothR f g (fun a b => a + b) = r1 at *
  obtain ⟨l1, k1⟩ := r1
  have hk := neT h1
  simp only at hk
  clear h1
  go_enter Try.func10, Try.ntmps10
  go_wp2_with fail
  refine P.out.mono ?_
  rintro e w1 ⟨v1, rfl, q1, hx1⟩
  have Q1 := hid q1
  clear q1
  go_wp2_with fail
  refine (M.out _ _ _ hx1 Q1.out).mono ?_
  rintro e w2 ⟨v2, rfl, _, hx2⟩
  have hy2 := hx1.tr hx2
  go_wp2_with fail
  refine (L.out _ hy2).mono ?_
  rintro e w3 ⟨v3, rfl, _, hx3⟩
  have hy3 := hy2.tr hx3
  go_wp2_with fail
  refine (K.out _ hy3).mono ?_
  rintro e w4 ⟨v4, rfl, _, hx4⟩
  have hy4 := hy3.tr hx4
  clear hx1 hx2 hx3 hx4 hy2 hy3
  go_wp2_with fail
  refine (runsBegun_true _).mono ?_
  rintro e w5 ⟨rfl, hx5⟩
  go_wp2_with fail
  go_ret
  exact ⟨rfl, hy4.tr hx5⟩

set_option maxRecDepth 100000 in
set_option maxHeartbeats 16000000 in
theorem RunsTrue_ok (w : World) (vf : Value) (f : List Run) (vg : Value) (g : List Run) (t a b : Int) (hf : RunsV w vf f) (hg : RunsV w vg g) (ht : I64 t) (ha : I64 a) (hb : I64 b) (l1 : List Run) (h1 : bothR f g (fun a b => a + b) = (l1, 0)) :
    Calls Try.prog 10 #[vf, vg, .int .i64 t, .int .i64 a, .int .i64 b] w fun e w' => e = .returned (.bool true) ∧ Ext w w' := by
  obtain ⟨Ff, Fg, Fl, hsum⟩ := bothR_zero h1
  obtain ⟨l3, h3, h4⟩ := both_lesser Ff Fg
  obtain ⟨_, _, F3, hles⟩ := bothR_zero h3
  have hin := chooseR_in (c := t) (n := 48) (by omega)
  have P := hid (Plus_is h1 hf hg)
  have M := hid (fun (W : World) (v : Value) (h : Ext w W) (hv : RunsV W v l1) => Minus_is (both_back h1) hv (hg.mono h))
  have L := hid (fun (W : World) (h : Ext w W) => Lesser_is h3 (hf.mono h) (hg.mono h))
  have K := hid (fun (W : World) (h : Ext w W) => Lesser_is h4 (hg.mono h) (hf.mono h))
  have C := hid (fun (W : World) => choose_any t 48 W ht (by omega) (I64.of (by omega) (by omega)))
  obtain ⟨k, hk⟩ : ∃ k : Nat, chooseR t 48 = k := ⟨(chooseR t 48).toNat, by omega⟩
  rw [hk] at C hin
  have hk48 : k < 48 := by omega
  have Vf := hid (fun (W : World) (h : Ext w W) => Value_is (t := (k : Int)) (by rw [valueR_fine Ff (by omega) (by omega), Int.toNat_natCast]) (hf.mono h))
  have Vg := hid (fun (W : World) (h : Ext w W) => Value_is (t := (k : Int)) (by rw [valueR_fine Fg (by omega) (by omega), Int.toNat_natCast]) (hg.mono h))
  have V1 := hid (fun (W : World) (v : Value) (hv : RunsV W v l1) => Value_is (t := (k : Int)) (by rw [valueR_fine Fl (by omega) (by omega), Int.toNat_natCast, hsum k hk48]) hv)
  have V3 := hid (fun (W : World) (v : Value) (hv : RunsV W v l3) => Value_is (t := (k : Int)) (by rw [valueR_fine F3 (by omega) (by omega), Int.toNat_natCast, hles k hk48]) hv)
  have S := hid (fun (W : World) (v : Value) (h : Ext w W) (hv : RunsV W v f) => Same_is (f := f) (g := f) rfl hv (hf.mono h))
  have S3 := hid (fun (W : World) (v u : Value) (hv : RunsV W v l3) (hu : RunsV W u l3) => Same_is (f := l3) (g := l3) rfl hv hu)
  have C1 := hid (fun (W : World) (v : Value) (hv : RunsV W v l1) => Check_is (chk_yes Fl) hv)
  have C3 := hid (fun (W : World) (v : Value) (hv : RunsV W v l3) => Check_is (chk_yes F3) hv)
  have Le := hid (fun (W : World) (h : Ext w W) => Least_any W vf f a b (hf.mono h))
  have Vt := hid (fun (j : Nat) (hj : j < 48) (W : World) (h : Ext w W) => Value_is (t := (j : Int)) (by rw [valueR_fine Ff (by omega) (by omega), Int.toNat_natCast]) (hf.mono h))
  have FF := hid Ff
  have n1 := (fine_sp Ff hk48).1
  have n2 := (fine_sp Ff hk48).2
  have n3 := (fine_sp Fg hk48).1
  have n4 := (fine_sp Fg hk48).2
  clear hsum hles h1 h3 h4 Ff Fg Fl F3 hk hf hg ht hin
  generalize hp : sp f k = p at *
  generalize hq : sp g k = q at *
  clear hp hq
  go_enter Try.func10, Try.ntmps10
  go_wp2_with fail
  refine P.out.mono ?_
  rintro e w1 ⟨v1, rfl, q1, hx1⟩
  have Q1 := hid (fun (W : World) (h : Ext w1 W) => q1.mono h)
  clear q1
  go_wp2_with fail
  refine (M.out _ _ hx1 (Q1.out _ (Ext.rf _))).mono ?_
  rintro e w2 ⟨v2, rfl, q2, hx2⟩
  have Q2 := hid (fun (W : World) (h : Ext w2 W) => q2.mono h)
  clear q2
  go_wp2_with fail
  refine (L.out _ (hx1.tr hx2)).mono ?_
  rintro e w3 ⟨v3, rfl, q3, hx3⟩
  have Q3 := hid (fun (W : World) (h : Ext w3 W) => q3.mono h)
  clear q3
  go_wp2_with fail
  refine (K.out _ (hx1.tr (hx2.tr hx3))).mono ?_
  rintro e w4 ⟨v4, rfl, q4, hx4⟩
  have Q4 := hid (fun (W : World) (h : Ext w4 W) => q4.mono h)
  clear q4
  have e4 := hid (hx1.tr (hx2.tr (hx3.tr hx4)))
  have e14 := hid (hx2.tr (hx3.tr hx4))
  have e24 := hid (hx3.tr hx4)
  have e34 := hid hx4
  clear hx1 hx2 hx3 hx4
  go_wp2_with fail
  refine (C.out _).mono ?_
  rintro e w5 ⟨rfl, rfl⟩
  go_wp2_with fail
  refine (Vf.out _ e4.out).mono ?_
  rintro e w5 ⟨rfl, hz5⟩
  go_wp2_with fail
  refine (Vg.out _ (e4.out.tr hz5)).mono ?_
  rintro e w6 ⟨rfl, hz6⟩
  replace hz6 := hz5.tr hz6
  go_wp2_with fail
  refine (V1.out _ _ (Q1.out _ (e14.out.tr hz6))).mono ?_
  rintro e w7 ⟨rfl, hz7⟩
  replace hz7 := hz6.tr hz7
  go_wp2_with fail
  refine (V3.out _ _ (Q3.out _ (e34.out.tr hz7))).mono ?_
  rintro e w8 ⟨rfl, hz8⟩
  replace hz8 := hz7.tr hz8
  clear hz5 hz6 hz7
  have hmw := minw p q
  generalize hmq : min p q = m at *
  clear hmq
  go_wp2_with fail
  refine (S.out _ _ (e4.out.tr hz8) (Q2.out _ (e24.out.tr hz8))).mono ?_
  rintro e w9 ⟨rfl, hz9⟩
  replace hz9 := hz8.tr hz9
  go_wp2_with fail
  refine (S3.out _ _ _ (Q3.out _ (e34.out.tr hz9)) (Q4.out _ hz9)).mono ?_
  rintro e w10 ⟨rfl, hz10⟩
  replace hz10 := hz9.tr hz10
  go_wp2_with fail
  refine (C1.out _ _ (Q1.out _ (e14.out.tr hz10))).mono ?_
  rintro e w11 ⟨rfl, hz11⟩
  replace hz11 := hz10.tr hz11
  go_wp2_with fail
  refine (C3.out _ _ (Q3.out _ (e34.out.tr hz11))).mono ?_
  rintro e w12 ⟨rfl, hz12⟩
  have e12 := hid (e4.out.tr (hz11.tr hz12))
  clear hz8 hz9 hz10 hz11 hz12 P M L K C Vf Vg V1 V3 S S3 C1 C3 Q1 Q2 Q3 Q4 e4 e14 e24 e34
  have LL := hid (Le.out _ e12.out)
  by_cases hab : 0 ≤ a ∧ a < b ∧ b ≤ 48
  · have hr : leastR f a b = (lowT (sp f) a.toNat b.toNat, 0) := by unfold leastR; rw [if_pos FF.out, if_pos hab]
    obtain ⟨i, rfl⟩ : ∃ k : Nat, a = k := ⟨a.toNat, by omega⟩
    obtain ⟨j, rfl⟩ : ∃ k : Nat, b = k := ⟨b.toNat, by omega⟩
    have hij : i < j := by omega
    have hj : j ≤ 48 := by omega
    simp only [Int.toNat_natCast] at hr
    rw [hr] at LL
    have Hle := hid (fun (t : Nat) (h1 : i ≤ t) (h2 : t < j) => lowT_le (x := sp f) h1 h2)
    have Hmem := hid (lowT_mem (x := sp f) hij)
    clear hr hab Le hmw
    generalize lowT (sp f) i j = low at *
    go_wp2_with fail
    refine LL.out.mono ?_
    rintro e w13 ⟨rfl, hx13⟩
    have e13 := hid (e12.out.tr hx13)
    clear hx13 LL
    go_wp2_with fail
    go_loopw [30, 31] (fun bi c wr => ∃ (s : Nat) (u : Bool), c = .int .i64 s ∧ bi = .bool u ∧ i ≤ s ∧ s ≤ j ∧ Hid (u = true ∨ ∀ t, i ≤ t → t < s → sp f t ≠ low) ∧ Ext w wr) (fun _ c _ => j - (intOf c).toNat)
    case atStart => exact ⟨i, false, rfl, rfl, Nat.le_refl _, by omega, .inr (fun t h1 h2 => absurd h2 (by omega)), e13.out⟩
    case round =>
      obtain ⟨s, u, rfl, rfl, his, hsj, Hu, hx⟩ := hrel
      by_cases hlt : s < j
      · have hlt' : (s : Int) < (j : Int) := by omega
        have hs48 : (s : Int) < 48 := by omega
        have VT := hid (Vt.out s (by omega) _ hx)
        have hge := Hle.out s his hlt
        have hge' : ¬ sp f s < low := by omega
        by_cases hq : sp f s = low
        · have hqt := eqT hq
          clear hge
          generalize sp f s = y at *
          clear hq
          cases u with
          | true =>
            go_wp2_with fail
            refine VT.out.mono ?_
            rintro e w14 ⟨rfl, hx14⟩
            go_wp2_with fail
            go_roundw
            case rel => exact ⟨s + 1, true, by go_num, rfl, by omega, by omega, .inl rfl, hx.tr hx14⟩
            case measure => simp [intOf]; omega
          | false =>
            go_wp2_with fail
            refine VT.out.mono ?_
            rintro e w14 ⟨rfl, hx14⟩
            go_wp2_with fail
            go_roundw
            case rel => exact ⟨s + 1, true, by go_num, rfl, by omega, by omega, .inl rfl, hx.tr hx14⟩
            case measure => simp [intOf]; omega
        · have hqt := eqF hq
          have Hq := hid hq
          clear hge hq
          cases u with
          | true =>
            generalize sp f s = y at *
            go_wp2_with fail
            refine VT.out.mono ?_
            rintro e w14 ⟨rfl, hx14⟩
            go_wp2_with fail
            go_roundw
            case rel => exact ⟨s + 1, true, by go_num, rfl, by omega, by omega, .inl rfl, hx.tr hx14⟩
            case measure => simp [intOf]; omega
          | false =>
            have Hn := hid (show ∀ t, i ≤ t → t < s + 1 → sp f t ≠ low from fun t h1 h2 => by
              by_cases e : t = s
              · subst e; exact Hq.out
              · rcases Hu.out with h | h
                · cases h
                · exact h t h1 (by omega))
            generalize sp f s = y at *
            go_wp2_with fail
            refine VT.out.mono ?_
            rintro e w14 ⟨rfl, hx14⟩
            go_wp2_with fail
            go_roundw
            case rel => exact ⟨s + 1, false, by go_num, rfl, by omega, by omega, .inr Hn.out, hx.tr hx14⟩
            case measure => simp [intOf]; omega
      · have hlt' : ¬ (s : Int) < (j : Int) := by omega
        obtain rfl : s = j := by omega
        have hu : u = true := by
          rcases Hu.out with h | h
          · exact h
          · obtain ⟨t, h1, h2, h3⟩ := Hmem.out
            exact absurd h3.symm (h t h1 h2)
        subst hu
        go_wp2_with fail
        refine (runsBegun_true _).mono ?_
        rintro e w14 ⟨rfl, hx14⟩
        go_wp2_with fail
        go_ret
        exact ⟨rfl, hx.tr hx14⟩
  · have hr : leastR f a b = (0, 3) := by unfold leastR; rw [if_pos FF.out, if_neg hab]
    rw [hr] at LL
    clear hr hab Le hmw
    go_wp2_with fail
    refine LL.out.mono ?_
    rintro e w13 ⟨rfl, hx13⟩
    have e13 := hid (e12.out.tr hx13)
    clear hx13 LL
    go_wp2_with fail
    refine (runsBegun_true _).mono ?_
    rintro e w14 ⟨rfl, hx14⟩
    go_wp2_with fail
    go_ret
    exact ⟨rfl, e13.out.tr hx14⟩

theorem RunsTrue_walk (w : World) (vf : Value) (f : List Run) (vg : Value) (g : List Run) (t a b : Int) (hf : RunsV w vf f) (hg : RunsV w vg g) (ht : I64 t) (ha : I64 a) (hb : I64 b) :
    Calls Try.prog 10 #[vf, vg, .int .i64 t, .int .i64 a, .int .i64 b] w fun e w' => e = .returned (.bool true) ∧ Ext w w' := by
  by_cases h : (bothR f g (fun a b => a + b)).2 = 0
  · exact RunsTrue_ok w vf f vg g t a b hf hg ht ha hb _ (Prod.ext rfl h)
  · exact RunsTrue_not w vf f vg g t a b hf hg h

end Go.Proofs.Ytchblkemofncoaa
