/- The law RoomTrue. -/
import Derived.Test.YtoclbapkgfmphaaRoomRef
import Derived.Test.YtoclbapkgfmphaaLawA
set_option linter.unusedVariables false
namespace Go.Proofs.Ytoclbapkgfmphaa
open Go.RowKit

theorem minTo_le {g : Nat → Int} {ks : List Nat} (k : Nat) (h : ks ≠ []) : minTo g (k :: ks) = min (g k) (minTo g ks) := by
  have key : ∀ (ks : List Nat) (a c : Int), ks.foldl (fun a k => min a (g k)) (min a c) = min a (ks.foldl (fun a k => min a (g k)) c) := by
    intro ks
    induction ks with
    | nil => intro a c; rfl
    | cons j ks ih =>
      intro a c
      show ks.foldl _ (min (min a c) (g j)) = min a (ks.foldl _ (min c (g j)))
      rw [← ih]
      congr 1
      omega
  cases ks with
  | nil => exact absurd rfl h
  | cons j ks => exact key ks (g k) (g j)

theorem room_par {l : List Queue} {b : List Book} (hp : ParsOk l) {k p : Nat} (hk : k < l.length) (he : par l k = (p : Int)) (t : Nat) : min (roomT l b (k : Int) t) (roomT l b (p : Int) t) = roomT l b (k : Int) t := by
  have hpk : p < k := by have := (hp k hk).2; omega
  have e : roomT l b (k : Int) t = min (leftT l b k t) (roomT l b (p : Int) t) := by
    show minTo _ (lineL l (k : Int)) = min _ (minTo _ (lineL l (p : Int)))
    rw [lineL_pos hp hk, he]
    exact minTo_le k (by rw [lineL_pos hp (by omega)]; simp)
  omega

theorem room_num {l : List Queue} {b : List Book} (ok : TreeOk l) (hbok : ∀ x ∈ b, BookOk l x) (h12 : b.length ≤ 12) {k : Nat} (hk : k < l.length) (t : Nat) : NumOk (roomT l b (k : Int) t) := by
  have := minTo_num (g := fun j => leftT l b j t) (a := -1800) (b := 50) (lineL l (k : Int)) (fun j hj => left_num ok hbok h12 j t (lineL_lt ok.pars l.length (k : Int) (by omega) (by omega) j hj).1) (by rw [lineL_pos ok.pars (by omega)]; simp)
  rw [show roomT l b (k : Int) t = minTo (fun j => leftT l b j t) (lineL l (k : Int)) from rfl]
  exact ⟨by omega, by omega⟩

theorem least_in {f : List Run} (hf : Fine f) {a b : Nat} (h1 : a < b) (h2 : b ≤ 48) : leastR f (a : Int) (b : Int) = (lowT (sp f) a b, 0) := by
  unfold leastR
  rw [if_pos hf, if_pos ⟨by omega, by omega, by omega⟩]
  simp
theorem least_over {f : List Run} (hf : Fine f) {a b : Nat} (h2 : 48 < b) : leastR f (a : Int) (b : Int) = (0, 3) := by
  unfold leastR
  rw [if_pos hf, if_neg (by omega)]

/-- what First finds -/
def FoundAt (f : List Run) (A Z : Nat) (n : Int) (t : Int) (b : Bool) : Prop :=
  (b = false ∧ ∀ k, A ≤ k → k + Z ≤ 48 → lowT (sp f) k (k + Z) < n) ∨ (b = true ∧ ∃ T : Nat, t = T ∧ A ≤ T ∧ T + Z ≤ 48 ∧ n ≤ lowT (sp f) T (T + Z) ∧ ∀ k, A ≤ k → k < T → lowT (sp f) k (k + Z) < n)
theorem firstOf_zero {f : List Run} (hf : Fine f) {a s n t : Int} {b : Bool} (h : firstOfR f a 48 s n = (t, b, 0)) : ∃ A Z : Nat, a = A ∧ s = Z ∧ A < 48 ∧ 1 ≤ Z ∧ Z ≤ 24 ∧ FoundAt f A Z n t b := by
  by_cases hs : SpanOk a 48 ∧ (1 ≤ s ∧ s ≤ 24)
  · obtain ⟨⟨h1, h2, _⟩, h3, h4⟩ := hs
    obtain ⟨A, rfl⟩ := Int.eq_ofNat_of_zero_le h1
    obtain ⟨Z, rfl⟩ := Int.eq_ofNat_of_zero_le (by omega : 0 ≤ s)
    refine ⟨A, Z, rfl, rfl, by omega, by omega, by omega, ?_⟩
    have hI := firstT_is (sp f) A 48 Z n
    have low : ∀ k, k + Z ≤ 48 → ¬ HasT (sp f) k 48 Z n → lowT (sp f) k (k + Z) < n := fun k hk hn => by
      apply Classical.byContradiction
      intro hc
      exact hn ⟨hk, (le_lowT (by omega)).1 (by omega)⟩
    cases hq : firstT (sp f) A 48 Z n with
    | none =>
      rw [hq] at hI
      have e := firstOfR_ok hf ⟨h1, h2, by omega⟩ ⟨h3, h4⟩ (seekR_none (U := 48) hq)
      rw [h] at e
      obtain ⟨e1, e2⟩ := Prod.mk.inj e
      obtain ⟨e2, _⟩ := Prod.mk.inj e2
      exact .inl ⟨e2, fun k hk h => low k h (hI k hk (by omega))⟩
    | some T =>
      rw [hq] at hI
      obtain ⟨i1, i2, i3, i4⟩ := hI
      have e := firstOfR_ok hf ⟨h1, h2, by omega⟩ ⟨h3, h4⟩ (seekR_some (U := 48) hq)
      rw [h] at e
      obtain ⟨e1, e2⟩ := Prod.mk.inj e
      obtain ⟨e2, _⟩ := Prod.mk.inj e2
      have hT := i3.1
      exact .inr ⟨e2, T, e1, i1, hT, (le_lowT (by omega)).2 i3.2, fun k hk h => low k (by omega) (i4 k hk h)⟩
  · rw [firstOfR_range hf hs] at h
    have := (Prod.mk.inj (Prod.mk.inj h).2).2
    omega

set_option maxRecDepth 100000 in
set_option maxHeartbeats 8000000 in
theorem roomTrue_any (w : World) (v : Value) (l : List Queue) (bv : Value) (b : List Book) (q a s n : Int) (hl : QueuesV w v l) (hb : BooksV w bv b) :
    Calls Try.prog 7 #[v, bv, .int .i64 q, .int .i64 a, .int .i64 s, .int .i64 n] w fun e w' => e = .returned (.bool true) ∧ Ext w w' := by
  have B := hid (fun (W : World) => roomBegun_true W)
  by_cases h0 : booksE l b = 0
  · by_cases hq : 0 ≤ q ∧ q < l.length
    · obtain ⟨k, rfl⟩ := Int.eq_ofNat_of_zero_le hq.1
      obtain ⟨ok, _, h12, hbok⟩ := booksE_zero h0
      have hk : k < l.length := by omega
      have RO := hid (roomOf_is (roomR_ok h0 hq) hl hb)
      have HF := fine_fold (x := roomT l b (k : Int)) (fun t _ => room_num ok hbok h12 hk t)
      have LM := hid (fun (p : Nat) (he : par l k = (p : Int)) => show bothR (fold (roomT l b (k : Int))) (fold (roomT l b (p : Int))) (fun a b => min a b) = (fold (roomT l b (k : Int)), 0) from by
        have hpk : p < k := by have := (ok.pars k hk).2; omega
        rw [bothR_yes HF (fine_fold fun t _ => room_num ok hbok h12 (by omega) t), toldT_congr (y := roomT l b (k : Int)) (fun t ht => by rw [sp_fold ht, sp_fold ht]; exact room_par ok.pars hk he t), toldT_yes (fun t _ => room_num ok hbok h12 hk t)])
      have RP := hid (fun (W : World) (h : Ext w W) (p : Nat) (he : par l k = (p : Int)) => roomOf_is (roomR_ok (q := (p : Int)) h0 (by have := (ok.pars k hk).2; omega)) (hl.mono h) (hb.mono h))
      obtain ⟨x, hxk⟩ := getA (f := l) (k := k) hk
      have ep := (at_some hxk).2.1
      obtain ⟨qb, qo, qc, rfl, _, _, hqb, hqE⟩ := queues_at hl ok.n1
      have HE := hid (fun (W : World) (h : Ext w W) => (EQueue.mono w W qb _ x h (hqE k x hxk)).2.2.1)
      have hpk := ok.pars k hk
      rw [ep] at hpk
      obtain ⟨hp1, hp2⟩ := hpk
      obtain ⟨ba, bc, rfl, hbc, hbc9, _⟩ := hb.form
      have FI := hid (fun (W : World) (v : Value) (hv : RunsV W v (fold (roomT l b (k : Int)))) => First_any W v _ a 48 s n hv)
      have FZ := hid (fun (t : Int) (b' : Bool) (h : firstOfR (fold (roomT l b (k : Int))) a 48 s n = (t, b', 0)) => firstOf_zero HF h)
      have LI := hid (fun (W : World) (v : Value) (hv : RunsV W v (fold (roomT l b (k : Int)))) (i j : Nat) (h1 : i < j) (h2 : j ≤ 48) => Least_is (least_in HF h1 h2) hv)
      have LV := hid (fun (W : World) (v : Value) (hv : RunsV W v (fold (roomT l b (k : Int)))) (i j : Nat) (h2 : 48 < j) => Least_is (least_over (a := i) HF h2) hv)
      have hkn' : ¬ (k : Int) < 0 := by omega
      have hkn2 : ¬ (l.length : Int) ≤ (k : Int) := by omega
      have HP := hid ep
      clear hl hb h0 ok hbok HF hqE hxk ep hq
      generalize roomT l b (k : Int) = R at *
      generalize hFF : fold R = F at *
      have hFne : F ≠ [] := by rw [← hFF]; exact fold_ne _
      clear hFF
      generalize l.length = ln at *
      generalize b.length = z at *
      go_enter Try.func7, Try.ntmps7
      go_wp2_with fail
      refine RO.out.mono ?_
      rintro e w1 ⟨u, rfl, hu, hx1⟩
      obtain ⟨ub, uo, uc, rfl, hub, _⟩ := runs_cells hu hFne
      have HU := hid hu
      have X1 := hid hx1
      have hc := HE.out _ X1.out
      clear hu hx1 RO HE hFne
      have HFI := hid (fun (W : World) (h : Ext w1 W) => FI.out W _ (HU.out.mono h))
      have HLI := hid (fun (W : World) (h : Ext w1 W) => LI.out W _ (HU.out.mono h))
      have HLV := hid (fun (W : World) (h : Ext w1 W) => LV.out W _ (HU.out.mono h))
      clear FI LI LV
      obtain ⟨⟨t, is, m⟩, hfr⟩ : ∃ r, firstOfR F a 48 s n = r := ⟨_, rfl⟩
      rw [hfr] at HFI
      have HFR := hid hfr
      clear hfr
      generalize hFL : F.length = fl at *
      by_cases hp : x.Parent < 0
      · have hp' : ¬ 0 ≤ x.Parent := by omega
        go_wp2_with fail
        have X2 := hid (Ext.rf w1)
        clear hc
        refine (HFI.out _ X2.out).mono ?_
        rintro e w5 ⟨rfl, hx5⟩
        have X3 := hid (X2.out.tr hx5)
        clear hx5 X2 HFI
        by_cases hm : m = 0
        · subst hm
          obtain ⟨A, Z, rfl, rfl, hA, hZ1, hZ2, hFA⟩ := FZ.out t is HFR.out
          have HFA := hid hFA
          rcases hFA with ⟨rfl, hlow⟩ | ⟨rfl, T, rfl, hT1, hT2, hT3, hlow⟩
          · have HL := hid hlow
            clear hlow HFR FZ HFA
            go_wp2_with fail
            go_loopw [26] (fun c wr => ∃ i : Nat, c = .int .i64 i ∧ A ≤ i ∧ i ≤ 48 ∧ Ext w1 wr) (fun c _ => 48 - (intOf c).toNat)
            case atStart => exact ⟨A, rfl, Nat.le_refl _, by omega, X3.out⟩
            case round =>
              obtain ⟨i, rfl, hi1, hi2, hx⟩ := hrel
              by_cases hil : i < 48
              · have hil' : (i : Int) < 48 := by omega
                have hw : IntKind.i64.wrap ((i : Int) + (Z : Int)) = ((i + Z : Nat) : Int) := by rw [IntKind.wrap_i64] <;> omega
                by_cases hz : i + Z ≤ 48
                · have L1 := hid (HLI.out wr hx i (i + Z) (by omega) hz)
                  have hlo := HL.out i hi1 hz
                  have hz' : ((i + Z : Nat) : Int) ≤ 48 := by omega
                  generalize lowT (sp F) i (i + Z) = lo at *
                  generalize i + Z = iz at *
                  have hlo' : ¬ n ≤ lo := by omega
                  go_wp2_with fail
                  refine L1.out.mono ?_
                  rintro e w6 ⟨rfl, hx6⟩
                  go_wp2_with fail
                  go_roundw
                  case rel => exact ⟨i + 1, by go_num, by omega, by omega, hx.tr hx6⟩
                  case measure => simp [intOf]; omega
                · have L1 := hid (HLV.out wr hx i (i + Z) (by omega))
                  generalize i + Z = iz at *
                  go_wp2_with fail
                  refine L1.out.mono ?_
                  rintro e w6 ⟨rfl, hx6⟩
                  go_wp2_with fail
                  go_roundw
                  case rel => exact ⟨i + 1, by go_num, by omega, by omega, hx.tr hx6⟩
                  case measure => simp [intOf]; omega
              · obtain rfl : i = 48 := by omega
                have hil' : ¬ (48 : Int) < 48 := by omega
                go_wp2_with fail
                refine (B.out _).mono ?_
                rintro e w6 ⟨rfl, hx6⟩
                go_wp2_with fail
                go_ret
                exact ⟨rfl, X1.out.tr (hx.tr hx6)⟩
          · have HL := hid hlow
            clear hlow HFR FZ HFA
            have hwT : IntKind.i64.wrap ((T : Int) + (Z : Int)) = ((T + Z : Nat) : Int) := by rw [IntKind.wrap_i64] <;> omega
            have LT := hid (HLI.out _ X3.out T (T + Z) (by omega) hT2)
            have hTZ : ¬ (48 : Int) < ((T + Z : Nat) : Int) := by omega
            have hTA : ¬ (T : Int) < (A : Int) := by omega
            have hlT : ¬ lowT (sp F) T (T + Z) < n := by omega
            clear hT3
            generalize lowT (sp F) T (T + Z) = loT at *
            generalize hTz : T + Z = tz at *
            have HTZ := hid hTz
            clear hTz
            have d1 := deF hlT
            have d2 := deF hTA
            have d3 := deF (show ¬ T < A by omega)
            have d4 := deF hTZ
            go_wp2_with fail
            refine LT.out.mono ?_
            rintro e w6 ⟨rfl, hx6⟩
            have X4 := hid (X3.out.tr hx6)
            clear LT hx6 X3
            go_wp2_with fail
            clear hwT hlT hTA hTZ d1 d2 d3 d4
            go_loopw [26] (fun c wr => ∃ i : Nat, c = .int .i64 i ∧ A ≤ i ∧ i ≤ T ∧ Ext w1 wr) (fun c _ => 48 - (intOf c).toNat)
            case atStart => exact ⟨A, rfl, Nat.le_refl _, by omega, X4.out⟩
            case round =>
              obtain ⟨i, rfl, hi1, hi2, hx⟩ := hrel
              have h48 := HTZ.out
              have hil' : (i : Int) < 48 := by omega
              by_cases hil : i < T
              · have hil2 : (i : Int) < (T : Int) := by omega
                have hw : IntKind.i64.wrap ((i : Int) + (Z : Int)) = ((i + Z : Nat) : Int) := by rw [IntKind.wrap_i64] <;> omega
                have L1 := hid (HLI.out wr hx i (i + Z) (by omega) (by omega))
                have hlo := HL.out i hi1 hil
                have hz' : ((i + Z : Nat) : Int) ≤ 48 := by omega
                generalize lowT (sp F) i (i + Z) = lo at *
                generalize i + Z = iz at *
                have hlo' : ¬ n ≤ lo := by omega
                clear h48
                go_wp2_with fail
                refine L1.out.mono ?_
                rintro e w6 ⟨rfl, hx6⟩
                go_wp2_with fail
                go_roundw
                case rel => exact ⟨i + 1, by go_num, by omega, by omega, hx.tr hx6⟩
                case measure => simp [intOf]; omega
              · obtain rfl : i = T := by omega
                have hil2 : ¬ (i : Int) < (i : Int) := by omega
                clear h48
                go_wp2_with fail
                refine (B.out _).mono ?_
                rintro e w7 ⟨rfl, hx7⟩
                go_wp2_with fail
                go_ret
                exact ⟨rfl, X1.out.tr (hx.tr hx7)⟩
        · have hm' := neT hm
          clear HFR FZ hm
          go_wp2_with fail
          refine (B.out _).mono ?_
          rintro e w6 ⟨rfl, hx6⟩
          go_wp2_with fail
          go_ret
          exact ⟨rfl, X1.out.tr (X3.out.tr hx6)⟩
      · have hp' : 0 ≤ x.Parent := by omega
        obtain ⟨p, hpe⟩ := Int.eq_ofNat_of_zero_le hp'
        have RP1 := hid (RP.out _ X1.out p (by rw [HP.out, hpe]))
        have LM1 := hid (LM.out p (by rw [HP.out, hpe]))
        rw [hpe] at hc hp hp' hp1 hp2
        clear hpe RP LM
        go_wp2_with fail
        refine RP1.out.mono ?_
        rintro e w2 ⟨g, rfl, hg, hx2⟩
        have PL := hid (Lesser_is LM1.out (HU.out.mono hx2) hg)
        obtain ⟨ga, gc, rfl, _, _, _⟩ := hg.form
        clear hg LM1 RP1 hc
        generalize (fold (roomT l b (p : Int))).length = gl at *
        go_wp2_with fail
        refine PL.out.mono ?_
        rintro e w3 ⟨y, rfl, hy, hx3⟩
        have SR := hid (sameRuns_yes hy (HU.out.mono (hx2.tr hx3)))
        obtain ⟨ya, yc, rfl, _, _, _⟩ := hy.form
        rw [hFL] at SR ⊢
        clear hy PL
        go_wp2_with fail
        refine SR.out.mono ?_
        rintro e w4 ⟨rfl, hx4⟩
        have X2 := hid (hx2.tr (hx3.tr hx4))
        clear SR hx2 hx3 hx4
        go_wp2_with fail
        refine (HFI.out _ X2.out).mono ?_
        rintro e w5 ⟨rfl, hx5⟩
        have X3 := hid (X2.out.tr hx5)
        clear hx5 X2 HFI
        by_cases hm : m = 0
        · subst hm
          obtain ⟨A, Z, rfl, rfl, hA, hZ1, hZ2, hFA⟩ := FZ.out t is HFR.out
          have HFA := hid hFA
          rcases hFA with ⟨rfl, hlow⟩ | ⟨rfl, T, rfl, hT1, hT2, hT3, hlow⟩
          · have HL := hid hlow
            clear hlow HFR FZ HFA
            go_wp2_with fail
            go_loopw [26] (fun c wr => ∃ i : Nat, c = .int .i64 i ∧ A ≤ i ∧ i ≤ 48 ∧ Ext w1 wr) (fun c _ => 48 - (intOf c).toNat)
            case atStart => exact ⟨A, rfl, Nat.le_refl _, by omega, X3.out⟩
            case round =>
              obtain ⟨i, rfl, hi1, hi2, hx⟩ := hrel
              by_cases hil : i < 48
              · have hil' : (i : Int) < 48 := by omega
                have hw : IntKind.i64.wrap ((i : Int) + (Z : Int)) = ((i + Z : Nat) : Int) := by rw [IntKind.wrap_i64] <;> omega
                by_cases hz : i + Z ≤ 48
                · have L1 := hid (HLI.out wr hx i (i + Z) (by omega) hz)
                  have hlo := HL.out i hi1 hz
                  have hz' : ((i + Z : Nat) : Int) ≤ 48 := by omega
                  generalize lowT (sp F) i (i + Z) = lo at *
                  generalize i + Z = iz at *
                  have hlo' : ¬ n ≤ lo := by omega
                  go_wp2_with fail
                  refine L1.out.mono ?_
                  rintro e w6 ⟨rfl, hx6⟩
                  go_wp2_with fail
                  go_roundw
                  case rel => exact ⟨i + 1, by go_num, by omega, by omega, hx.tr hx6⟩
                  case measure => simp [intOf]; omega
                · have L1 := hid (HLV.out wr hx i (i + Z) (by omega))
                  generalize i + Z = iz at *
                  go_wp2_with fail
                  refine L1.out.mono ?_
                  rintro e w6 ⟨rfl, hx6⟩
                  go_wp2_with fail
                  go_roundw
                  case rel => exact ⟨i + 1, by go_num, by omega, by omega, hx.tr hx6⟩
                  case measure => simp [intOf]; omega
              · obtain rfl : i = 48 := by omega
                have hil' : ¬ (48 : Int) < 48 := by omega
                go_wp2_with fail
                refine (B.out _).mono ?_
                rintro e w6 ⟨rfl, hx6⟩
                go_wp2_with fail
                go_ret
                exact ⟨rfl, X1.out.tr (hx.tr hx6)⟩
          · have HL := hid hlow
            clear hlow HFR FZ HFA
            have hwT : IntKind.i64.wrap ((T : Int) + (Z : Int)) = ((T + Z : Nat) : Int) := by rw [IntKind.wrap_i64] <;> omega
            have LT := hid (HLI.out _ X3.out T (T + Z) (by omega) hT2)
            have hTZ : ¬ (48 : Int) < ((T + Z : Nat) : Int) := by omega
            have hTA : ¬ (T : Int) < (A : Int) := by omega
            have hlT : ¬ lowT (sp F) T (T + Z) < n := by omega
            clear hT3
            generalize lowT (sp F) T (T + Z) = loT at *
            generalize hTz : T + Z = tz at *
            have HTZ := hid hTz
            clear hTz
            have d1 := deF hlT
            have d2 := deF hTA
            have d3 := deF (show ¬ T < A by omega)
            have d4 := deF hTZ
            go_wp2_with fail
            refine LT.out.mono ?_
            rintro e w6 ⟨rfl, hx6⟩
            have X4 := hid (X3.out.tr hx6)
            clear LT hx6 X3
            go_wp2_with fail
            clear hwT hlT hTA hTZ d1 d2 d3 d4
            go_loopw [26] (fun c wr => ∃ i : Nat, c = .int .i64 i ∧ A ≤ i ∧ i ≤ T ∧ Ext w1 wr) (fun c _ => 48 - (intOf c).toNat)
            case atStart => exact ⟨A, rfl, Nat.le_refl _, by omega, X4.out⟩
            case round =>
              obtain ⟨i, rfl, hi1, hi2, hx⟩ := hrel
              have h48 := HTZ.out
              have hil' : (i : Int) < 48 := by omega
              by_cases hil : i < T
              · have hil2 : (i : Int) < (T : Int) := by omega
                have hw : IntKind.i64.wrap ((i : Int) + (Z : Int)) = ((i + Z : Nat) : Int) := by rw [IntKind.wrap_i64] <;> omega
                have L1 := hid (HLI.out wr hx i (i + Z) (by omega) (by omega))
                have hlo := HL.out i hi1 hil
                have hz' : ((i + Z : Nat) : Int) ≤ 48 := by omega
                generalize lowT (sp F) i (i + Z) = lo at *
                generalize i + Z = iz at *
                have hlo' : ¬ n ≤ lo := by omega
                clear h48
                go_wp2_with fail
                refine L1.out.mono ?_
                rintro e w6 ⟨rfl, hx6⟩
                go_wp2_with fail
                go_roundw
                case rel => exact ⟨i + 1, by go_num, by omega, by omega, hx.tr hx6⟩
                case measure => simp [intOf]; omega
              · obtain rfl : i = T := by omega
                have hil2 : ¬ (i : Int) < (i : Int) := by omega
                clear h48
                go_wp2_with fail
                refine (B.out _).mono ?_
                rintro e w7 ⟨rfl, hx7⟩
                go_wp2_with fail
                go_ret
                exact ⟨rfl, X1.out.tr (hx.tr hx7)⟩
        · have hm' := neT hm
          clear HFR FZ hm
          go_wp2_with fail
          refine (B.out _).mono ?_
          rintro e w6 ⟨rfl, hx6⟩
          go_wp2_with fail
          go_ret
          exact ⟨rfl, X1.out.tr (X3.out.tr hx6)⟩
    · have RO := hid (roomOf_is (roomR_none h0 hq) hl hb)
      obtain ⟨a1, cap, rfl, _, _, _⟩ := hl.form
      obtain ⟨ba, bc, rfl, _, _, _⟩ := hb.form
      clear hl hb h0 hq
      generalize l.length = ln at *
      generalize b.length = z at *
      go_enter Try.func7, Try.ntmps7
      go_wp2_with fail
      refine RO.out.mono ?_
      rintro e w1 ⟨u, rfl, hu, hx1⟩
      obtain ⟨ua, uc, rfl, _, _, _⟩ := hu.form
      clear hu
      go_wp2_with fail
      refine (B.out _).mono ?_
      rintro e w2 ⟨rfl, hx2⟩
      go_wp2_with fail
      go_ret
      exact ⟨rfl, hx1.tr hx2⟩
  · have RO := hid (roomOf_is (roomR_bad (q := q) h0) hl hb)
    have hne := neT h0
    obtain ⟨a1, cap, rfl, _, _, _⟩ := hl.form
    obtain ⟨ba, bc, rfl, _, _, _⟩ := hb.form
    clear hl hb h0
    generalize booksE l b = be at *
    generalize l.length = ln at *
    generalize b.length = z at *
    go_enter Try.func7, Try.ntmps7
    go_wp2_with fail
    refine RO.out.mono ?_
    rintro e w1 ⟨u, rfl, hu, hx1⟩
    obtain ⟨ua, uc, rfl, _, _, _⟩ := hu.form
    clear hu
    go_wp2_with fail
    refine (B.out _).mono ?_
    rintro e w2 ⟨rfl, hx2⟩
    go_wp2_with fail
    go_ret
    exact ⟨rfl, hx1.tr hx2⟩

end Go.Proofs.Ytoclbapkgfmphaa

