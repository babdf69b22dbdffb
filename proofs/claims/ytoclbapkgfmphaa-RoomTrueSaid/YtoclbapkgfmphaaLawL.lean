/- The laws on what is taken: loadBegun is true; LoadTells. -/
import Derived.Test.YtoclbapkgfmphaaLawW
import Derived.Test.YtoclbapkgfmphaaOver
set_option linter.unusedVariables false
namespace Go.Proofs.Ytoclbapkgfmphaa
open Go.RowKit

theorem least_nat {P : Nat → Prop} (h : ∃ n, P n) : ∃ n, P n ∧ ∀ m, m < n → ¬ P m := by
  obtain ⟨n, hn⟩ := h
  induction n using Nat.strongRecOn with
  | ind n ih =>
    by_cases h : ∃ m, m < n ∧ P m
    · obtain ⟨m, hm, hp⟩ := h
      exact ih m hm hp
    · exact ⟨n, hn, fun m hm hp => h ⟨m, hm, hp⟩⟩
theorem over_some {l : List Queue} {b : List Book} {f : Nat} (h : ¬ FitsT l b f) : ∃ t q, OverIs l b f t q := by
  have h1 : ∃ t, f ≤ t ∧ t < 48 ∧ ∃ q, q < l.length ∧ leftT l b q t < 0 := by
    apply Classical.byContradiction
    intro hn
    refine h (fun s h1 h2 p hp => ?_)
    apply Classical.byContradiction
    intro h3
    exact hn ⟨s, h1, h2, p, hp, by omega⟩
  obtain ⟨t, ⟨a1, a2, a3⟩, a4⟩ := least_nat h1
  obtain ⟨q, ⟨b1, b2⟩, b3⟩ := least_nat a3
  refine ⟨t, q, a1, a2, b1, b2, fun s h1 h2 p hp => ?_, fun p hp => ?_⟩
  · apply Classical.byContradiction
    intro h3
    exact a4 s h2 ⟨h1, by omega, p, hp, by omega⟩
  · apply Classical.byContradiction
    intro h3
    exact b3 p hp ⟨by omega, by omega⟩
theorem too_yes {l : List Queue} {b : List Book} {f : Nat} (h : ¬ FitsT l b f) : (tooR l b f).2.2 = true := by
  obtain ⟨t, q, h⟩ := over_some h
  rw [tooR_is h]
theorem too_no {l : List Queue} {b : List Book} {f : Nat} (h : FitsT l b f) : (tooR l b f).2.2 = false := by rw [tooR_no h]

def loadL0 : List Run := [⟨0, 0⟩, ⟨8, 3⟩, ⟨9, 4⟩, ⟨10, 10⟩, ⟨12, 7⟩, ⟨15, 0⟩]
def loadL2 : List Run := [⟨0, 0⟩, ⟨9, 1⟩, ⟨15, 0⟩]
def loadL3 : List Run := [⟨0, 0⟩, ⟨8, 3⟩, ⟨10, 9⟩, ⟨12, 6⟩, ⟨15, 0⟩]
theorem loadV0 : (loadsL (fieldL 10 0 6) sownL)[0]? = some loadL0 := by decide +kernel
theorem loadV2 : (loadsL (fieldL 10 0 6) sownL)[2]? = some loadL2 := by decide +kernel
theorem loadV3 : (loadsL (fieldL 10 0 6) sownL)[3]? = some loadL3 := by decide +kernel
theorem fitsV0 : fitsR (fieldL 10 0 6) sownL 0 = (false, 0) := by
  have h : (tooR (fieldL 10 0 6) sownL 0).2.2 = true := too_yes (fun h => by
    have h1 := h 10 (by omega) (by omega) 1 (by decide)
    have h2 : leftT (fieldL 10 0 6) sownL 1 10 < 0 := by decide +kernel
    omega)
  rw [fitsR_ok sownC (by omega)]
  simp only [Int.toNat_zero]
  rw [h]; rfl
theorem fitsV12 : fitsR (fieldL 10 0 6) sownL 12 = (true, 0) := by
  have h : (tooR (fieldL 10 0 6) sownL 12).2.2 = false := too_no (fun s h1 h2 p hp => by
    have h3 : ∀ s, s < 48 → 12 ≤ s → ∀ p, p < 4 → 0 ≤ leftT (fieldL 10 0 6) sownL p s := by decide +kernel
    exact h3 s h2 h1 p hp)
  rw [fitsR_ok sownC (by omega)]
  rw [show (12 : Int).toNat = 12 from rfl, h]; rfl
theorem fitsV49 : fitsR (fieldL 10 0 6) sownL 49 = (false, 3) := fitsR_out sownC (by omega)
theorem sownNC : booksE (fieldL 10 0 6) sownN = 1 := by
  have m1 : meetsR (plotR 1) [] = false := by rw [meetsR_dec]; decide +kernel
  rw [booksE_first fieldC (by decide)]
  exact firstE_form plotC m1
theorem loadVN : loadsR (fieldL 10 0 6) sownN = ([], 1) := by rw [loadsR_bad (by rw [sownNC]; decide), sownNC]

theorem LoadOf_is {w : World} {v bv : Value} {l : List Queue} {b : List Book} {f : List (List Run)} {n : Int} (h : loadsR l b = (f, n)) (hl : QueuesV w v l) (hb : BooksV w bv b) :
    Calls Try.prog 11 #[v, bv] w fun e w' => ∃ u, e = .returned (.tuple #[u, .int .i64 n]) ∧ LoadsV w' u f ∧ Ext w w' := by
  have := LoadOf_go w v bv l b hl hb; rw [h] at this; exact this
theorem Fits_is {w : World} {v bv : Value} {l : List Queue} {b : List Book} {f : Int} {a : Bool} {n : Int} (h : fitsR l b f = (a, n)) (hl : QueuesV w v l) (hb : BooksV w bv b) :
    Calls Try.prog 12 #[v, bv, .int .i64 f] w fun e w' => e = .returned (.tuple #[.bool a, .int .i64 n]) ∧ Ext w w' := by
  have := loadFits_any w v bv l b f hl hb; rw [h] at this; exact this

set_option maxRecDepth 100000 in
set_option maxHeartbeats 8000000 in
theorem loadBegun_true (w : World) : Calls Try.prog 16 #[] w fun e w' => e = .returned (.bool true) ∧ Ext w w' := by
  have fv := fun (B : Nat) (W : World) (F : FieldAt W B 10 0 6) => F.v (i64_small' (by decide) (by decide)) (i64_small' (by decide) (by decide)) (i64_small' (by decide) (by decide))
  have FV := hid fv
  clear fv
  go_enter Try.func16, Try.ntmps16
  go_wp2_with fail
  refine (field_ex _).mono ?_
  rintro e w1 ⟨B1, rfl, F1, hx1⟩
  have HF1 := hid F1
  have X1 := hid hx1
  clear F1 hx1
  go_wp2_with fail
  refine (sown_any _).mono ?_
  rintro e w2 ⟨B2, p1, b1, p2, b2, rfl, _, S2, hx2⟩
  have HS2 := hid S2
  have X12 := hid hx2
  clear S2 hx2
  go_wp2_with fail
  refine (LoadOf_is (loadsR_ok sownC) (FV.out _ _ (HF1.out.ext X12.out)) HS2.out.v).mono ?_
  rintro e w3 ⟨u, rfl, hu, hx3⟩
  obtain ⟨ua, uc, rfl, _, _, _, huE⟩ := loads_at hu
  have hll : (loadsL (fieldL 10 0 6) sownL).length = 4 := by simp [loadsL, fieldL]
  obtain ⟨ub, uo, rfl, hub, hue⟩ := huE (by rw [hll]; decide)
  obtain ⟨u0, c0, hu0⟩ := hue 0 _ loadV0
  rw [Nat.add_zero] at c0
  obtain ⟨u2, c2, hu2⟩ := hue 2 _ loadV2
  obtain ⟨u3, c3, hu3⟩ := hue 3 _ loadV3
  rw [hll]
  obtain ⟨v0, o0, k0, rfl, _⟩ := runs_cells hu0 (by decide)
  obtain ⟨v2, o2, k2, rfl, _⟩ := runs_cells hu2 (by decide)
  obtain ⟨v3, o3, k3, rfl, _⟩ := runs_cells hu3 (by decide)
  have HU := hid (And.intro hu0 (And.intro hu2 hu3))
  have HC := hid (And.intro c0 (And.intro c2 c3))
  have X3 := hid (X1.out.tr (X12.out.tr hx3))
  clear hu huE hue hu0 hu2 hu3 c0 c2 c3 hll hx3 HF1 HS2 X1 X12
  generalize loadL0.length = n0 at *
  generalize loadL2.length = n2 at *
  generalize loadL3.length = n3 at *
  go_wp2_with fail
  refine (field_ex _).mono ?_
  rintro e w4 ⟨B4, rfl, F1, hx1⟩
  have HF1 := hid F1
  have X1 := hid hx1
  clear F1 hx1
  go_wp2_with fail
  refine (sown_any _).mono ?_
  rintro e w5 ⟨C4, q14, q24, q34, q44, rfl, _, S2, hx2⟩
  have HS2 := hid S2
  have X2 := hid hx2
  clear S2 hx2
  go_wp2_with fail
  refine (Fits_is fitsV0 (FV.out _ _ (HF1.out.ext X2.out)) HS2.out.v).mono ?_
  rintro e w6 ⟨rfl, hx3⟩
  have XN := hid (X1.out.tr (X2.out.tr hx3))
  clear hx3 HF1 HS2 X1 X2
  have X12 := hid XN.out
  clear XN
  go_wp2_with fail
  refine (field_ex _).mono ?_
  rintro e w7 ⟨B7, rfl, F1, hx1⟩
  have HF1 := hid F1
  have X1 := hid hx1
  clear F1 hx1
  go_wp2_with fail
  refine (sown_any _).mono ?_
  rintro e w8 ⟨C7, q17, q27, q37, q47, rfl, _, S2, hx2⟩
  have HS2 := hid S2
  have X2 := hid hx2
  clear S2 hx2
  go_wp2_with fail
  refine (Fits_is fitsV12 (FV.out _ _ (HF1.out.ext X2.out)) HS2.out.v).mono ?_
  rintro e w9 ⟨rfl, hx3⟩
  have XN := hid (X12.out.tr (X1.out.tr (X2.out.tr hx3)))
  clear hx3 HF1 HS2 X1 X2 X12
  have X12 := hid XN.out
  clear XN
  go_wp2_with fail
  refine (field_ex _).mono ?_
  rintro e w10 ⟨B10, rfl, F1, hx1⟩
  have HF1 := hid F1
  have X1 := hid hx1
  clear F1 hx1
  go_wp2_with fail
  refine (sown_any _).mono ?_
  rintro e w11 ⟨C10, q110, q210, q310, q410, rfl, _, S2, hx2⟩
  have HS2 := hid S2
  have X2 := hid hx2
  clear S2 hx2
  go_wp2_with fail
  refine (Fits_is fitsV49 (FV.out _ _ (HF1.out.ext X2.out)) HS2.out.v).mono ?_
  rintro e w12 ⟨rfl, hx3⟩
  have XN := hid (X12.out.tr (X1.out.tr (X2.out.tr hx3)))
  clear hx3 HF1 HS2 X1 X2 X12
  have X12 := hid XN.out
  clear XN
  go_wp2_with fail
  refine (sown_any _).mono ?_
  rintro e wd ⟨Bd, p3, b3, p4, b4, rfl, hBd, Sd, hxd⟩
  have hrow := Sd.row.cell (k := 6) rfl
  have hfree := Sd.row.free 6
  have HN := hid Sd.nil
  have XD := hid (hxd.se hBd (o := 6) (.slice none 0 0))
  clear hxd Sd
  go_wp2_with fail
  clear hrow hfree
  have XE := hid (X12.out.tr XD.out)
  clear XD X12
  generalize wd.setCell ⟨Bd, 6, none⟩ (.slice none 0 0) = we at *
  go_wp2_with fail
  refine (field_ex _).mono ?_
  rintro e wf ⟨Bf, rfl, Ff, hxf⟩
  have HFf := hid Ff
  have XF := hid hxf
  clear Ff hxf
  go_wp2_with fail
  refine (LoadOf_is loadVN (FV.out _ _ HFf.out) (HN.out.mono XF.out)).mono ?_
  rintro e wg ⟨ug, rfl, _, hxg⟩
  have X3g := hid (XE.out.tr (XF.out.tr hxg))
  have c0 := X3g.out.ce' HC.out.1
  have c2 := X3g.out.ce' HC.out.2.1
  have c3 := X3g.out.ce' HC.out.2.2
  clear hxg XF XE HFf HN
  go_wp2_with fail
  refine (sameRuns_is (f := loadL3) (g := loadL3) (b := true) (by decide) (HU.out.2.2.mono (X3g.out.al _)) (runs_lit (w := wg) loadL3 rfl rfl rfl (by decide) (lit_nums (by decide +kernel)))).mono ?_
  rintro e wh ⟨rfl, hxwh⟩
  have XX0 := hid (((Ext.rf wg).al _).tr hxwh)
  replace c0 := XX0.out.ce' c0
  replace c2 := XX0.out.ce' c2
  have X3wh := hid (X3g.out.tr XX0.out)
  clear hxwh XX0 X3g c3
  go_wp2_with fail
  refine (sameRuns_is (f := loadL0) (g := loadL0) (b := true) (by decide) (HU.out.1.mono (X3wh.out.al _)) (runs_lit (w := wh) loadL0 rfl rfl rfl (by decide) (lit_nums (by decide +kernel)))).mono ?_
  rintro e wi ⟨rfl, hxwi⟩
  have XX1 := hid (((Ext.rf wh).al _).tr hxwi)
  replace c0 := XX1.out.ce' c0
  replace c2 := XX1.out.ce' c2
  have X3wi := hid (X3wh.out.tr XX1.out)
  clear hxwi XX1 X3wh c0
  go_wp2_with fail
  refine (sameRuns_is (f := loadL2) (g := loadL2) (b := true) (by decide) (HU.out.2.1.mono (X3wi.out.al _)) (runs_lit (w := wi) loadL2 rfl rfl rfl (by decide) (lit_nums (by decide +kernel)))).mono ?_
  rintro e wj ⟨rfl, hxwj⟩
  have XX2 := hid (((Ext.rf wi).al _).tr hxwj)
  have X3wj := hid (X3wi.out.tr XX2.out)
  clear hxwj XX2 X3wi c2
  go_wp2_with fail
  go_ret
  exact ⟨rfl, X3.out.tr X3wj.out⟩

theorem sameLoads_is {w : World} {vf vg : Value} {f : List (List Run)} (hf : LoadsV w vf f) (hg : LoadsV w vg f) :
    Calls Try.prog 17 #[vf, vg] w fun e w' => e = .returned (.bool true) ∧ Ext w w' := by
  have := SameLoads_any w vf vg f f hf hg; rw [deT rfl] at this; exact this

set_option maxRecDepth 100000 in
set_option maxHeartbeats 8000000 in
theorem loadTells_any (w : World) (v : Value) (l : List Queue) (bv : Value) (b : List Book) (f : Int) (hl : QueuesV w v l) (hb : BooksV w bv b) :
    Calls Try.prog 3 #[v, bv, .int .i64 f] w fun e w' => e = .returned (.bool true) ∧ Ext w w' := by
  have FI := hid (fun (W : World) (h : Ext w W) => loadFits_any W v bv l b f (hl.mono h) (hb.mono h))
  have FR := hid (fun (W : World) (h : Ext w W) => FitsOf_any W v bv l b f (hl.mono h) (hb.mono h))
  have CB := hid (fun (W : World) (h : Ext w W) => CheckBooks_any W v bv l b (hl.mono h) (hb.mono h))
  have B := hid (fun (W : World) => loadBegun_true W)
  by_cases h0 : booksE l b = 0
  · have LO := hid (LoadOf_is (loadsR_ok h0) hl hb)
    obtain ⟨ok, _, h12, hbok⟩ := booksE_zero h0
    have LR := hid (fun (W : World) (h : Ext w W) => LoadOf_any W v bv l b (hl.mono h) (hb.mono h) ok.pars ok.n5 hbok h12)
    rw [h0] at CB
    obtain ⟨a, cap, rfl, _, _, _⟩ := hl.form
    obtain ⟨ba, bc, rfl, _, _, _⟩ := hb.form
    clear hl hb h0 ok hbok h12
    generalize fitsR l b f = fr at *
    obtain ⟨is, m⟩ := fr
    have hbb : (is == is) = true := by simp
    have hmm : (m == m) = true := by simp
    generalize l.length = n at *
    generalize b.length = z at *
    go_enter Try.func3, Try.ntmps3
    go_wp2_with fail
    refine LO.out.mono ?_
    rintro e w1 ⟨u, rfl, hu, hx1⟩
    obtain ⟨ua, uc, rfl, _, _, _⟩ := hu.form
    have HU := hid hu
    have X1 := hid hx1
    clear hu hx1 LO
    generalize (loadsL l b).length = ln at *
    go_wp2_with fail
    refine (FI.out _ X1.out).mono ?_
    rintro e w2 ⟨rfl, hx2⟩
    have X12 := hid hx2
    clear hx2 FI
    go_wp2_with fail
    refine (CB.out _ (X1.out.tr X12.out)).mono ?_
    rintro e w3 ⟨rfl, hx3⟩
    have X13 := hid (X12.out.tr hx3)
    clear hx3 CB X12
    go_wp2_with fail
    refine (LR.out _ (X1.out.tr X13.out)).mono ?_
    rintro e w4 ⟨r, rfl, hr, hx4⟩
    obtain ⟨ra, rc, rfl, _, _, _⟩ := hr.form
    have HR := hid hr
    have X14 := hid (X13.out.tr hx4)
    clear hr hx4 LR X13
    generalize hlr : (loadsL l b).length = lr at *
    clear hlr
    go_wp2_with fail
    refine (FR.out _ (X1.out.tr X14.out)).mono ?_
    rintro e w5 ⟨rfl, hx5⟩
    have X45 := hid hx5
    clear hx5 FR
    go_wp2_with fail
    refine (B.out _).mono ?_
    rintro e w6 ⟨rfl, hx6⟩
    have X46 := hid (X45.out.tr hx6)
    clear hx6 B X45
    go_wp2_with fail
    refine (sameLoads_is (HU.out.mono (X14.out.tr X46.out)) (HR.out.mono X46.out)).mono ?_
    rintro e w7 ⟨rfl, hx7⟩
    have XX := hid (X1.out.tr (X14.out.tr (X46.out.tr hx7)))
    clear hx7
    go_wp2_with fail
    go_ret
    exact ⟨rfl, XX.out⟩
  · have LO := hid (LoadOf_is (loadsR_bad h0) hl hb)
    have hne := neT h0
    have hne2 := eqF h0
    obtain ⟨a, cap, rfl, _, _, _⟩ := hl.form
    obtain ⟨ba, bc, rfl, _, _, _⟩ := hb.form
    clear hl hb h0
    generalize fitsR l b f = fr at *
    obtain ⟨is, m⟩ := fr
    generalize booksE l b = be at *
    have hbb : (is == is) = true := by simp
    have hmm : (m == m) = true := by simp
    have hee : (be == be) = true := by simp
    generalize l.length = n at *
    generalize b.length = z at *
    go_enter Try.func3, Try.ntmps3
    go_wp2_with fail
    refine LO.out.mono ?_
    rintro e w1 ⟨u, rfl, hu, hx1⟩
    obtain ⟨ua, uc, rfl, _, _, _⟩ := hu.form
    have HU := hid hu
    have X1 := hid hx1
    clear hu hx1 LO
    go_wp2_with fail
    refine (FI.out _ X1.out).mono ?_
    rintro e w2 ⟨rfl, hx2⟩
    have X12 := hid hx2
    clear hx2 FI
    go_wp2_with fail
    refine (CB.out _ (X1.out.tr X12.out)).mono ?_
    rintro e w3 ⟨rfl, hx3⟩
    have X13 := hid (X12.out.tr hx3)
    clear hx3 CB X12
    go_wp2_with fail
    refine (FR.out _ (X1.out.tr X13.out)).mono ?_
    rintro e w5 ⟨rfl, hx5⟩
    have X15 := hid (X13.out.tr hx5)
    clear hx5 FR X13
    go_wp2_with fail
    refine (B.out _).mono ?_
    rintro e w6 ⟨rfl, hx6⟩
    have X16 := hid (X15.out.tr hx6)
    clear hx6 B X15
    go_wp2_with fail
    refine (sameLoads_is (HU.out.mono X16.out) SV.nil).mono ?_
    rintro e w7 ⟨rfl, hx7⟩
    have XX := hid (X1.out.tr (X16.out.tr hx7))
    clear hx7
    go_wp2_with fail
    go_ret
    exact ⟨rfl, XX.out⟩

end Go.Proofs.Ytoclbapkgfmphaa
