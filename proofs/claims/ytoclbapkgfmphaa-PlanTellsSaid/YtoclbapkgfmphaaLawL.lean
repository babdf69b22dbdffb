/- The laws on what is taken and on room: loadBegun, LoadTells, RoomTells, LoadSum. -/
import Derived.Test.YtoclbapkgfmphaaLawW
import Derived.Test.YtoclbapkgfmphaaOver
import Derived.Test.YtoclbapkgfmphaaLawD
import Derived.Deep.RegionHeld3

/- The laws on what is taken: loadBegun is true; LoadTells. -/
set_option linter.unusedVariables false
namespace Go.Proofs.Ytoclbapkgfmphaa
open Go.RowKit

theorem least_nat {P : Nat → Prop} (h : ∃ n, P n) : ∃ n, P n ∧ ∀ m, m < n → ¬ P m := by
  obtain ⟨n, hn⟩ := h
  induction n using Nat.strongRecOn with
  | ind n ih =>
    by_cases h : ∃ m, m < n ∧ P m
    · obtain ⟨m, hm, hp⟩ := h
      exact ih m hm hp
    · exact ⟨n, hn, fun m hm hp => h ⟨m, hm, hp⟩⟩
theorem over_some {l : List Queue} {b : List Book} {f : Nat} (h : ¬ FitsT l b f) : ∃ t q, OverIs l b f t q := by
  have h1 : ∃ t, f ≤ t ∧ t < 48 ∧ ∃ q, q < l.length ∧ leftT l b q t < 0 := by
    apply Classical.byContradiction
    intro hn
    refine h (fun s h1 h2 p hp => ?_)
    apply Classical.byContradiction
    intro h3
    exact hn ⟨s, h1, h2, p, hp, by omega⟩
  obtain ⟨t, ⟨a1, a2, a3⟩, a4⟩ := least_nat h1
  obtain ⟨q, ⟨b1, b2⟩, b3⟩ := least_nat a3
  refine ⟨t, q, a1, a2, b1, b2, fun s h1 h2 p hp => ?_, fun p hp => ?_⟩
  · apply Classical.byContradiction
    intro h3
    exact a4 s h2 ⟨h1, by omega, p, hp, by omega⟩
  · apply Classical.byContradiction
    intro h3
    exact b3 p hp ⟨by omega, by omega⟩
theorem too_yes {l : List Queue} {b : List Book} {f : Nat} (h : ¬ FitsT l b f) : (tooR l b f).2.2 = true := by
  obtain ⟨t, q, h⟩ := over_some h
  rw [tooR_is h]
theorem too_no {l : List Queue} {b : List Book} {f : Nat} (h : FitsT l b f) : (tooR l b f).2.2 = false := by rw [tooR_no h]

def loadL0 : List Run := [⟨0, 0⟩, ⟨8, 3⟩, ⟨9, 4⟩, ⟨10, 10⟩, ⟨12, 7⟩, ⟨15, 0⟩]
def loadL2 : List Run := [⟨0, 0⟩, ⟨9, 1⟩, ⟨15, 0⟩]
def loadL3 : List Run := [⟨0, 0⟩, ⟨8, 3⟩, ⟨10, 9⟩, ⟨12, 6⟩, ⟨15, 0⟩]
theorem loadV0 : (loadsL (fieldL 10 0 6) sownL)[0]? = some loadL0 := by decide +kernel
theorem loadV2 : (loadsL (fieldL 10 0 6) sownL)[2]? = some loadL2 := by decide +kernel
theorem loadV3 : (loadsL (fieldL 10 0 6) sownL)[3]? = some loadL3 := by decide +kernel
theorem fitsV0 : fitsR (fieldL 10 0 6) sownL 0 = (false, 0) := by
  have h : (tooR (fieldL 10 0 6) sownL 0).2.2 = true := too_yes (fun h => by
    have h1 := h 10 (by omega) (by omega) 1 (by decide)
    have h2 : leftT (fieldL 10 0 6) sownL 1 10 < 0 := by decide +kernel
    omega)
  rw [fitsR_ok sownC (by omega)]
  simp only [Int.toNat_zero]
  rw [h]; rfl
theorem fitsV12 : fitsR (fieldL 10 0 6) sownL 12 = (true, 0) := by
  have h : (tooR (fieldL 10 0 6) sownL 12).2.2 = false := too_no (fun s h1 h2 p hp => by
    have h3 : ∀ s, s < 48 → 12 ≤ s → ∀ p, p < 4 → 0 ≤ leftT (fieldL 10 0 6) sownL p s := by decide +kernel
    exact h3 s h2 h1 p hp)
  rw [fitsR_ok sownC (by omega)]
  rw [show (12 : Int).toNat = 12 from rfl, h]; rfl
theorem fitsV49 : fitsR (fieldL 10 0 6) sownL 49 = (false, 3) := fitsR_out sownC (by omega)
theorem sownNC : booksE (fieldL 10 0 6) sownN = 1 := by
  have m1 : meetsR (plotR 1) [] = false := by rw [meetsR_dec]; decide +kernel
  rw [booksE_first fieldC (by decide)]
  exact firstE_form plotC m1
theorem loadVN : loadsR (fieldL 10 0 6) sownN = ([], 1) := by rw [loadsR_bad (by rw [sownNC]; decide), sownNC]

theorem LoadOf_is {w : World} {v bv : Value} {l : List Queue} {b : List Book} {f : List (List Run)} {n : Int} (h : loadsR l b = (f, n)) (hl : QueuesV w v l) (hb : BooksV w bv b) :
    Calls Try.prog 11 #[v, bv] w fun e w' => ∃ u, e = .returned (.tuple #[u, .int .i64 n]) ∧ LoadsV w' u f ∧ Ext w w' := by
  have := LoadOf_go w v bv l b hl hb; rw [h] at this; exact this
theorem Fits_is {w : World} {v bv : Value} {l : List Queue} {b : List Book} {f : Int} {a : Bool} {n : Int} (h : fitsR l b f = (a, n)) (hl : QueuesV w v l) (hb : BooksV w bv b) :
    Calls Try.prog 12 #[v, bv, .int .i64 f] w fun e w' => e = .returned (.tuple #[.bool a, .int .i64 n]) ∧ Ext w w' := by
  have := loadFits_any w v bv l b f hl hb; rw [h] at this; exact this

set_option maxRecDepth 100000 in
set_option maxHeartbeats 8000000 in
theorem loadBegun_true (w : World) : Calls Try.prog 16 #[] w fun e w' => e = .returned (.bool true) ∧ Ext w w' := by
  have fv := fun (B : Nat) (W : World) (F : FieldAt W B 10 0 6) => F.v (i64_small' (by decide) (by decide)) (i64_small' (by decide) (by decide)) (i64_small' (by decide) (by decide))
  have FV := hid fv
  clear fv
  go_enter Try.func16, Try.ntmps16
  go_wp2_with fail
  refine (field_ex _).mono ?_
  rintro e w1 ⟨B1, rfl, F1, hx1⟩
  have HF1 := hid F1
  have X1 := hid hx1
  clear F1 hx1
  go_wp2_with fail
  refine (sown_any _).mono ?_
  rintro e w2 ⟨B2, p1, b1, p2, b2, rfl, _, S2, hx2⟩
  have HS2 := hid S2
  have X12 := hid hx2
  clear S2 hx2
  go_wp2_with fail
  refine (LoadOf_is (loadsR_ok sownC) (FV.out _ _ (HF1.out.ext X12.out)) HS2.out.v).mono ?_
  rintro e w3 ⟨u, rfl, hu, hx3⟩
  obtain ⟨ua, uc, rfl, _, _, _, huE⟩ := loads_at hu
  have hll : (loadsL (fieldL 10 0 6) sownL).length = 4 := by simp [loadsL, fieldL]
  obtain ⟨ub, uo, rfl, hub, hue⟩ := huE (by rw [hll]; decide)
  obtain ⟨u0, c0, hu0⟩ := hue 0 _ loadV0
  rw [Nat.add_zero] at c0
  obtain ⟨u2, c2, hu2⟩ := hue 2 _ loadV2
  obtain ⟨u3, c3, hu3⟩ := hue 3 _ loadV3
  rw [hll]
  obtain ⟨v0, o0, k0, rfl, _⟩ := runs_cells hu0 (by decide)
  obtain ⟨v2, o2, k2, rfl, _⟩ := runs_cells hu2 (by decide)
  obtain ⟨v3, o3, k3, rfl, _⟩ := runs_cells hu3 (by decide)
  have HU := hid (And.intro hu0 (And.intro hu2 hu3))
  have HC := hid (And.intro c0 (And.intro c2 c3))
  have X3 := hid (X1.out.tr (X12.out.tr hx3))
  clear hu huE hue hu0 hu2 hu3 c0 c2 c3 hll hx3 HF1 HS2 X1 X12
  generalize loadL0.length = n0 at *
  generalize loadL2.length = n2 at *
  generalize loadL3.length = n3 at *
  go_wp2_with fail
  refine (field_ex _).mono ?_
  rintro e w4 ⟨B4, rfl, F1, hx1⟩
  have HF1 := hid F1
  have X1 := hid hx1
  clear F1 hx1
  go_wp2_with fail
  refine (sown_any _).mono ?_
  rintro e w5 ⟨C4, q14, q24, q34, q44, rfl, _, S2, hx2⟩
  have HS2 := hid S2
  have X2 := hid hx2
  clear S2 hx2
  go_wp2_with fail
  refine (Fits_is fitsV0 (FV.out _ _ (HF1.out.ext X2.out)) HS2.out.v).mono ?_
  rintro e w6 ⟨rfl, hx3⟩
  have XN := hid (X1.out.tr (X2.out.tr hx3))
  clear hx3 HF1 HS2 X1 X2
  have X12 := hid XN.out
  clear XN
  go_wp2_with fail
  refine (field_ex _).mono ?_
  rintro e w7 ⟨B7, rfl, F1, hx1⟩
  have HF1 := hid F1
  have X1 := hid hx1
  clear F1 hx1
  go_wp2_with fail
  refine (sown_any _).mono ?_
  rintro e w8 ⟨C7, q17, q27, q37, q47, rfl, _, S2, hx2⟩
  have HS2 := hid S2
  have X2 := hid hx2
  clear S2 hx2
  go_wp2_with fail
  refine (Fits_is fitsV12 (FV.out _ _ (HF1.out.ext X2.out)) HS2.out.v).mono ?_
  rintro e w9 ⟨rfl, hx3⟩
  have XN := hid (X12.out.tr (X1.out.tr (X2.out.tr hx3)))
  clear hx3 HF1 HS2 X1 X2 X12
  have X12 := hid XN.out
  clear XN
  go_wp2_with fail
  refine (field_ex _).mono ?_
  rintro e w10 ⟨B10, rfl, F1, hx1⟩
  have HF1 := hid F1
  have X1 := hid hx1
  clear F1 hx1
  go_wp2_with fail
  refine (sown_any _).mono ?_
  rintro e w11 ⟨C10, q110, q210, q310, q410, rfl, _, S2, hx2⟩
  have HS2 := hid S2
  have X2 := hid hx2
  clear S2 hx2
  go_wp2_with fail
  refine (Fits_is fitsV49 (FV.out _ _ (HF1.out.ext X2.out)) HS2.out.v).mono ?_
  rintro e w12 ⟨rfl, hx3⟩
  have XN := hid (X12.out.tr (X1.out.tr (X2.out.tr hx3)))
  clear hx3 HF1 HS2 X1 X2 X12
  have X12 := hid XN.out
  clear XN
  go_wp2_with fail
  refine (sown_any _).mono ?_
  rintro e wd ⟨Bd, p3, b3, p4, b4, rfl, hBd, Sd, hxd⟩
  have hrow := Sd.row.cell (k := 6) rfl
  have hfree := Sd.row.free 6
  have HN := hid Sd.nil
  have XD := hid (hxd.se hBd (o := 6) (.slice none 0 0))
  clear hxd Sd
  go_wp2_with fail
  clear hrow hfree
  have XE := hid (X12.out.tr XD.out)
  clear XD X12
  generalize wd.setCell ⟨Bd, 6, none⟩ (.slice none 0 0) = we at *
  go_wp2_with fail
  refine (field_ex _).mono ?_
  rintro e wf ⟨Bf, rfl, Ff, hxf⟩
  have HFf := hid Ff
  have XF := hid hxf
  clear Ff hxf
  go_wp2_with fail
  refine (LoadOf_is loadVN (FV.out _ _ HFf.out) (HN.out.mono XF.out)).mono ?_
  rintro e wg ⟨ug, rfl, _, hxg⟩
  have X3g := hid (XE.out.tr (XF.out.tr hxg))
  have c0 := X3g.out.ce' HC.out.1
  have c2 := X3g.out.ce' HC.out.2.1
  have c3 := X3g.out.ce' HC.out.2.2
  clear hxg XF XE HFf HN
  go_wp2_with fail
  refine (sameRuns_is (f := loadL3) (g := loadL3) (b := true) (by decide) (HU.out.2.2.mono (X3g.out.al _)) (runs_lit (w := wg) loadL3 rfl rfl rfl (by decide) (lit_nums (by decide +kernel)))).mono ?_
  rintro e wh ⟨rfl, hxwh⟩
  have XX0 := hid (((Ext.rf wg).al _).tr hxwh)
  replace c0 := XX0.out.ce' c0
  replace c2 := XX0.out.ce' c2
  have X3wh := hid (X3g.out.tr XX0.out)
  clear hxwh XX0 X3g c3
  go_wp2_with fail
  refine (sameRuns_is (f := loadL0) (g := loadL0) (b := true) (by decide) (HU.out.1.mono (X3wh.out.al _)) (runs_lit (w := wh) loadL0 rfl rfl rfl (by decide) (lit_nums (by decide +kernel)))).mono ?_
  rintro e wi ⟨rfl, hxwi⟩
  have XX1 := hid (((Ext.rf wh).al _).tr hxwi)
  replace c0 := XX1.out.ce' c0
  replace c2 := XX1.out.ce' c2
  have X3wi := hid (X3wh.out.tr XX1.out)
  clear hxwi XX1 X3wh c0
  go_wp2_with fail
  refine (sameRuns_is (f := loadL2) (g := loadL2) (b := true) (by decide) (HU.out.2.1.mono (X3wi.out.al _)) (runs_lit (w := wi) loadL2 rfl rfl rfl (by decide) (lit_nums (by decide +kernel)))).mono ?_
  rintro e wj ⟨rfl, hxwj⟩
  have XX2 := hid (((Ext.rf wi).al _).tr hxwj)
  have X3wj := hid (X3wi.out.tr XX2.out)
  clear hxwj XX2 X3wi c2
  go_wp2_with fail
  go_ret
  exact ⟨rfl, X3.out.tr X3wj.out⟩

theorem sameLoads_is {w : World} {vf vg : Value} {f : List (List Run)} (hf : LoadsV w vf f) (hg : LoadsV w vg f) :
    Calls Try.prog 17 #[vf, vg] w fun e w' => e = .returned (.bool true) ∧ Ext w w' := by
  have := SameLoads_any w vf vg f f hf hg; rw [deT rfl] at this; exact this

set_option maxRecDepth 100000 in
set_option maxHeartbeats 8000000 in
theorem loadTells_any (w : World) (v : Value) (l : List Queue) (bv : Value) (b : List Book) (f : Int) (hl : QueuesV w v l) (hb : BooksV w bv b) :
    Calls Try.prog 3 #[v, bv, .int .i64 f] w fun e w' => e = .returned (.bool true) ∧ Ext w w' := by
  have FI := hid (fun (W : World) (h : Ext w W) => loadFits_any W v bv l b f (hl.mono h) (hb.mono h))
  have FR := hid (fun (W : World) (h : Ext w W) => FitsOf_any W v bv l b f (hl.mono h) (hb.mono h))
  have CB := hid (fun (W : World) (h : Ext w W) => CheckBooks_any W v bv l b (hl.mono h) (hb.mono h))
  have B := hid (fun (W : World) => loadBegun_true W)
  by_cases h0 : booksE l b = 0
  · have LO := hid (LoadOf_is (loadsR_ok h0) hl hb)
    obtain ⟨ok, _, h12, hbok⟩ := booksE_zero h0
    have LR := hid (fun (W : World) (h : Ext w W) => LoadOf_any W v bv l b (hl.mono h) (hb.mono h) ok.pars ok.n5 hbok h12)
    rw [h0] at CB
    obtain ⟨a, cap, rfl, _, _, _⟩ := hl.form
    obtain ⟨ba, bc, rfl, _, _, _⟩ := hb.form
    clear hl hb h0 ok hbok h12
    generalize fitsR l b f = fr at *
    obtain ⟨is, m⟩ := fr
    have hbb : (is == is) = true := by simp
    have hmm : (m == m) = true := by simp
    generalize l.length = n at *
    generalize b.length = z at *
    go_enter Try.func3, Try.ntmps3
    go_wp2_with fail
    refine LO.out.mono ?_
    rintro e w1 ⟨u, rfl, hu, hx1⟩
    obtain ⟨ua, uc, rfl, _, _, _⟩ := hu.form
    have HU := hid hu
    have X1 := hid hx1
    clear hu hx1 LO
    generalize (loadsL l b).length = ln at *
    go_wp2_with fail
    refine (FI.out _ X1.out).mono ?_
    rintro e w2 ⟨rfl, hx2⟩
    have X12 := hid hx2
    clear hx2 FI
    go_wp2_with fail
    refine (CB.out _ (X1.out.tr X12.out)).mono ?_
    rintro e w3 ⟨rfl, hx3⟩
    have X13 := hid (X12.out.tr hx3)
    clear hx3 CB X12
    go_wp2_with fail
    refine (LR.out _ (X1.out.tr X13.out)).mono ?_
    rintro e w4 ⟨r, rfl, hr, hx4⟩
    obtain ⟨ra, rc, rfl, _, _, _⟩ := hr.form
    have HR := hid hr
    have X14 := hid (X13.out.tr hx4)
    clear hr hx4 LR X13
    generalize hlr : (loadsL l b).length = lr at *
    clear hlr
    go_wp2_with fail
    refine (FR.out _ (X1.out.tr X14.out)).mono ?_
    rintro e w5 ⟨rfl, hx5⟩
    have X45 := hid hx5
    clear hx5 FR
    go_wp2_with fail
    refine (B.out _).mono ?_
    rintro e w6 ⟨rfl, hx6⟩
    have X46 := hid (X45.out.tr hx6)
    clear hx6 B X45
    go_wp2_with fail
    refine (sameLoads_is (HU.out.mono (X14.out.tr X46.out)) (HR.out.mono X46.out)).mono ?_
    rintro e w7 ⟨rfl, hx7⟩
    have XX := hid (X1.out.tr (X14.out.tr (X46.out.tr hx7)))
    clear hx7
    go_wp2_with fail
    go_ret
    exact ⟨rfl, XX.out⟩
  · have LO := hid (LoadOf_is (loadsR_bad h0) hl hb)
    have hne := neT h0
    have hne2 := eqF h0
    obtain ⟨a, cap, rfl, _, _, _⟩ := hl.form
    obtain ⟨ba, bc, rfl, _, _, _⟩ := hb.form
    clear hl hb h0
    generalize fitsR l b f = fr at *
    obtain ⟨is, m⟩ := fr
    generalize booksE l b = be at *
    have hbb : (is == is) = true := by simp
    have hmm : (m == m) = true := by simp
    have hee : (be == be) = true := by simp
    generalize l.length = n at *
    generalize b.length = z at *
    go_enter Try.func3, Try.ntmps3
    go_wp2_with fail
    refine LO.out.mono ?_
    rintro e w1 ⟨u, rfl, hu, hx1⟩
    obtain ⟨ua, uc, rfl, _, _, _⟩ := hu.form
    have HU := hid hu
    have X1 := hid hx1
    clear hu hx1 LO
    go_wp2_with fail
    refine (FI.out _ X1.out).mono ?_
    rintro e w2 ⟨rfl, hx2⟩
    have X12 := hid hx2
    clear hx2 FI
    go_wp2_with fail
    refine (CB.out _ (X1.out.tr X12.out)).mono ?_
    rintro e w3 ⟨rfl, hx3⟩
    have X13 := hid (X12.out.tr hx3)
    clear hx3 CB X12
    go_wp2_with fail
    refine (FR.out _ (X1.out.tr X13.out)).mono ?_
    rintro e w5 ⟨rfl, hx5⟩
    have X15 := hid (X13.out.tr hx5)
    clear hx5 FR X13
    go_wp2_with fail
    refine (B.out _).mono ?_
    rintro e w6 ⟨rfl, hx6⟩
    have X16 := hid (X15.out.tr hx6)
    clear hx6 B X15
    go_wp2_with fail
    refine (sameLoads_is (HU.out.mono X16.out) SV.nil).mono ?_
    rintro e w7 ⟨rfl, hx7⟩
    have XX := hid (X1.out.tr (X16.out.tr hx7))
    clear hx7
    go_wp2_with fail
    go_ret
    exact ⟨rfl, XX.out⟩

end Go.Proofs.Ytoclbapkgfmphaa

/- Walks of the references room and RoomOf; the law RoomTells. -/
set_option linter.unusedVariables false
namespace Go.Proofs.Ytoclbapkgfmphaa
open Go.RowKit

theorem upd_self (x : Nat → Int) (t : Nat) : upd x t (x t) = x := by
  funext s; unfold upd; split
  · rename_i h; rw [h]
  · rfl
theorem upd_upd (x : Nat → Int) (t : Nat) (a b : Int) : upd (upd x t a) t b = upd x t b := by
  funext s; unfold upd; split <;> simp_all
theorem minTo_step (g : Nat → Int) (ks : List Nat) (k : Nat) {i : Nat} (h : ks[k]? = some i) : minTo g (ks.take (k + 1)) = if k = 0 then g i else min (minTo g (ks.take k)) (g i) := by
  have hk := (List.getElem?_eq_some_iff.1 h).1
  have e : ks.take (k + 1) = ks.take k ++ [i] := by rw [List.take_add_one, h]; rfl
  rw [e]
  by_cases h0 : k = 0
  · subst h0; rw [if_pos rfl]; rfl
  · rw [if_neg h0]
    exact minTo_snoc g i (fun e => by
      have h2 : (ks.take k).length = 0 := by rw [e]; rfl
      rw [List.length_take] at h2
      omega)

set_option maxRecDepth 100000 in
set_option maxHeartbeats 1000000 in
theorem LineOf_new (w : World) (v : Value) (l : List Queue) (q : Int) (hv : QueuesV w v l) (hp : ParsOk l) (h5 : l.length ≤ 5) (hq1 : 0 ≤ q) (hq2 : q < l.length) :
    Calls Try.prog 103 #[v, .int .i64 q] w fun e w' => ∃ v, e = .returned v ∧ IntsV w' v ((lineL l q).map fun k : Nat => (k : Int)) ∧ (∀ a n c, v = .slice (some a) n c → w.heap.size ≤ a.block) ∧ Ext w w' := by
  obtain ⟨ii, ii1, ii2, ii3, ii4⟩ := info_parts Try.info3
  obtain ⟨b, off, cap, rfl, hcap, hc9, hb, hE⟩ := queues_at hv (by omega)
  have HI := hid (line_ints hp hq2 h5)
  have hl5 := lineL_five hp hq2 h5
  have Hp := hid hp
  have HE := hid hE
  clear hv hp hE
  generalize hn : l.length = n at *
  have Hn := hid hn
  clear hn
  go_enter Try.func103, Try.ntmps103
  go_wp2_with fail
  go_loopw [1, 5] (fun c v wr => ∃ (pre : List Nat) (x : Int), c = .int .i64 x ∧ -1 ≤ x ∧ x < n ∧ Hid (pre ++ lineL l x = lineL l q) ∧ Hid (wr.ownsRow w.heap.size 3 1 v pre.length (nums pre)) ∧ Ext w wr) (fun c _ _ => (intOf c + 1).toNat)
  case atStart => exact ⟨[], q, rfl, by omega, by omega, hid rfl, World.ownsRow_nil _ _ _ _, Ext.rf _⟩
  case round =>
    obtain ⟨pre, x, rfl, hx1, hx2, HL, Hown, hx⟩ := hrel
    have hlen : pre.length + (lineL l x).length = (lineL l q).length := by rw [← HL.out, List.length_append]
    have hsz := hx.size
    by_cases h : 0 ≤ x
    · obtain ⟨k, rfl⟩ : ∃ k : Nat, x = k := ⟨x.toNat, by omega⟩
      have hkl : k < l.length := by rw [Hn.out]; omega
      obtain ⟨y, hyk⟩ := getQ (l := l) (k := k) hkl
      obtain ⟨_, e2, _⟩ := at_some hyk
      have hpk := Hp.out k hkl
      rw [e2] at hpk
      obtain ⟨hpk1, hpk2⟩ := hpk
      have HS := hid (show (pre ++ [k]) ++ lineL l y.Parent = lineL l q from by rw [← HL.out, lineL_pos Hp.out hkl, e2]; simp)
      have hcell := (EQueue.mono w wr b _ y hx (HE.out k y hyk)).2.2.1
      have HC := hid (EQueue.mono w wr b _ y hx (HE.out k y hyk)).2.2.1
      have hpl : pre.length + 1 ≤ 5 := by
        have : 1 ≤ (lineL l (k : Int)).length := by rw [lineL_pos Hp.out hkl]; simp
        omega
      have hown := Hown.out
      have hbw : b < wr.heap.size := by omega
      have HX := hid hyk
      clear e2 hyk HL hlen
      go_wp2_with (at_builtin; refine wpList_append_own _ rfl _ _ 107 rfl w.heap.size 3 ii _ 1 8 Try.underlying107 ii1 ii2 ii3 ii4 rfl (by decide) _ _ _ rfl (hown.alloc _) ⟨wr.heap.size, 0, none⟩ 1 1 [.int .i64 (k : Int)] rfl rfl (new1 _ rfl _ _) (one1 _ _) (by unfold maxLen; omega) (by omega) (by simp; omega) ?_)
      intro v2 W2 hown2 hgrow2 hnil2
      have hx2' := (hx.al (.cells #[.int .i64 (k : Int)] 3)).gr hgrow2 (fun k hk => own_lt hown k hk)
      have hcell2 := (EQueue.mono w W2 b _ y hx2' (HE.out k y HX.out)).2.2.1
      go_wp2_with fail
      go_roundw
      case rel => exact ⟨pre ++ [k], y.Parent, rfl, hpk1, by omega, HS, hid (by rw [nums_snoc, List.length_append]; exact hown2), hx2'⟩
      case measure => simp [intOf]; omega
    · have HF := hid (own_fresh Hown.out)
      have hL := hid (show pre = lineL l q from by rw [← HL.out, lineL_neg (by omega), List.append_nil])
      clear HL
      go_wp2_with fail
      go_ret
      refine ⟨_, rfl, ints_of_owns (by rw [← hL.out]; exact Hown.out) HI.out.1 HI.out.2, HF.out, hx⟩

set_option maxRecDepth 100000 in
set_option maxHeartbeats 8000000 in
theorem roomRef_any (w : World) (v bv : Value) (l : List Queue) (b : List Book) (q : Nat) (hq : q < l.length) (hl : QueuesV w v l) (hb : BooksV w bv b) (ok : TreeOk l) (hok : ∀ x ∈ b, BookOk l x) (hb12 : b.length ≤ 12) :
    Calls Try.prog 58 #[v, bv, .int .i64 (q : Int)] w (RetTab w (roomT l b q)) := by
  have LO := hid (fun (W : World) (h : Ext w W) => LineOf_new W v l (q : Int) (hl.mono h) ok.pars ok.n5 (by omega) (by omega))
  have TK := hid (fun (W : World) (h : Ext w W) (q t : Nat) => taken_any W v bv l b q t (hl.mono h) (hb.mono h) ok.pars ok.n5 hok hb12)
  have SP := hid (fun (W : World) (u : Value) (x : List Run) (hs : Shape x) (hu : RunsV W u x) => spread_any W u x hu hs)
  have CS := hid (fun k (hk : k < l.length) => (ok.caps k hk).1.1)
  have LN := hid (fun k t (hk : k < l.length) => left_num ok hok hb12 k t hk)
  have LL := hid (fun k t => show leftT l b k t = sp (cp l k) t - takenT l b k t from rfl)
  have LT := hid (fun k (hk : k ∈ lineL l (q : Int)) => (lineL_lt ok.pars l.length (q : Int) (by omega) (by omega) k hk).1)
  have RT := hid (fun t => show roomT l b q t = minTo (fun k => leftT l b k t) (lineL l (q : Int)) from rfl)
  have LNE := hid (show lineL l (q : Int) ≠ [] by rw [lineL_pos ok.pars hq]; simp)
  have R0 := hid (fun t => show minTo (fun k => leftT l b k t) ((lineL l (q : Int)).take 0) = 0 from rfl)
  obtain ⟨qb, qo, qc, rfl, _, _, hqb, hqE⟩ := queues_at hl ok.n1
  obtain ⟨ba, bc, rfl, hbc, hbc9, hbl⟩ := hb.form
  have HQE := hid hqE
  have hL5 := lineL_five ok.pars (q := (q : Int)) (by omega) ok.n5
  have hn1 := ok.n1
  have hn5 := ok.n5
  clear hl hb hok ok hqE
  generalize hR : roomT l b q = R at *
  clear hR
  generalize hG : leftT l b = G at *
  clear hG
  generalize hLi : lineL l (q : Int) = li at *
  clear hLi
  generalize hnn : l.length = n at *
  have Hn := hid hnn
  clear hnn
  generalize b.length = z at *
  go_enter Try.func58, Try.ntmps58
  go_wp2_with fail
  rw [tab_zero]
  have HA0 := hid (show TabAt 80 ((w.alloc (.cells (tab fun _ => 0) 80)).alloc (.cells (tab fun _ => 0) 80)) w.heap.size (fun _ => 0) from (TabAt.new w (fun _ => 0)).ext ((Ext.rf _).al _))
  have HB0 := hid (show TabAt 80 ((w.alloc (.cells (tab fun _ => 0) 80)).alloc (.cells (tab fun _ => 0) 80)) (w.heap.size + 1) (fun _ => 0) by
    have := TabAt.new (T := 80) (w.alloc (.cells (tab fun _ => 0) 80)) (fun _ => 0)
    simpa using this)
  refine (LO.out _ (((Ext.rf w).al _).al _)).mono ?_
  rintro e w1 ⟨lv, rfl, hlv, hlf, hx1⟩
  have HA1 := hid (HA0.out.ext hx1)
  have HB1 := hid (HB0.out.ext hx1)
  have X1 := hid (show Ext w w1 from (((Ext.rf w).al _).al _).tr hx1)
  clear hx1 HA0 HB0 LO
  obtain ⟨lb, lo, lc, rfl, _, hlb, hlE⟩ : ∃ b off cap, lv = .slice (some ⟨b, off, none⟩) li.length cap ∧ li.length ≤ cap ∧ b < w1.heap.size ∧ ∀ k (i : Nat), li[k]? = some i → w1.cell? ⟨b, off + k, none⟩ = some (.int .i64 (i : Int)) := by
    rcases hlv with ⟨he, _⟩ | ⟨b, off, cap, rfl, h1, h2, h3, h4, hE⟩
    · have : li = [] := by simpa using he
      exact absurd this LNE.out
    · rw [List.length_map] at h1 ⊢
      refine ⟨b, off, cap, rfl, h1, h4, fun k i hk => ?_⟩
      have := (hE k (i : Int) (by rw [List.getElem?_map, hk]; rfl)).1
      rwa [Nat.mul_one] at this
  have hlb2 : w.heap.size + 1 + 1 ≤ lb := by have := hlf _ _ _ rfl; simpa using this
  have HLE := hid hlE
  clear hlv hlE hlf
  generalize hmm : li.length = m at *
  have Hm := hid hmm
  clear hmm
  go_wp2_with fail
  go_loopw [9] (fun c wr => ∃ t : Nat, c = .int .i64 t ∧ t ≤ 48 ∧ Hid (TabAt 80 wr (w.heap.size + 1) (mixT R (fun _ => 0) t)) ∧ Hid (TabAt 80 wr w.heap.size (fun _ => 0)) ∧ Hid (∀ k (i : Nat), li[k]? = some i → wr.cell? ⟨lb, lo + k, none⟩ = some (.int .i64 (i : Int))) ∧ Ext w wr) (fun c _ => 48 - (intOf c).toNat)
  case atStart => exact ⟨0, rfl, by omega, by rw [mixT_zero]; exact HB1, HA1, HLE, X1.out⟩
  case round =>
    obtain ⟨t, rfl, ht, HT, HO, HC, hx⟩ := hrel
    by_cases htl : t < 48
    · have htl' : (t : Int) < 48 := by omega
      have HX := hid hx
      clear hx
      generalize wr = w0 at *
      go_wp2_with fail
      go_loopw [10] (fun c wr => ∃ k : Nat, c = .int .i64 k ∧ k ≤ m ∧ Hid (TabAt 80 wr (w.heap.size + 1) (upd (mixT R (fun _ => 0) t) t (minTo (fun j => G j t) (li.take k)))) ∧ Hid (TabAt 80 wr w.heap.size (fun _ => 0)) ∧ Hid (∀ k (i : Nat), li[k]? = some i → wr.cell? ⟨lb, lo + k, none⟩ = some (.int .i64 (i : Int))) ∧ Ext w wr) (fun c _ => m - (intOf c).toNat)
      case atStart => exact ⟨0, rfl, by omega, hid (by
        rw [R0.out t]
        have e := upd_self (mixT R (fun _ => 0) t) t
        rw [mixT_at] at e
        rw [e]
        exact HT.out), HO, HC, HX.out⟩
      case round =>
        clear HT HO HC HX
        obtain ⟨k, rfl, hk, HT, HO, HC, hx⟩ := hrel
        by_cases hlt : k < m
        · have hlt' : (k : Int) < (m : Int) := by omega
          obtain ⟨j, hjk⟩ := getA (f := li) (k := k) (by rw [Hm.out]; exact hlt)
          have c0 := HC.out k j hjk
          have hjn := LT.out j (List.mem_of_getElem? hjk)
          obtain ⟨x, hxk⟩ := getA (f := l) (k := j) (by rw [Hn.out]; exact hjn)
          obtain ⟨_, _, _, _, u, c1, hu⟩ := EQueue.mono w wr qb _ x hx (HQE.out j x hxk)
          have ecp := (at_some hxk).2.2
          have hsh := CS.out j hjn
          rw [ecp] at hsh
          have hll := LL.out j t
          rw [ecp] at hll
          have hln := LN.out j t hjn
          have hms := minTo_step (fun j => G j t) li k hjk
          have HMS := hid hms
          have TL := hid (fun p : Later wr => later_of p (TK.out p.v (hx.tr p.h) j t))
          have SL := hid (fun p : Later wr => later_of p (SP.out p.v u x.Cap hsh (hu.mono p.h)))
          obtain ⟨ua, uc, rfl, _, _, _⟩ := hu.form
          have hg := fun w => run_index_tab (sp x.Cap) t htl w
          have t1 := deF (show ¬ (j : Int) < 0 by omega)
          have t2 := deF (show ¬ (n : Int) ≤ (j : Int) by omega)
          have t3 := deF (show ¬ n ≤ j by omega)
          have hw : IntKind.i64.wrap (sp x.Cap t - takenT l b j t) = G j t := by rw [IntKind.wrap_i64, hll] <;> omega
          have HXX := hid hx
          clear hu hxk hsh ecp hjk hms hll hln hx
          generalize hgj : G j t = gj at *
          clear hgj
          generalize sp x.Cap = sc at *
          generalize x.Cap.length = xn at *
          generalize takenT l b j t = tk at *
          replace c0 := fun p : Later wr => p.cell c0
          replace c1 := fun p : Later wr => p.cell c1
          go_wp2_with fail
          refine region_later (by kernel_rfl) (by kernel_rfl) ?_
          repeat (go_big_quiet_step (first | with_reducible exact TL.out _ | with_reducible exact SL.out _))
          refine wpQuiet_nil ?_
          rintro w' ⟨p, rfl⟩
          have H2 := hid (HXX.out.tr p.h)
          have HC2 := hid (fun k i hk => p.h.ce' (HC.out k i hk))
          have HT2 := hid (HT.out.ext p.h)
          have HO2 := hid (HO.out.ext p.h)
          clear TL SL c1 c0 hg HXX HT HO HC
          generalize p.v = W at *
          have hcl := HT2.out.cell htl
          rw [upd_same] at hcl
          have hfr := HT2.out.free t
          have hlb2 := HT2.out.lt
          by_cases hk0 : k = 0
          · have hz0 := eqT (a := (k : Int)) (b := 0) (by omega)
            have hS := HT2.out.set htl gj
            rw [upd_upd] at hS
            have hm := HMS.out
            rw [if_pos hk0] at hm
            have HN := hid (show TabAt 80 (W.setCell ⟨w.heap.size + 1, t, none⟩ (.int .i64 gj)) (w.heap.size + 1) (upd (mixT R (fun _ => 0) t) t (minTo (fun j => G j t) (li.take (k + 1)))) by rw [hm]; exact hS)
            clear hS hm hk0
            go_wp2_with fail
            go_roundw
            case rel => exact ⟨k + 1, by go_num, by omega, HN, hid (HO2.out.other (by omega) _), hid (fun k i hk => (grown_set W (w.heap.size + 1) t _).cell (HC2.out k i hk) (fun e => by have e2 : lb = w.heap.size + 1 := Option.some.inj e; omega)), H2.out.se (by omega) _⟩
            case measure => simp [intOf]; omega
          · have hz0 := eqF (a := (k : Int)) (b := 0) (by omega)
            have hm := HMS.out
            rw [if_neg hk0] at hm
            generalize hcu : minTo (fun j => G j t) (li.take k) = cu at *
            by_cases hlt2 : gj < cu
            · have hS := HT2.out.set htl gj
              rw [upd_upd] at hS
              have HN := hid (show TabAt 80 (W.setCell ⟨w.heap.size + 1, t, none⟩ (.int .i64 gj)) (w.heap.size + 1) (upd (mixT R (fun _ => 0) t) t (minTo (fun j => G j t) (li.take (k + 1)))) by rw [hm, show min cu gj = gj by omega]; exact hS)
              clear hS hm hcu HMS
              go_wp2_with fail
              go_roundw
              case rel => exact ⟨k + 1, by go_num, by omega, HN, hid (HO2.out.other (by omega) _), hid (fun k i hk => (grown_set W (w.heap.size + 1) t _).cell (HC2.out k i hk) (fun e => by have e2 : lb = w.heap.size + 1 := Option.some.inj e; omega)), H2.out.se (by omega) _⟩
              case measure => simp [intOf]; omega
            · have HN := hid (show TabAt 80 W (w.heap.size + 1) (upd (mixT R (fun _ => 0) t) t (minTo (fun j => G j t) (li.take (k + 1)))) by rw [hm, show min cu gj = cu by omega]; exact HT2.out)
              clear hm hcu HMS
              go_wp2_with fail
              go_roundw
              case rel => exact ⟨k + 1, by go_num, by omega, HN, HO2, HC2, H2.out⟩
              case measure => simp [intOf]; omega
        · obtain rfl : k = m := by omega
          have hlt' : ¬ (k : Int) < (k : Int) := by omega
          have HN := hid (show TabAt 80 wr (w.heap.size + 1) (mixT R (fun _ => 0) (t + 1)) by
            have h := HT.out
            rw [List.take_of_length_le (by rw [Hm.out]; exact Nat.le_refl _), ← RT.out t, mixT_step] at h
            exact h)
          go_wp2_with fail
          go_roundw
          case rel => exact ⟨t + 1, by go_num, by omega, HN, HO, HC, hx⟩
          case measure => simp [intOf]; omega
    · obtain rfl : t = 48 := by omega
      have htl' : ¬ (48 : Int) < 48 := by omega
      have hT : TabAt 80 wr (w.heap.size + 1) R := HT.out.congr (mixT_all _ _)
      go_wp2_with (first
        | (refine wpList_load_row rfl 80 _ rfl (w.heap.size + 1) rfl 80 (tab R) (0, 0) _ hT Try.underlying80 rfl (by rw [tab_size]; exact Try.size80) ?_)
        | (refine wpList_store_row rfl 80 _ _ rfl w.heap.size (tab R) rfl rfl 80 (tab fun _ => 0) HO.out (by rw [tab_size]; exact Try.size80) (by rw [tab_size, tab_size]) (tab_one _) ?_))
      refine bodyPost_ret (v := .agg (tab R)) (results_cell_row rfl _ _ w.heap.size 80 (tab R) (0, 0) _ rfl (HO.out.row _) Try.underlying80 rfl (by rw [tab_size]; exact Try.size80)) rfl ⟨rfl, hx.sr (Nat.le_refl _) _⟩

set_option maxRecDepth 100000 in
set_option maxHeartbeats 4000000 in
theorem RoomOfRef_any (w : World) (v bv : Value) (l : List Queue) (b : List Book) (q : Int) (hl : QueuesV w v l) (hb : BooksV w bv b) :
    Calls Try.prog 22 #[v, bv, .int .i64 q] w (RetRuns2 w (roomR l b q)) := by
  have C := hid (CheckBooks_any w v bv l b hl hb)
  by_cases h : booksE l b = 0
  · obtain ⟨ok, _, h12, hbok⟩ := booksE_zero h
    rw [h] at C
    have hn5 := ok.n5
    have hw : IntKind.i64.wrap ((l.length : Int) - 1) = (l.length : Int) - 1 := by rw [IntKind.wrap_i64]; omega
    by_cases hq : 0 ≤ q ∧ q < l.length
    · obtain ⟨k, rfl⟩ := Int.eq_ofNat_of_zero_le hq.1
      have Hr := hid (roomR_ok h hq)
      have R1 := hid (fun (W : World) (hx : Ext w W) => roomRef_any W v bv l b k (by omega) (hl.mono hx) (hb.mono hx) ok hbok h12)
      have RN := hid (fun t (_ : t < 48) => show I64 (roomT l b (k : Int) t) from by
        have := minTo_num (g := fun j => leftT l b j t) (a := -1800) (b := 50) (lineL l (k : Int)) (fun j hj => left_num ok hbok h12 j t (lineL_lt ok.pars l.length (k : Int) (by omega) (by omega) j hj).1) (by rw [lineL_pos ok.pars (by omega)]; simp)
        rw [show roomT l b (k : Int) t = minTo (fun j => leftT l b j t) (lineL l (k : Int)) from rfl]
        exact I64.of (by omega) (by omega))
      have FO := hid (fun (W : World) => folded_any W (roomT l b (k : Int)) RN.out)
      have Q := hid (fun W => within_yes (k : Int) 0 ((l.length : Int) - 1) W (by omega) (by omega))
      obtain ⟨a, cap, rfl, _, _, hl5⟩ := hl.form
      obtain ⟨ba, bc, rfl, _, _, _⟩ := hb.form
      clear hl hb h ok hbok hq RN
      generalize roomR l b (Int.ofNat k) = R at *
      generalize roomT l b (k : Int) = rt at *
      generalize l.length = n at *
      generalize b.length = z at *
      go_enter Try.func22, Try.ntmps22
      go_wp2_with fail
      refine C.out.mono ?_
      rintro e w1 ⟨rfl, hx⟩
      go_wp2_with fail
      refine (Q.out _).mono ?_
      rintro e w1' ⟨rfl, rfl⟩
      go_wp2_with fail
      refine (R1.out _ hx).mono ?_
      rintro e w2 ⟨rfl, hx2⟩
      go_wp2_with fail
      refine (FO.out _).mono ?_
      rintro e w3 ⟨u, rfl, hu, hx3⟩
      go_wp2_with fail
      go_ret2
      exact retRuns2_of Hr.out hu ((hx.tr hx2).tr hx3)
    · have Hr := hid (roomR_none h hq)
      have Q := hid (fun W => within_no q 0 ((l.length : Int) - 1) W (by omega))
      obtain ⟨a, cap, rfl, _, _, hl5⟩ := hl.form
      obtain ⟨ba, bc, rfl, _, _, _⟩ := hb.form
      clear hl hb h ok hbok hq
      generalize roomR l b q = R at *
      generalize l.length = n at *
      generalize b.length = z at *
      go_enter Try.func22, Try.ntmps22
      go_wp2_with fail
      refine C.out.mono ?_
      rintro e w1 ⟨rfl, hx⟩
      go_wp2_with fail
      refine (Q.out _).mono ?_
      rintro e w1' ⟨rfl, rfl⟩
      go_wp2_with fail
      go_ret2
      exact retRuns2_of Hr.out SV.nil hx
  · have Hr := hid (roomR_bad (q := q) h)
    have hne := neT h
    obtain ⟨a, cap, rfl, _, _, hl5⟩ := hl.form
    obtain ⟨ba, bc, rfl, _, _, _⟩ := hb.form
    clear hl hb h
    generalize roomR l b q = R at *
    generalize booksE l b = be at *
    generalize l.length = n at *
    generalize b.length = z at *
    go_enter Try.func22, Try.ntmps22
    go_wp2_with fail
    refine C.out.mono ?_
    rintro e w1 ⟨rfl, hx⟩
    go_wp2_with fail
    go_ret2
    exact retRuns2_of Hr.out SV.nil hx

theorem sameRuns_yes {w : World} {vf vg : Value} {f : List Run} (hf : RunsV w vf f) (hg : RunsV w vg f) :
    Calls Try.prog 20 #[vf, vg] w fun e w' => e = .returned (.bool true) ∧ Ext w w' := by
  have := SameRuns_any w vf vg f f hf hg; rw [deT rfl] at this; exact this

set_option maxRecDepth 100000 in
set_option maxHeartbeats 8000000 in
theorem roomTells_any (w : World) (v : Value) (l : List Queue) (bv : Value) (b : List Book) (q : Int) (hl : QueuesV w v l) (hb : BooksV w bv b) :
    Calls Try.prog 5 #[v, bv, .int .i64 q] w fun e w' => e = .returned (.bool true) ∧ Ext w w' := by
  have RO := hid (RoomOf_any w v bv l b q hl hb)
  have RR := hid (fun (W : World) (h : Ext w W) => RoomOfRef_any W v bv l b q (hl.mono h) (hb.mono h))
  have B := hid (fun (W : World) => roomBegun_true W)
  obtain ⟨a, cap, rfl, _, _, _⟩ := hl.form
  obtain ⟨ba, bc, rfl, _, _, _⟩ := hb.form
  clear hl hb
  generalize roomR l b q = rr at *
  obtain ⟨f, m⟩ := rr
  have hmm : (m == m) = true := by simp
  generalize l.length = n at *
  generalize b.length = z at *
  go_enter Try.func5, Try.ntmps5
  go_wp2_with fail
  refine RO.out.mono ?_
  rintro e w1 ⟨u, rfl, hu, hx1⟩
  obtain ⟨ua, uc, rfl, _, _, _⟩ := hu.form
  have HU := hid hu
  have X1 := hid hx1
  clear hu hx1 RO
  generalize hfn : f.length = fn at *
  clear hfn
  go_wp2_with fail
  refine (RR.out _ X1.out).mono ?_
  rintro e w2 ⟨r, rfl, hr, hx2⟩
  obtain ⟨ra, rc, rfl, _, _, _⟩ := hr.form
  have HR := hid hr
  have X12 := hid hx2
  clear hr hx2 RR
  generalize hfm : f.length = fm at *
  clear hfm
  go_wp2_with fail
  refine (B.out _).mono ?_
  rintro e w3 ⟨rfl, hx3⟩
  have X23 := hid hx3
  clear hx3 B
  go_wp2_with fail
  refine (sameRuns_yes (HU.out.mono (X12.out.tr X23.out)) (HR.out.mono X23.out)).mono ?_
  rintro e w4 ⟨rfl, hx4⟩
  have XX := hid (X1.out.tr (X12.out.tr (X23.out.tr hx4)))
  clear hx4
  go_wp2_with fail
  go_ret
  exact ⟨rfl, XX.out⟩

end Go.Proofs.Ytoclbapkgfmphaa

/- The law LoadSum. -/
set_option linter.unusedVariables false
namespace Go.Proofs.Ytoclbapkgfmphaa
open Go.RowKit

theorem firstE_all {l : List Queue} : ∀ {b : List Book}, firstE l b = 0 ↔ ∀ x ∈ b, reqE l x.Req = 0 ∧ meetsR x.Req x.Bites = true
  | [] => by simp [firstE]
  | y :: b => by
    by_cases h1 : reqE l y.Req = 0
    · by_cases h2 : meetsR y.Req y.Bites = true
      · rw [firstE_ok h1 h2, firstE_all]
        constructor
        · intro h x hx
          rcases List.mem_cons.1 hx with rfl | hx
          · exact ⟨h1, h2⟩
          · exact h x hx
        · exact fun h x hx => h x (List.mem_cons_of_mem _ hx)
      · constructor
        · intro h; rw [firstE_form h1 (by simpa using h2)] at h; omega
        · intro h; exact absurd (h y (List.mem_cons_self ..)).2 h2
    · constructor
      · intro h; rw [firstE_bad h1] at h; exact absurd h h1
      · intro h; exact absurd (h y (List.mem_cons_self ..)).1 h1
/-- books out of right ones are right -/
theorem booksE_sub {l : List Queue} {b c : List Book} (h : booksE l b = 0) (hm : ∀ x ∈ c, x ∈ b) (hc : c.length ≤ 12) : booksE l c = 0 := by
  obtain ⟨_, h0, h12, _⟩ := booksE_zero h
  rw [booksE_first h0 (by omega)] at h
  rw [booksE_first h0 (by omega)]
  exact firstE_all.2 fun x hx => firstE_all.1 h x (hm x hx)

theorem loads_sum {l : List Queue} {b c d : List Book} (he : b = c ++ d) (hc : ∀ x ∈ c, BookOk l x) (hd : ∀ x ∈ d, BookOk l x) (h1 : c.length ≤ 12) (h2 : d.length ≤ 12) (q : Nat) :
    bothR (fold (takenT l c q)) (fold (takenT l d q)) (fun a b => a + b) = (fold (takenT l b q), 0) := by
  have n1 := fun t => takenT_num (l := l) q t c hc
  have n2 := fun t => takenT_num (l := l) q t d hd
  have e : ∀ t, takenT l b q t = takenT l c q t + takenT l d q t := fun t => by rw [he, takenT_append]
  rw [bothR_yes (fine_fold fun t _ => ⟨by have := n1 t; omega, by have := n1 t; omega⟩) (fine_fold fun t _ => ⟨by have := n2 t; omega, by have := n2 t; omega⟩),
    toldT_congr (y := takenT l b q) (fun t ht => by rw [sp_fold ht, sp_fold ht, e]), toldT_yes (fun t _ => ⟨by have := n1 t; have := n2 t; have := e t; omega, by have := n1 t; have := n2 t; have := e t; omega⟩)]

theorem books_take {w : World} {b : List Book} {a : Option Addr} {z c : Nat} (h : BooksV w (.slice a z c) b) (i : Nat) (hi : i ≤ b.length) : BooksV w (.slice a i c) (b.take i) := by
  rcases h with ⟨rfl, a0, cap, e, h1⟩ | ⟨b0, off, cap, e, h1, h2, h3, h4, h5⟩
  · cases e
    obtain rfl : i = 0 := by simpa using hi
    exact .inl ⟨rfl, _, _, rfl, h1⟩
  · cases e
    have hlen : (b.take i).length = i := by rw [List.length_take]; omega
    refine .inr ⟨b0, off, c, by rw [hlen], by rw [hlen]; omega, h2, by rw [hlen]; omega, h4, fun k x hk => ?_⟩
    have hki : k < i := by have := (List.getElem?_eq_some_iff.1 hk).1; omega
    rw [List.getElem?_take_of_lt hki] at hk
    exact h5 k x hk

theorem books_drop0 {w : World} {b : List Book} {a : Option Addr} {z i c : Nat} (h : BooksV w (.slice a z c) b) (hi : i ≤ z) (hc : c ≤ i) : BooksV w (.slice a (z - i) 0) (b.drop i) := by
  obtain ⟨a0, cap, e, h1, h2, _⟩ := h.form
  cases e
  refine .inl ⟨List.drop_eq_nil_of_le (by omega), a, 0, ?_, by omega⟩
  rw [show b.length - i = 0 by omega]
theorem books_drop1 {w : World} {b : List Book} {a : Option Addr} {z c : Nat} (h : BooksV w (.slice a z c) b) (i : Nat) (hi : i ≤ b.length) : BooksV w (.slice (Option.map (fun x => x.add (i * 7)) a) (z - i) (c - i)) (b.drop i) := by
  rcases h with ⟨rfl, a0, cap, e, h1⟩ | ⟨b0, off, cap, e, h1, h2, h3, h4, h5⟩
  · cases e
    exact .inl ⟨by simp, _, _, by rw [Nat.zero_sub], by omega⟩
  · cases e
    have hlen : (b.drop i).length = b.length - i := List.length_drop
    by_cases hz : i = b.length
    · exact .inl ⟨List.drop_eq_nil_of_le (by omega), _, _, by rw [show b.length - i = 0 by omega], by omega⟩
    · refine .inr ⟨b0, off + i * 7, c - i, ?_, by rw [hlen]; omega, by omega, by rw [hlen]; omega, h4, fun k x hk => ?_⟩
      · rw [hlen]
        by_cases hi0 : i * 7 = 0 <;> simp [Addr.add, hi0]
      · rw [List.getElem?_drop] at hk
        have := h5 (i + k) x hk
        rwa [show off + (i + k) * 7 = off + i * 7 + k * 7 by omega] at this

set_option maxRecDepth 100000 in
set_option maxHeartbeats 8000000 in
theorem loadSum_any (w : World) (v : Value) (l : List Queue) (bv : Value) (b : List Book) (k : Int) (hl : QueuesV w v l) (hb : BooksV w bv b) (hk : I64 k) :
    Calls Try.prog 4 #[v, bv, .int .i64 k] w fun e w' => e = .returned (.bool true) ∧ Ext w w' := by
  have B := hid (fun (W : World) => loadBegun_true W)
  by_cases h0 : booksE l b = 0
  · have LO := hid (LoadOf_is (loadsR_ok h0) hl hb)
    obtain ⟨ok, _, h12, hbok⟩ := booksE_zero h0
    have hin := chooseR_in (c := k) (n := (b.length : Int) + 1) (by omega)
    have C := hid (fun (W : World) => choose_any k ((b.length : Int) + 1) W hk (by omega) (I64.of (by omega) (by omega)))
    obtain ⟨i, hi⟩ : ∃ i : Nat, chooseR k ((b.length : Int) + 1) = i := ⟨(chooseR k ((b.length : Int) + 1)).toNat, by omega⟩
    rw [hi] at C hin
    have hiz : i ≤ b.length := by omega
    have hw : IntKind.i64.wrap ((b.length : Int) + 1) = (b.length : Int) + 1 := by rw [IntKind.wrap_i64]; omega
    obtain ⟨a, cap, rfl, _, _, _⟩ := hl.form
    obtain ⟨ba, bc, rfl, hbc, hbc9, _⟩ := hb.form
    have T1 := hid (fun (W : World) (h : Ext w W) => LoadOf_is (loadsR_ok (booksE_sub h0 (fun x hx => List.mem_of_mem_take hx) (by rw [List.length_take]; omega))) (hl.mono h) (books_take (hb.mono h) i hiz))
    clear hi hin
    have T2 := hid (fun (W : World) (h : Ext w W) (v2 : Value) (h2 : BooksV W v2 (b.drop i)) => LoadOf_is (loadsR_ok (booksE_sub h0 (fun x hx => List.mem_of_mem_drop hx) (by rw [List.length_drop]; omega))) (hl.mono h) h2)
    have HB := hid hb
    have hL1 : ∀ c, (loadsL l c).length = l.length := fun c => by simp [loadsL]
    have HK := hid (fun c q (hq : q < l.length) => show (loadsL l c)[q]? = some (fold (takenT l c q)) by simp [loadsL, hq])
    have LS := hid (fun q => loads_sum (l := l) (b := b) (c := b.take i) (d := b.drop i) (List.take_append_drop i b).symm (fun x hx => hbok x (List.mem_of_mem_take hx)) (fun x hx => hbok x (List.mem_of_mem_drop hx)) (by rw [List.length_take]; omega) (by rw [List.length_drop]; omega) q)
    have Hiz := hid hiz
    clear hl hb h0 hbok ok
    generalize hzz : b.length = z at *
    generalize hll : l.length = n at *
    go_enter Try.func4, Try.ntmps4
    go_wp2_with fail
    refine LO.out.mono ?_
    rintro e w1 ⟨u, rfl, hu, hx1⟩
    obtain ⟨ua, uc, rfl, _, _, _, huE⟩ := loads_at hu
    have HU := hid huE
    have X1 := hid hx1
    clear hu huE hx1 LO
    rw [hL1]
    go_wp2_with fail
    refine (C.out _).mono ?_
    rintro e w2 ⟨rfl, rfl⟩
    go_wp2_with fail
    refine (T1.out _ X1.out).mono ?_
    rintro e w3 ⟨u2, rfl, hu2, hx3⟩
    obtain ⟨ua2, uc2, rfl, _, _, _, hu2E⟩ := loads_at hu2
    have HU2 := hid hu2E
    have X2 := hid hx3
    clear hu2 hu2E hx3 T1
    rw [hL1]
    go_wp2_with fail
    all_goals refine (T2.out _ (X1.out.tr X2.out) _ (by first | exact books_drop0 (HB.out.mono (X1.out.tr X2.out)) Hiz.out (by omega) | exact books_drop1 (HB.out.mono (X1.out.tr X2.out)) i (by rw [hzz]; exact Hiz.out))).mono ?_
    all_goals rintro e w4 ⟨u3, rfl, hu3, hx4⟩
    all_goals obtain ⟨ua3, uc3, rfl, _, _, _, hu3E⟩ := loads_at hu3
    all_goals have HU3 := hid hu3E
    all_goals have X3 := hid hx4
    all_goals clear hu3 hu3E hx4 T2
    all_goals rw [hL1]
    all_goals clear hL1
    all_goals go_wp2_with fail
    · go_loopw [14] (fun c wr => ∃ q : Nat, c = .int .i64 q ∧ q ≤ n ∧ Ext w4 wr) (fun c _ => n - (intOf c).toNat)
      case atStart => exact ⟨0, rfl, by omega, Ext.rf _⟩
      case round =>
        obtain ⟨q, rfl, hq, hx⟩ := hrel
        by_cases hqn : q < n
        · have hqn' : (q : Int) < (n : Int) := by omega
          have k1 := HK.out b q hqn
          have k2 := HK.out (b.take i) q hqn
          have k3 := HK.out (b.drop i) q hqn
          obtain ⟨ub, uo, rfl, hub, hue⟩ := HU.out (by simp [loadsL]; omega)
          obtain ⟨ub2, uo2, rfl, hub2, hue2⟩ := HU2.out (by simp [loadsL]; omega)
          obtain ⟨ub3, uo3, rfl, hub3, hue3⟩ := HU3.out (by simp [loadsL]; omega)
          obtain ⟨y1, c1, hy1⟩ := hue q _ k1
          obtain ⟨y2, c2, hy2⟩ := hue2 q _ k2
          obtain ⟨y3, c3, hy3⟩ := hue3 q _ k3
          replace c1 := hx.ce' (X3.out.ce' (X2.out.ce' c1))
          replace c2 := hx.ce' (X3.out.ce' c2)
          replace c3 := hx.ce' c3
          replace hy1 := hy1.mono (X2.out.tr (X3.out.tr hx))
          replace hy2 := hy2.mono (X3.out.tr hx)
          replace hy3 := hy3.mono hx
          have PL := hid (fun (W : World) (h : Ext wr W) => Plus_is (LS.out q) (hy2.mono h) (hy3.mono h))
          have HY := hid (fun (W : World) (h : Ext wr W) (v : Value) (hv : RunsV W v (fold (takenT l b q))) => sameRuns_yes (w := W) hv (hy1.mono h))
          have HC1 := hid c1
          obtain ⟨ya1, yc1, rfl, _, _, _⟩ := hy1.form
          obtain ⟨ya2, yc2, rfl, _, _, _⟩ := hy2.form
          obtain ⟨ya3, yc3, rfl, _, _, _⟩ := hy3.form
          clear hue hue2 hue3 hy1 hy2 hy3 k1 k2 k3 c1
          generalize (fold (takenT l b q)).length = n1 at *
          generalize (fold (takenT l (b.take i) q)).length = n2 at *
          generalize (fold (takenT l (b.drop i) q)).length = n3 at *
          go_wp2_with fail
          go_region_held3 (fun w' => w'.cell? ⟨ub2, uo2 + q, none⟩ = some (.slice ya2 n2 yc2) ∧ w'.cell? ⟨ub3, uo3 + q, none⟩ = some (.slice ya3 n3 yc3)) (first | go_keep | exact ⟨hx5.ce' (by assumption), hx5.ce' (by assumption)⟩)
            (first
              | (go_at_call 19; refine (PL.out _ (Ext.dr (Ext.rf wr))).mono ?_; rintro e w5 ⟨sv, rfl, hsv, hx5⟩; have HSV := hid hsv; have X5 := hid ((Ext.dr (Ext.rf wr)).tr hx5); clear hsv))
          obtain ⟨sa, sc, rfl, _, _, _⟩ := HSV.out.form
          have c1 := X5.out.ce' HC1.out
          clear c2 c3 HC1 PL hx5
          generalize (fold (takenT l b q)).length = n4 at *
          go_wp2_with fail
          refine (HY.out _ X5.out _ HSV.out).mono ?_
          rintro e w6 ⟨rfl, hx6⟩
          have X6 := hid (hx.tr (X5.out.tr hx6))
          clear HY hx6 c1
          go_wp2_with fail
          go_roundw
          case rel => exact ⟨q + 1, by go_num, by omega, X6.out⟩
          case measure => simp [intOf]; omega
        · obtain rfl : q = n := by omega
          have hqn' : ¬ (q : Int) < (q : Int) := by omega
          go_wp2_with fail
          refine (B.out _).mono ?_
          rintro e w5 ⟨rfl, hx5⟩
          go_wp2_with fail
          go_ret
          exact ⟨rfl, X1.out.tr (X2.out.tr (X3.out.tr (hx.tr hx5)))⟩
    · go_loopw [14] (fun c wr => ∃ q : Nat, c = .int .i64 q ∧ q ≤ n ∧ Ext w4 wr) (fun c _ => n - (intOf c).toNat)
      case atStart => exact ⟨0, rfl, by omega, Ext.rf _⟩
      case round =>
        obtain ⟨q, rfl, hq, hx⟩ := hrel
        by_cases hqn : q < n
        · have hqn' : (q : Int) < (n : Int) := by omega
          have k1 := HK.out b q hqn
          have k2 := HK.out (b.take i) q hqn
          have k3 := HK.out (b.drop i) q hqn
          obtain ⟨ub, uo, rfl, hub, hue⟩ := HU.out (by simp [loadsL]; omega)
          obtain ⟨ub2, uo2, rfl, hub2, hue2⟩ := HU2.out (by simp [loadsL]; omega)
          obtain ⟨ub3, uo3, rfl, hub3, hue3⟩ := HU3.out (by simp [loadsL]; omega)
          obtain ⟨y1, c1, hy1⟩ := hue q _ k1
          obtain ⟨y2, c2, hy2⟩ := hue2 q _ k2
          obtain ⟨y3, c3, hy3⟩ := hue3 q _ k3
          replace c1 := hx.ce' (X3.out.ce' (X2.out.ce' c1))
          replace c2 := hx.ce' (X3.out.ce' c2)
          replace c3 := hx.ce' c3
          replace hy1 := hy1.mono (X2.out.tr (X3.out.tr hx))
          replace hy2 := hy2.mono (X3.out.tr hx)
          replace hy3 := hy3.mono hx
          have PL := hid (fun (W : World) (h : Ext wr W) => Plus_is (LS.out q) (hy2.mono h) (hy3.mono h))
          have HY := hid (fun (W : World) (h : Ext wr W) (v : Value) (hv : RunsV W v (fold (takenT l b q))) => sameRuns_yes (w := W) hv (hy1.mono h))
          have HC1 := hid c1
          obtain ⟨ya1, yc1, rfl, _, _, _⟩ := hy1.form
          obtain ⟨ya2, yc2, rfl, _, _, _⟩ := hy2.form
          obtain ⟨ya3, yc3, rfl, _, _, _⟩ := hy3.form
          clear hue hue2 hue3 hy1 hy2 hy3 k1 k2 k3 c1
          generalize (fold (takenT l b q)).length = n1 at *
          generalize (fold (takenT l (b.take i) q)).length = n2 at *
          generalize (fold (takenT l (b.drop i) q)).length = n3 at *
          go_wp2_with fail
          go_region_held3 (fun w' => w'.cell? ⟨ub2, uo2 + q, none⟩ = some (.slice ya2 n2 yc2) ∧ w'.cell? ⟨ub3, uo3 + q, none⟩ = some (.slice ya3 n3 yc3)) (first | go_keep | exact ⟨hx5.ce' (by assumption), hx5.ce' (by assumption)⟩)
            (first
              | (go_at_call 19; refine (PL.out _ (Ext.dr (Ext.rf wr))).mono ?_; rintro e w5 ⟨sv, rfl, hsv, hx5⟩; have HSV := hid hsv; have X5 := hid ((Ext.dr (Ext.rf wr)).tr hx5); clear hsv))
          obtain ⟨sa, sc, rfl, _, _, _⟩ := HSV.out.form
          have c1 := X5.out.ce' HC1.out
          clear c2 c3 HC1 PL hx5
          generalize (fold (takenT l b q)).length = n4 at *
          go_wp2_with fail
          refine (HY.out _ X5.out _ HSV.out).mono ?_
          rintro e w6 ⟨rfl, hx6⟩
          have X6 := hid (hx.tr (X5.out.tr hx6))
          clear HY hx6 c1
          go_wp2_with fail
          go_roundw
          case rel => exact ⟨q + 1, by go_num, by omega, X6.out⟩
          case measure => simp [intOf]; omega
        · obtain rfl : q = n := by omega
          have hqn' : ¬ (q : Int) < (q : Int) := by omega
          go_wp2_with fail
          refine (B.out _).mono ?_
          rintro e w5 ⟨rfl, hx5⟩
          go_wp2_with fail
          go_ret
          exact ⟨rfl, X1.out.tr (X2.out.tr (X3.out.tr (hx.tr hx5)))⟩
  · have LO := hid (LoadOf_is (loadsR_bad h0) hl hb)
    have hne := neT h0
    obtain ⟨a, cap, rfl, _, _, _⟩ := hl.form
    obtain ⟨ba, bc, rfl, _, _, _⟩ := hb.form
    clear hl hb h0
    generalize booksE l b = be at *
    generalize l.length = n at *
    generalize b.length = z at *
    go_enter Try.func4, Try.ntmps4
    go_wp2_with fail
    refine LO.out.mono ?_
    rintro e w1 ⟨u, rfl, hu, hx1⟩
    obtain ⟨ua, uc, rfl, _, _, _⟩ := hu.form
    clear hu
    go_wp2_with fail
    refine (B.out _).mono ?_
    rintro e w2 ⟨rfl, hx2⟩
    go_wp2_with fail
    go_ret
    exact ⟨rfl, hx1.tr hx2⟩

end Go.Proofs.Ytoclbapkgfmphaa
