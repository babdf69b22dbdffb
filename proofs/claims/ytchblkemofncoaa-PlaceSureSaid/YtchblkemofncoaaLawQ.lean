/- The laws on places: PlaceTrue. -/
import Derived.Test.YtchblkemofncoaaLawP
import Derived.Test.YtchblkemofncoaaHeld
set_option linter.unusedVariables false
namespace Go.Proofs.Ytchblkemofncoaa
open Go.RowKit

theorem findR_cases (f : List Run) (r : Request) : (∃ e, findR f r = ([], false, e)) ∨ (Fine f ∧ ReqOk r ∧ placeL (sp f) r ≠ [] ∧ findR f r = (placeL (sp f) r, true, 0)) := by
  by_cases hf : Fine f
  · by_cases hr : ReqOk r
    · have h := findR_ok hf (r := r) (by rw [formR_ok hr])
      by_cases hl : placeL (sp f) r = []
      · exact .inl ⟨0, by rw [h, hl]; rfl⟩
      · exact .inr ⟨hf, hr, hl, by rw [h, deT hl]⟩
    · obtain ⟨fe, fb, hfe, hne⟩ := formR_bad hr
      exact .inl ⟨_, findR_bad hf (by rw [hfe]; exact hne)⟩
  · exact .inl ⟨1, findR_form hf⟩

theorem meets_in {r : Request} {b : List Bite} (h : meetsR r b = true) : ReqOk r ∧ ∀ k, k < b.length → BiteIn r b k := by
  rw [meetsR_iff] at h
  obtain ⟨h1, h2, h3⟩ := h
  obtain ⟨s0, s1, s2⟩ := h1.range.1
  have hlow := step_low h2
  exact ⟨h1, fun k hk => ⟨hlow k hk, (h2 k hk).is, by have := (h2 k hk).from_; omega, by have := (h2 k hk).until_; omega⟩⟩

set_option maxRecDepth 100000 in
set_option maxHeartbeats 4000000 in
theorem placeTrue_any (w : World) (v : Value) (f : List Run) (rv : Value) (r : Request) (hv : RunsV w v f) (hr : ReqV w rv r) :
    Calls Try.prog 13 #[v, rv] w fun e w' => e = .returned (.bool true) ∧ Ext w w' := by
  obtain ⟨cs, rfl, pv, rfl, hp, i1, i2, i3, i4⟩ := hr
  have hal := hid (fun (o : Obj) => (Ext.rf w).al o)
  have F := hid (fun (W : World) (h : Ext w W) => Find_any W v pv f r (hv.mono h) (hp.mono h))
  have B := hid (fun (W : World) => placeBegun_true W)
  rcases findR_cases f r with ⟨n, hn⟩ | ⟨hf, hro, hl, hn⟩
  · rw [hn] at F
    obtain ⟨pa, pc, rfl, _, _, _⟩ := hp.form
    obtain ⟨fa, fc, rfl, _, _, _⟩ := hv.form
    clear hp hv i1 i2 i3 i4 hn
    generalize r.Pieces.length = pn at *
    generalize f.length = fn at *
    by_cases h0 : n = 0
    · subst h0
      go_enter Try.func13, Try.ntmps13
      go_wp2_with fail
      refine (F.out _ (hal.out _)).mono ?_
      rintro e1 w1 ⟨u1, rfl, h1, hx1⟩
      have hx01 := hid ((hal.out _).tr hx1)
      clear h1 hx1
      go_wp2_with fail
      refine (B.out _).mono ?_
      rintro e3 w3 ⟨rfl, hx3⟩
      go_wp2_with fail
      go_ret
      exact ⟨rfl, hx01.out.tr hx3⟩
    · have h1 := neT h0
      have h2 := eqF h0
      go_enter Try.func13, Try.ntmps13
      go_wp2_with fail
      refine (F.out _ (hal.out _)).mono ?_
      rintro e1 w1 ⟨u1, rfl, h1, hx1⟩
      have hx01 := hid ((hal.out _).tr hx1)
      clear h1 hx1
      go_wp2_with fail
      refine (B.out _).mono ?_
      rintro e3 w3 ⟨rfl, hx3⟩
      go_wp2_with fail
      go_ret
      exact ⟨rfl, hx01.out.tr hx3⟩
  · rw [hn] at F
    have hm := found_meets hro hl
    have M := hid (fun (W : World) (u : Value) (h : Ext w W) (hu : BitesV W u (placeL (sp f) r)) => Meets_any W pv u r _ (hp.mono h) hu)
    have H := hid (fun (W : World) (u : Value) (h : Ext w W) (hu : BitesV W u (placeL (sp f) r)) => held_any W v pv u f r _ (hv.mono h) (hp.mono h) hu hro (meets_in hm).2)
    rw [hm] at M
    rw [found_held hf hro hl] at H
    obtain ⟨pa, pc, rfl, _, _, _⟩ := hp.form
    obtain ⟨fa, fc, rfl, _, _, _⟩ := hv.form
    clear hp hv i1 i2 i3 i4 hn hm hf hro hl
    generalize placeL (sp f) r = l at *
    generalize r.Pieces.length = pn at *
    generalize f.length = fn at *
    go_enter Try.func13, Try.ntmps13
    go_wp2_with fail
    refine (F.out _ (hal.out _)).mono ?_
    rintro e1 w1 ⟨u1, rfl, h1, hx1⟩
    have U1 := hid h1
    have hx01 := hid ((hal.out _).tr hx1)
    have HRC := hid (fun (W : World) (h : Ext w1 W) => reqCells (hx1.tr h))
    clear h1 hx1
    go_wp2_with fail
    refine (B.out _).mono ?_
    rintro e2 w2 ⟨rfl, hx2⟩
    obtain ⟨_, _, _, _, _⟩ := HRC.out _ hx2
    go_wp2_with fail
    refine (M.out _ u1 (hx01.out.tr hx2) (U1.out.mono hx2)).mono ?_
    rintro e3 w3 ⟨rfl, hx3⟩
    obtain ⟨_, _, _, _, _⟩ := HRC.out _ (hx2.tr hx3)
    go_wp2_with fail
    refine (H.out _ u1 (hx01.out.tr (hx2.tr hx3)) (U1.out.mono (hx2.tr hx3))).mono ?_
    rintro e4 w4 ⟨rfl, hx4⟩
    go_wp2_with fail
    go_ret
    exact ⟨rfl, hx01.out.tr (hx2.tr (hx3.tr hx4))⟩

end Go.Proofs.Ytchblkemofncoaa
