/- The laws on places: PlaceSure. -/
import Derived.Test.YtchblkemofncoaaLawQ
import Derived.Test.YtchblkemofncoaaPlaceO
set_option linter.unusedVariables false
namespace Go.Proofs.Ytchblkemofncoaa
open Go.RowKit

set_option maxRecDepth 100000 in
set_option maxHeartbeats 8000000 in
theorem placeSure_any (w : World) (v : Value) (f : List Run) (rv : Value) (r : Request) (bv : Value) (b : List Bite) (hv : RunsV w v f) (hr : ReqV w rv r) (hb : BitesV w bv b) :
    Calls Try.prog 14 #[v, rv, bv] w fun e w' => e = .returned (.bool true) ∧ Ext w w' := by
  obtain ⟨cs, rfl, pv, rfl, hp, i1, i2, i3, i4⟩ := hr
  have hal := hid (fun (o : Obj) => (Ext.rf w).al o)
  have F := hid (fun (W : World) (h : Ext w W) => Find_any W v pv f r (hv.mono h) (hp.mono h))
  have B := hid (fun (W : World) => placeBegun_true W)
  have M := hid (fun (W : World) (h : Ext w W) => Meets_any W pv bv r b (hp.mono h) (hb.mono h))
  have H := hid (fun (hm : meetsR r b = true) (W : World) (h : Ext w W) => held_any W v pv bv f r b (hv.mono h) (hp.mono h) (hb.mono h) (meets_in hm).1 (meets_in hm).2)
  have OB := hid (fun (W : World) (h : Ext w W) => Over_any W pv bv r b (hp.mono h) (hb.mono h))
  have OX := hid (fun (W : World) (u : Value) (l : List Bite) (h : Ext w W) (hu : BitesV W u l) => Over_any W pv u r l (hp.mono h) hu)
  obtain ⟨pa, pc, rfl, _, _, _⟩ := hp.form
  obtain ⟨fa, fc, rfl, _, _, _⟩ := hv.form
  obtain ⟨ba, bc, rfl, _, _, hbl⟩ := hb.form
  by_cases hfr : Fine f ∧ ReqOk r
  · obtain ⟨hf, hro⟩ := hfr
    have hfo := findR_ok hf (r := r) (by rw [formR_ok hro])
    rw [hfo] at F
    by_cases hk1 : r.Kind = 1
    · have hk1' := eqT hk1
      clear hp hv hb i1 i2 i3 i4 hf hro hfo hk1 H
      generalize placeL (sp f) r = l at *
      generalize decide (l ≠ []) = dl at *
      generalize r.Pieces.length = pn at *
      generalize f.length = fn at *
      generalize b.length = bn at *
      go_enter Try.func14, Try.ntmps14
      go_wp2_with fail
      refine (F.out _ (hal.out _)).mono ?_
      rintro e1 w1 ⟨u1, rfl, h1, hx1⟩
      have U1 := hid h1
      have hx01 := hid ((hal.out _).tr hx1)
      have HRC := hid (fun (W : World) (h : Ext w1 W) => reqCells (hx1.tr h))
      obtain ⟨_, _, _, _, _⟩ := HRC.out _ (Ext.rf w1)
      clear h1 hx1
      go_wp2_with fail
      refine (B.out _).mono ?_
      rintro e3 w3 ⟨rfl, hx3⟩
      go_wp2_with fail
      go_ret
      exact ⟨rfl, hx01.out.tr hx3⟩
    · have hk1' := eqF hk1
      by_cases hm : meetsR r b = true
      · have HH := hid (H.out hm)
        rw [hm] at M
        by_cases hh : heldGo r f b = true
        · obtain ⟨s1, s2, s3⟩ := place_sure (f := f) hro hk1 hm hh
          rw [hh] at HH
          rw [deT s1] at F
          by_cases hk2 : r.Kind = 2
          · obtain ⟨j, t, p, q, g1, g2, g3, g4, g5⟩ := s2 hk2
            have hk2' := eqT hk2
            rw [g1] at F
            subst g2
            obtain ⟨bb, bo, rfl, hbb, hbE⟩ : ∃ bb bo, ba = some ⟨bb, bo, none⟩ ∧ bb < w.heap.size ∧ EBite w bb bo ⟨p, q⟩ := by
              rcases hb with ⟨h, _⟩ | ⟨bb, bo, bc', h, _, _, _, h2, h3⟩
              · cases h
              · simp only [Value.slice.injEq] at h
                exact ⟨bb, bo, h.1, h2, by have := h3 0 _ rfl; simpa using this⟩
            obtain ⟨c1, c2, _, _⟩ := hbE
            have hcase := hid g3
            clear hp hv hb i1 i2 i3 i4 hf hro hfo hk1 hk2 hm hh s1 s2 s3 g1 g3 H OB OX
            generalize r.Pieces.length = pn at *
            generalize f.length = fn at *
            go_enter Try.func14, Try.ntmps14
            go_wp2_with fail
            refine (F.out _ (hal.out _)).mono ?_
            rintro e1 w1 ⟨u1, rfl, h1, hx1⟩
            obtain ⟨ub, uo, uc, rfl, hub, huE⟩ : ∃ ub uo uc, u1 = .slice (some ⟨ub, uo, none⟩) 1 uc ∧ ub < w1.heap.size ∧ EBite w1 ub uo ⟨(j : Int), (t : Int)⟩ := by
              rcases h1 with ⟨h, _⟩ | ⟨ub, uo, uc, h, _, _, _, h2, h3⟩
              · cases h
              · exact ⟨ub, uo, uc, h, h2, by have := h3 0 _ rfl; simpa using this⟩
            obtain ⟨d1, d2, _, _⟩ := huE
            have hx01 := hid ((hal.out _).tr hx1)
            have HRC := hid (fun (W : World) (h : Ext w1 W) => reqCells (hx1.tr h))
            obtain ⟨_, _, _, _, _⟩ := HRC.out _ (Ext.rf w1)
            clear h1 hx1
            go_wp2_with fail
            refine (M.out _ hx01.out).mono ?_
            rintro e2 w2 ⟨rfl, hx2⟩
            obtain ⟨_, _, _, _, _⟩ := HRC.out _ hx2
            go_wp2_with fail
            refine (HH.out _ (hx01.out.tr hx2)).mono ?_
            rintro e2 w2' ⟨rfl, hx2'⟩
            have hx22 := hid (hx2.tr hx2')
            obtain ⟨_, _, _, _, _⟩ := HRC.out _ hx22.out
            have c1' := (hx01.out.tr hx22.out).ce' c1
            have c2' := (hx01.out.tr hx22.out).ce' c2
            have d1' := hx22.out.ce' d1
            have d2' := hx22.out.ce' d2
            clear c1 c2 d1 d2 hx2 hx2'
            go_wp2_with fail
            have x1 := fun pp : Later w2' => pp.cell c1'
            have x2 := fun pp : Later w2' => pp.cell c2'
            have x3 := fun pp : Later w2' => pp.cell d1'
            have x4 := fun pp : Later w2' => pp.cell d2'
            have QB := hid (fun pp : Later w2' => later_of pp (B.out pp.v))
            clear c1' c2' d1' d2' F B M HH HRC hal
            by_cases hjp : (j : Int) < p
            · refine region_later (by kernel_rfl) (by kernel_rfl) ?_
              repeat (go_big_quiet_step (with_reducible exact QB.out _))
              refine wpQuiet_nil ?_
              rintro w' ⟨pp, rfl⟩
              go_wp2_with fail
              go_ret
              exact ⟨rfl, hx01.out.tr (hx22.out.tr pp.h)⟩
            · have hjd := deF hjp
              rcases hcase.out with h | ⟨h, htq⟩
              · exact absurd h hjp
              · subst h
                have hjj := eqT (a := (j : Int)) (b := (j : Int)) rfl
                refine region_later (by kernel_rfl) (by kernel_rfl) ?_
                repeat (go_big_quiet_step (with_reducible exact QB.out _))
                refine wpQuiet_nil ?_
                rintro w' ⟨pp, rfl⟩
                go_wp2_with fail
                go_ret
                exact ⟨rfl, hx01.out.tr (hx22.out.tr pp.h)⟩
          · obtain ⟨n, m, g1, g2, g3⟩ := s3 hk2
            have OB1 := hid (fun (W : World) (h : Ext w W) => OB.out W h)
            rw [g2] at OB1
            have OX1 := hid (fun (W : World) (u : Value) (h : Ext w W) (hu : BitesV W u (placeL (sp f) r)) => OX.out W u _ h hu)
            rw [g1] at OX1
            have hk2' := eqF hk2
            have hl0 : 1 ≤ (placeL (sp f) r).length := List.length_pos_iff.2 s1
            clear hp hv hb i1 i2 i3 i4 hf hro hfo hk1 hk2 hm hh s1 s2 s3 g1 g2 H OB OX
            generalize placeL (sp f) r = l at *
            have hl1 := eqF (a := (l.length : Int)) (b := 0) (by omega)
            generalize r.Pieces.length = pn at *
            generalize f.length = fn at *
            generalize b.length = bn at *
            go_enter Try.func14, Try.ntmps14
            go_wp2_with fail
            refine (F.out _ (hal.out _)).mono ?_
            rintro e1 w1 ⟨u1, rfl, h1, hx1⟩
            obtain ⟨ub, uo, uc, rfl⟩ : ∃ ub uo uc, u1 = .slice (some ⟨ub, uo, none⟩) l.length uc := by
              rcases h1 with ⟨h, _⟩ | ⟨ub, uo, uc, h, _⟩
              · have h' : l = [] := h
                rw [h'] at hl0; simp at hl0
              · exact ⟨ub, uo, uc, h⟩
            have U1 := hid h1
            have hx01 := hid ((hal.out _).tr hx1)
            have HRC := hid (fun (W : World) (h : Ext w1 W) => reqCells (hx1.tr h))
            obtain ⟨_, _, _, _, _⟩ := HRC.out _ (Ext.rf w1)
            clear h1 hx1
            go_wp2_with fail
            refine (M.out _ hx01.out).mono ?_
            rintro e2 w2 ⟨rfl, hx2⟩
            obtain ⟨_, _, _, _, _⟩ := HRC.out _ hx2
            go_wp2_with fail
            refine (HH.out _ (hx01.out.tr hx2)).mono ?_
            rintro e2 w2' ⟨rfl, hx2'⟩
            have hx22 := hx2.tr hx2'
            obtain ⟨_, _, _, _, _⟩ := HRC.out _ hx22
            go_wp2_with fail
            refine (OX1.out _ _ (hx01.out.tr hx22) (U1.out.mono hx22)).mono ?_
            rintro e3 w3 ⟨rfl, hx3⟩
            obtain ⟨_, _, _, _, _⟩ := HRC.out _ (hx22.tr hx3)
            go_wp2_with fail
            refine (OB1.out _ (hx01.out.tr (hx22.tr hx3))).mono ?_
            rintro e4 w4 ⟨rfl, hx4⟩
            go_wp2_with fail
            refine (B.out _).mono ?_
            rintro e5 w5 ⟨rfl, hx5⟩
            go_wp2_with fail
            go_ret
            exact ⟨rfl, hx01.out.tr (hx22.tr (hx3.tr (hx4.tr hx5)))⟩
        · have hh' : heldGo r f b = false := by simpa using hh
          rw [hh'] at HH
          clear hp hv hb i1 i2 i3 i4 hf hro hfo hk1 hm hh hh' H
          generalize placeL (sp f) r = l at *
          generalize decide (l ≠ []) = dl at *
          generalize r.Pieces.length = pn at *
          generalize f.length = fn at *
          generalize b.length = bn at *
          go_enter Try.func14, Try.ntmps14
          go_wp2_with fail
          refine (F.out _ (hal.out _)).mono ?_
          rintro e1 w1 ⟨u1, rfl, h1, hx1⟩
          have U1 := hid h1
          have hx01 := hid ((hal.out _).tr hx1)
          have HRC := hid (fun (W : World) (h : Ext w1 W) => reqCells (hx1.tr h))
          obtain ⟨_, _, _, _, _⟩ := HRC.out _ (Ext.rf w1)
          clear h1 hx1
          go_wp2_with fail
          refine (M.out _ hx01.out).mono ?_
          rintro e2 w2 ⟨rfl, hx2⟩
          obtain ⟨_, _, _, _, _⟩ := HRC.out _ hx2
          go_wp2_with fail
          refine (HH.out _ (hx01.out.tr hx2)).mono ?_
          rintro e2 w2' ⟨rfl, hx2'⟩
          have hx22 := hx2.tr hx2'
          obtain ⟨_, _, _, _, _⟩ := HRC.out _ hx22
          go_wp2_with fail
          refine (B.out _).mono ?_
          rintro e3 w3 ⟨rfl, hx3⟩
          go_wp2_with fail
          go_ret
          exact ⟨rfl, hx01.out.tr (hx22.tr hx3)⟩
      · have hm' : meetsR r b = false := by simpa using hm
        rw [hm'] at M
        clear hp hv hb i1 i2 i3 i4 hf hro hfo hk1 hm hm' H
        generalize placeL (sp f) r = l at *
        generalize decide (l ≠ []) = dl at *
        generalize r.Pieces.length = pn at *
        generalize f.length = fn at *
        generalize b.length = bn at *
        go_enter Try.func14, Try.ntmps14
        go_wp2_with fail
        refine (F.out _ (hal.out _)).mono ?_
        rintro e1 w1 ⟨u1, rfl, h1, hx1⟩
        have U1 := hid h1
        have hx01 := hid ((hal.out _).tr hx1)
        have HRC := hid (fun (W : World) (h : Ext w1 W) => reqCells (hx1.tr h))
        obtain ⟨_, _, _, _, _⟩ := HRC.out _ (Ext.rf w1)
        clear h1 hx1
        go_wp2_with fail
        refine (M.out _ hx01.out).mono ?_
        rintro e2 w2 ⟨rfl, hx2⟩
        obtain ⟨_, _, _, _, _⟩ := HRC.out _ hx2
        go_wp2_with fail
        refine (B.out _).mono ?_
        rintro e3 w3 ⟨rfl, hx3⟩
        go_wp2_with fail
        go_ret
        exact ⟨rfl, hx01.out.tr (hx2.tr hx3)⟩
  · obtain ⟨n, hn, hne⟩ : ∃ n, findR f r = ([], false, n) ∧ n ≠ 0 := by
      by_cases hf : Fine f
      · obtain ⟨fe, fb, hfe, hne⟩ := formR_bad (r := r) (fun h => hfr ⟨hf, h⟩)
        exact ⟨_, findR_bad hf (by rw [hfe]; exact hne), by rw [hfe]; exact hne⟩
      · exact ⟨1, findR_form hf, by decide⟩
    rw [hn] at F
    have hn1 := neT hne
    clear hp hv hb i1 i2 i3 i4 hfr hn hne H
    generalize r.Pieces.length = pn at *
    generalize f.length = fn at *
    generalize b.length = bn at *
    go_enter Try.func14, Try.ntmps14
    go_wp2_with fail
    refine (F.out _ (hal.out _)).mono ?_
    rintro e1 w1 ⟨u1, rfl, h1, hx1⟩
    have U1 := hid h1
    have hx01 := hid ((hal.out _).tr hx1)
    have HRC := hid (fun (W : World) (h : Ext w1 W) => reqCells (hx1.tr h))
    obtain ⟨_, _, _, _, _⟩ := HRC.out _ (Ext.rf w1)
    clear h1 hx1
    go_wp2_with fail
    refine (B.out _).mono ?_
    rintro e3 w3 ⟨rfl, hx3⟩
    go_wp2_with fail
    go_ret
    exact ⟨rfl, hx01.out.tr hx3⟩

end Go.Proofs.Ytchblkemofncoaa
