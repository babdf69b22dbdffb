/- The law BookTrue. -/
import Derived.Test.YtfbcmifclaaacaaRight
set_option linter.unusedVariables false
namespace Go.Proofs.Ytfbcmifclaaacaa
open Go.RowKit

set_option maxRecDepth 100000 in
set_option maxHeartbeats 4000000 in
theorem bookTrue_any (w : World) (sv : Value) (s : State) (rv : Value) (r : Request) (hs : StateV w sv s) (hr : ReqV w rv r) :
    Calls Try.prog 5 #[sv, rv] w fun e w' => e = .returned (.bool true) ∧ Ext w w' := by
  obtain ⟨cs, rfl, tv, bv, rfl, ht, hb, _⟩ := hs
  obtain ⟨rs, rfl, pv, rfl, hp, hI⟩ := hr
  obtain ⟨⟨X, n, er⟩, hsr⟩ : ∃ x, submitR s r = x := ⟨_, rfl⟩
  have SU := hid (fun (W : World) (h : Ext w W) => ret3_parts (S := X) (n := n) (m := er) (by have := Submit_any W tv bv pv s r (ht.mono h) (hb.mono h) (hp.mono h) hI; rwa [hsr] at this))
  have BG := hid (fun (W : World) => bookBegun_true W)
  obtain ⟨wb, hwb, HX, HSS, HRR, hszb⟩ := two_boxes w s r tv bv pv
  have HX0 := hid HX
  have HS0 := hid HSS
  have HR0 := hid HRR
  have HWB := hid hwb
  clear HX HSS HRR hwb hszb
  by_cases her : er = 0
  · subst her
    obtain ⟨g1, g2, g3⟩ := submit_right hsr
    have g4 := submit_cancel hsr
    obtain ⟨_, h12, hN, _, rfl, rfl⟩ := submitR_zero hsr
    generalize hL : placeL (plotT s r) r = L at *
    have PC := hid (fun (W : World) (a b : Value) (h1 : QueuesV W a s.Tree) (h2 : BooksV W b (s.Books ++ [⟨s.Next, r, L⟩])) => planCheck_is (c := s.Clock) (n := s.Next + 1) (w := W) g1 h1 h2)
    have CA := hid (fun (W : World) (a b : Value) (h1 : QueuesV W a s.Tree) (h2 : BooksV W b (s.Books ++ [⟨s.Next, r, L⟩])) => Cancel_is (c := s.Clock) (n := s.Next + 1) (w := W) g4 h1 h2)
    have SU' := hid (fun (W : World) (h : Ext w W) => Submit_is (c := s.Clock) (n := s.Next) (l := s.Tree) (b := s.Books) (c' := s.Clock) (n' := s.Next + 1) (l' := s.Tree) (b' := s.Books ++ [⟨s.Next, r, L⟩]) hsr (ht.mono h) (hb.mono h) (hp.mono h) hI)
    clear SU
    have HT := hid ht
    have HB := hid hb
    have HP := hid hp
    have hN0 : 0 ≤ s.Next := by
      obtain ⟨hf, _⟩ := stateE_zero g2
      exact (formE_zero hf).2.1.2.2.1
    have hwr : IntKind.i64.wrap (s.Next + 1) = s.Next + 1 := by rw [IntKind.wrap_i64]; omega
    have n1 := neF (show s.Next + 1 = s.Next + 1 from rfl)
    have n2 := neF (show s.Next = s.Next from rfl)
    have n3 := neF (show s.Clock = s.Clock from rfl)
    clear hsr g1 g2 g3 g4 hL
    obtain ⟨qa, qc, rfl, _, _, _⟩ := ht.form
    obtain ⟨z, hz⟩ : ∃ z, s.Books.length = z := ⟨_, rfl⟩
    obtain ⟨ba, bc, h, _, _, _⟩ := hb.form
    rw [hz] at h h12
    subst h
    obtain ⟨pa, pc, rfl, _, _, _⟩ := hp.form
    have Hz := hid hz
    clear ht hb hp hz
    have n4 := neF (show ((z + 1 : Nat) : Int) = (z : Int) + 1 by omega)
    go_enter Try.func5, Try.ntmps5
    go_wp2_with fail
    rw [HWB.out]
    refine (SU'.out _ HX0.out).mono ?_
    rintro e w2 ⟨u2, v2, rfl, hu2, hv2, hx2⟩
    obtain ⟨ua, uc, rfl, _, _, _⟩ := hu2.form
    obtain ⟨va, vc, h, hvc, hvc9, _, hvE⟩ := books_at hv2
    have hvc' : z + 1 ≤ vc := by simp only [List.length_append, List.length_singleton, Hz.out] at hvc; exact hvc
    clear hvc
    have h' : v2 = .slice va (z + 1) vc := by rw [h]; simp [Hz.out]
    clear h; subst h'
    obtain ⟨bb, bo, rfl, hbb, hE⟩ := hvE (by simp)
    have HE := hid (ebook_cells (hE z ⟨s.Next, r, L⟩ (by rw [← Hz.out]; simp)))
    clear hE hvE
    have hal := (Ext.rf w2).al (.cells #[.int .i64 s.Clock, .int .i64 (s.Next + 1), .slice ua s.Tree.length uc, .slice (some ⟨bb, bo, none⟩) (z + 1) vc] 25)
    have HBX := hid (fun (V : World) (h : Ext (w2.alloc (.cells #[.int .i64 s.Clock, .int .i64 (s.Next + 1), .slice ua s.Tree.length uc, .slice (some ⟨bb, bo, none⟩) (z + 1) vc] 25)) V) => newState h)
    have HU2 := hid hu2
    have HV2 := hid hv2
    have A2 := hid hal
    have X2 := hid (hx2.tr hal)
    obtain ⟨a0, a1, a2, a3⟩ := HS0.out w2 hx2
    obtain ⟨c0, c1, c2, c3, c4⟩ := HR0.out w2 hx2
    have hlt1 : w.heap.size < w2.heap.size := World.block_lt_of_cell? _ _ a0
    have hlt2 : w.heap.size + 1 < w2.heap.size := World.block_lt_of_cell? _ _ c0
    clear hu2 hv2 hal hx2
    go_wp2_with fail
    refine (PC.out _ _ _ (HU2.out.mono A2.out) (HV2.out.mono A2.out)).mono ?_
    rintro e w3 ⟨rfl, hx3⟩
    have X3 := hid (X2.out.tr hx3)
    have K3 := hid hx3
    clear a0 a1 a2 a3 c0 c1 c2 c3 c4 hlt1 hlt2 hx3
    obtain ⟨a0, a1, a2, a3⟩ := HS0.out w3 X3.out
    obtain ⟨b0, b1, b2, b3⟩ := HBX.out w3 K3.out
    go_wp2_with fail
    refine (sameTrees_yes _ _ _ s.Tree (HU2.out.mono (A2.out.tr K3.out)) (HT.out.mono (HX0.out.tr X3.out))).mono ?_
    rintro e w4 ⟨rfl, hx4⟩
    have X4 := hid (X3.out.tr hx4)
    have K4 := hid (K3.out.tr hx4)
    clear a0 a1 a2 a3 b0 b1 b2 b3 hx4
    obtain ⟨b0, b1, b2, b3⟩ := HBX.out w4 K4.out
    obtain ⟨qv, dv, e0, e1, e2, e3, e4, e5, e6, hq, hd⟩ := HE.out
    replace e0 := (A2.out.tr K4.out).ce' e0
    replace e1 := (A2.out.tr K4.out).ce' e1
    replace e2 := (A2.out.tr K4.out).ce' e2
    replace e3 := (A2.out.tr K4.out).ce' e3
    replace e4 := (A2.out.tr K4.out).ce' e4
    replace e5 := (A2.out.tr K4.out).ce' e5
    replace e6 := (A2.out.tr K4.out).ce' e6
    have HQ := hid (hq.mono (A2.out.tr K4.out))
    have HD := hid (hd.mono (A2.out.tr K4.out))
    obtain ⟨pa2, pc2, rfl, _, _, _⟩ := hq.form
    obtain ⟨da, dc, rfl, _, _, _⟩ := hd.form
    clear hq hd
    have i1 : (0 : Int) ≤ (z : Int) := by omega
    have i2 : (z : Int) < (z : Int) + 1 := by omega
    have i3 := deF (show ¬ (z : Int) < 0 by omega)
    have i4 := deF (show ¬ ((z + 1 : Nat) : Int) ≤ (z : Int) by omega)
    have i5 := deF (show ¬ z + 1 ≤ z by omega)
    have i6 := deF (show ¬ (z : Int) + 1 ≤ (z : Int) by omega)
    have i7 : (z : Int) + 1 - 1 = (z : Int) := by omega
    have hlt := World.block_lt_of_cell? _ _ b0
    go_wp2_with fail
    have al5 := (Ext.rf w4).al (.cells #[.int .i64 s.Next, .int .i64 r.Queue, .int .i64 r.From, .int .i64 r.Until, .int .i64 r.Kind, .slice pa2 r.Pieces.length pc2, .slice da L.length dc] 40)
    have X5 := hid (X4.out.tr al5)
    have K5 := hid (K4.out.tr al5)
    have A5 := hid al5
    have HBB := hid (fun (V : World) (h : Ext (w4.alloc (.cells #[.int .i64 s.Next, .int .i64 r.Queue, .int .i64 r.From, .int .i64 r.Until, .int .i64 r.Kind, .slice pa2 r.Pieces.length pc2, .slice da L.length dc] 40)) V) => bookCells h)
    have HBB0 := hid (fun (V : World) (h : Ext (w4.alloc (.cells #[.int .i64 s.Next, .int .i64 r.Queue, .int .i64 r.From, .int .i64 r.Until, .int .i64 r.Kind, .slice pa2 r.Pieces.length pc2, .slice da L.length dc] 40)) V) => show V.cell? ⟨w4.heap.size, 0, none⟩ = some (.int .i64 s.Next) from h.ce' (by rw [cell_of_row _ _ _ _ _ _ (heap_alloc_new w4 _)]; rfl))
    clear b0 b1 b2 b3 e0 e1 e2 e3 e4 e5 e6 hlt al5
    refine (CA.out _ _ _ (HU2.out.mono (A2.out.tr K5.out)) (HV2.out.mono (A2.out.tr K5.out))).mono ?_
    rintro e w6 ⟨u6, v6, rfl, hu6, hv6, hx6⟩
    obtain ⟨uy, cy, rfl, _, _, _⟩ := hu6.form
    obtain ⟨vy, dy, h, _, _, _⟩ := hv6.form
    rw [Hz.out] at h
    subst h
    have HUY := hid hu6
    have HVY := hid hv6
    have X6 := hid (X5.out.tr hx6)
    have K6 := hid (K5.out.tr hx6)
    have B6 := hid hx6
    clear hu6 hv6 hx6
    obtain ⟨a0, a1, a2, a3⟩ := HS0.out w6 X6.out
    have hlt := World.block_lt_of_cell? _ _ a0
    go_wp2_with fail
    have al6 := (Ext.rf w6).al (.cells #[.int .i64 s.Clock, .int .i64 s.Next, .slice uy s.Tree.length cy, .slice vy z dy] 25)
    have hY : ∀ V, Ext (w6.alloc (.cells #[.int .i64 s.Clock, .int .i64 s.Next, .slice uy s.Tree.length cy, .slice vy z dy] 25)) V → _ := fun V h => newState h
    generalize w6.alloc (.cells #[.int .i64 s.Clock, .int .i64 s.Next, .slice uy s.Tree.length cy, .slice vy z dy] 25) = wr at *
    clear a0 a1 a2 a3 hlt
    obtain ⟨y0, y1, y2, y3⟩ := hY wr (Ext.rf _)
    obtain ⟨a0, a1, a2, a3⟩ := HS0.out wr (X6.out.tr al6)
    obtain ⟨c0, c1, c2, c3, c4⟩ := HR0.out wr (X6.out.tr al6)
    obtain ⟨_, _, _, b3⟩ := HBX.out wr (K6.out.tr al6)
    have f0 := HBB0.out wr (B6.out.tr al6)
    obtain ⟨f1, f2, f3, f4, f5, f6⟩ := HBB.out wr (B6.out.tr al6)
    have XR := hid (HX0.out.tr (X6.out.tr al6))
    have K25 := hid (A5.out.tr (B6.out.tr al6))
    have hvl : BooksV wr (.slice (some ⟨bb, bo, none⟩) z vc) s.Books := by
      have h1 := books_take (HV2.out.mono (A2.out.tr (K6.out.tr al6))) z (by simp [Hz.out])
      rwa [List.take_append_of_le_length (by rw [Hz.out]; exact Nat.le_refl _), List.take_of_length_le (by rw [Hz.out]; exact Nat.le_refl _)] at h1
    have ML1 := hid (fun p : Later wr => later_of p (v := .bool true) (BG.out p.v))
    have ML2 := hid (fun p : Later wr => later_of p (v := .bool true) (sameReqs_yes p.v (.slice pa2 r.Pieces.length pc2) (.slice pa r.Pieces.length pc) r (HQ.out.mono (K25.out.tr p.h)) (HP.out.mono (XR.out.tr p.h))))
    have ML3 := hid (fun p : Later wr => later_of p (v := .bool true) (sameBooks_yes p.v (.slice (some ⟨bb, bo, none⟩) z vc) (.slice ba z bc) s.Books (hvl.mono p.h) (HB.out.mono (XR.out.tr p.h))))
    have ML4 := hid (fun p : Later wr => later_of p (v := .bool true) (sameStates_yes p.v s.Clock s.Next (.slice uy s.Tree.length cy) (.slice vy z dy) (.slice qa s.Tree.length qc) (.slice ba z bc) s.Tree s.Books (HUY.out.mono (al6.tr p.h)) (HVY.out.mono (al6.tr p.h)) (HT.out.mono (XR.out.tr p.h)) (HB.out.mono (XR.out.tr p.h))))
    have q1 := eqT (show s.Next = s.Next from rfl)
    clear hvl hY al6
    replace a0 := fun p : Later wr => p.cell a0
    replace a1 := fun p : Later wr => p.cell a1
    replace a2 := fun p : Later wr => p.cell a2
    replace a3 := fun p : Later wr => p.cell a3
    replace b3 := fun p : Later wr => p.cell b3
    replace c0 := fun p : Later wr => p.cell c0
    replace c1 := fun p : Later wr => p.cell c1
    replace c2 := fun p : Later wr => p.cell c2
    replace c3 := fun p : Later wr => p.cell c3
    replace c4 := fun p : Later wr => p.cell c4
    replace f0 := fun p : Later wr => p.cell f0
    replace f1 := fun p : Later wr => p.cell f1
    replace f2 := fun p : Later wr => p.cell f2
    replace f3 := fun p : Later wr => p.cell f3
    replace f4 := fun p : Later wr => p.cell f4
    replace f5 := fun p : Later wr => p.cell f5
    replace f6 := fun p : Later wr => p.cell f6
    replace y0 := fun p : Later wr => p.cell y0
    replace y1 := fun p : Later wr => p.cell y1
    replace y2 := fun p : Later wr => p.cell y2
    replace y3 := fun p : Later wr => p.cell y3
    refine region_later (by kernel_rfl) (by kernel_rfl) ?_
    repeat (go_big_quiet_step (first | with_reducible exact ML1.out _ | with_reducible exact ML2.out _ | with_reducible exact ML3.out _ | with_reducible exact ML4.out _))
    refine wpQuiet_nil ?_
    rintro w' ⟨p, rfl⟩
    have HXP := hid (XR.out.tr p.h)
    go_wp2_with fail
    go_ret
    exact ⟨rfl, HXP.out⟩
  · have her' := neT her
    clear her hsr
    obtain ⟨qa, qc, rfl, _, _, _⟩ := ht.form
    obtain ⟨ba, bc, rfl, _, _, _⟩ := hb.form
    obtain ⟨pa, pc, rfl, _, _, _⟩ := hp.form
    clear ht hb hp
    generalize s.Tree.length = sn at *
    generalize s.Books.length = sz at *
    generalize r.Pieces.length = pn at *
    go_enter Try.func5, Try.ntmps5
    go_wp2_with fail
    rw [HWB.out]
    refine (SU.out _ HX0.out).mono ?_
    rintro e w2 ⟨u2, v2, rfl, hu2, hv2, hx2⟩
    obtain ⟨ua, uc, rfl, _, _, _⟩ := hu2.form
    obtain ⟨va, vc, rfl, _, _, _⟩ := hv2.form
    have hal := (Ext.rf w2).al (.cells #[.int .i64 X.Clock, .int .i64 X.Next, .slice ua X.Tree.length uc, .slice va X.Books.length vc] 25)
    have HX2 := hid (hx2.tr hal)
    clear hu2 hv2 hal hx2
    go_wp2_with fail
    refine (BG.out _).mono ?_
    rintro e w4 ⟨rfl, hx4⟩
    go_wp2_with fail
    go_ret
    exact ⟨rfl, HX0.out.tr (HX2.out.tr hx4)⟩

end Go.Proofs.Ytfbcmifclaaacaa
