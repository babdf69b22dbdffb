/- Walks of package runs: told, Plus, Minus, Lesser, Hill, Bump. -/
import Derived.Test.YtoclbapkgfmphaaRefC
import Derived.Shelf.Abstract
set_option linter.unusedVariables false
namespace Go.Proofs.Ytoclbapkgfmphaa
open Go.RowKit

/-- told's last test, plainly -/
@[irreducible] def manyR (z : Nat → Int) : Bool := (fold z).any (fun x => decide (¬ NumOk x.N))
theorem manyR_eq (z : Nat → Int) : (fold z).any (fun x => decide (¬ NumOk x.N)) = manyR z := by unfold manyR; rfl
theorem manyR_no {z : Nat → Int} (h : manyR z = false) : toldT z = (fold z, 0) := by
  rw [← manyR_eq, List.any_eq_false] at h
  exact toldT_yes (fold_fine (fun r hr => by have := h r hr; simpa using this))
theorem manyR_yes {z : Nat → Int} (h : manyR z = true) : toldT z = ([], 2) := by
  rw [← manyR_eq, List.any_eq_true] at h
  obtain ⟨r, hr, hn⟩ := h
  unfold toldT
  rw [if_neg (fun hall => (by simpa using hn : ¬ NumOk r.N) ((fine_fold hall).2 r hr))]

theorem bothR_yes {f g : List Run} {of : Int → Int → Int} (h1 : Fine f) (h2 : Fine g) : bothR f g of = toldT (fun t => of (sp f t) (sp g t)) := by unfold bothR; rw [if_pos ⟨h1, h2⟩]
theorem bothR_no {f g : List Run} {of : Int → Int → Int} (h : ¬ (Fine f ∧ Fine g)) : bothR f g of = ([], 1) := by unfold bothR; rw [if_neg h]

set_option maxHeartbeats 1000000 in
theorem told_any (w : World) (vf vg : Value) (f g : List Run) (G : Nat) (of : Int → Int → Int) (hf : RunsV w vf f) (hg : RunsV w vg g)
    (heg : ∀ (args : Array Value) (w : World), (callFunc G args).run Try.prog w = .ok (.enter G args) w)
    (hof : ∀ a b, NumOk a → NumOk b → I64 (of a b) ∧ ∀ w, Calls Try.prog G #[.int .i64 a, .int .i64 b] w fun e w' => e = .returned (.int .i64 (of a b)) ∧ w' = w) :
    Calls Try.prog 55 #[vf, vg, .func (.func G) #[] #[]] w (RetRuns2 w (bothR f g of)) := by
  have Cf := hid (fun (W : World) (h : Ext w W) => Check_any W vf f (hf.mono h))
  have Cg := hid (fun (W : World) (h : Ext w W) => Check_any W vg g (hg.mono h))
  have Z := hid (fun (h1 : Fine f) (h2 : Fine g) (W : World) (h : Ext w W) => Zip_any W vf vg f g (hf.mono h) (hg.mono h) h1.1 h2.1 G of heg (fun x hx y hy => hof x.N y.N (h1.2 x hx) (h2.2 y hy)))
  have P := hid (fun (W : World) (v : Value) (hv : RunsV W v (fold (fun t => of (sp f t) (sp g t)))) => ContainsFunc_Run W v _ 99 #[] (fun x => decide (¬ NumOk x.N)) hv (enters_of Try.func99 (by kernel_rfl) rfl) (fun k x _ W' _ => told1 x W'))
  obtain ⟨fa, fc, hfv, _⟩ := hf.form
  obtain ⟨ga, gc, hgv, _⟩ := hg.form
  clear hf hg
  generalize f.length = fn at hfv
  generalize g.length = gn at hgv
  subst hfv hgv
  go_enter Try.func55, Try.ntmps55
  go_wp2_with fail
  have hx0 := hid ((Ext.rf w).al (.cells #[.slice fa fn fc, .slice ga gn gc] 36))
  have hc0 : (w.alloc (.cells #[.slice fa fn fc, .slice ga gn gc] 36)).cell? ⟨w.heap.size, 0, none⟩ = some (.slice fa fn fc) := by rw [cell_of_row _ _ _ _ _ _ (heap_alloc_new w _)]; rfl
  have hc1 : (w.alloc (.cells #[.slice fa fn fc, .slice ga gn gc] 36)).cell? ⟨w.heap.size, 1, none⟩ = some (.slice ga gn gc) := by rw [cell_of_row _ _ _ _ _ _ (heap_alloc_new w _)]; rfl
  go_loopw [16] (fun c wr => ∃ i : Nat, c = .int .i64 i ∧ i ≤ 2 ∧ Hid (1 ≤ i → Fine f) ∧ Hid (2 ≤ i → Fine g) ∧ Ext (w.alloc (.cells #[.slice fa fn fc, .slice ga gn gc] 36)) wr) (fun c _ => 2 - (intOf c).toNat)
  case atStart => exact ⟨0, rfl, by omega, fun h => absurd h (by omega), fun h => absurd h (by omega), Ext.rf _⟩
  case round =>
    obtain ⟨i, rfl, hi, F1, F2, hx⟩ := hrel
    obtain rfl | rfl | rfl : i = 0 ∨ i = 1 ∨ i = 2 := by omega
    · replace hc0 := hx.ce' hc0
      by_cases h1 : Fine f
      · have Hc := hid (chk_yes h1)
        have H1 := hid h1
        clear h1
        go_wp2_with fail
        refine (Cf.out _ (hx0.out.tr hx)).mono ?_
        rintro e w1 ⟨rfl, hx1⟩
        rw [Hc.out]
        go_wp2_with fail
        go_roundw
        case rel => exact ⟨1, rfl, by omega, fun _ => H1.out, fun h => absurd h (by omega), hx.tr hx1⟩
        case measure => simp [intOf]
      · have Hc := hid (chk_no h1)
        have Hr := hid (bothR_no (f := f) (g := g) (of := of) (fun h => h1 h.1))
        clear h1
        go_wp2_with fail
        refine (Cf.out _ (hx0.out.tr hx)).mono ?_
        rintro e w1 ⟨rfl, hx1⟩
        rw [Hc.out]
        go_wp2_with fail
        go_ret2
        exact retRuns2_of Hr.out (SV.nil) ((hx0.out.tr hx).tr hx1)
    · replace hc1 := hx.ce' hc1
      by_cases h1 : Fine g
      · have Hc := hid (chk_yes h1)
        have H1 := hid h1
        clear h1
        go_wp2_with fail
        refine (Cg.out _ (hx0.out.tr hx)).mono ?_
        rintro e w1 ⟨rfl, hx1⟩
        rw [Hc.out]
        go_wp2_with fail
        go_roundw
        case rel => exact ⟨2, rfl, by omega, fun _ => F1.out (by omega), fun _ => H1.out, hx.tr hx1⟩
        case measure => simp [intOf]
      · have Hc := hid (chk_no h1)
        have Hr := hid (bothR_no (f := f) (g := g) (of := of) (fun h => h1 h.2))
        clear h1
        go_wp2_with fail
        refine (Cg.out _ (hx0.out.tr hx)).mono ?_
        rintro e w1 ⟨rfl, hx1⟩
        rw [Hc.out]
        go_wp2_with fail
        go_ret2
        exact retRuns2_of Hr.out (SV.nil) ((hx0.out.tr hx).tr hx1)
    · have Hr := hid (bothR_yes (of := of) (F1.out (by omega)) (F2.out (by omega)))
      have Z' := hid (Z.out (F1.out (by omega)) (F2.out (by omega)))
      simp only [manyR_eq] at P
      generalize hz : (fun t => of (sp f t) (sp g t)) = z at *
      clear hz F1 F2
      go_wp2_with fail
      refine (Z'.out _ (hx0.out.tr hx)).mono ?_
      rintro e w1 ⟨v, rfl, hv, hx1⟩
      have Hv := hid hv
      clear hv
      go_wp2_with fail
      refine (P.out _ _ Hv.out).mono ?_
      rintro e w2 ⟨rfl, hx2⟩
      by_cases hm : manyR z = true
      · have Hm := hid (Hr.out.trans (manyR_yes hm))
        rw [hm]
        clear hm
        go_wp2_with fail
        go_ret2
        exact retRuns2_of Hm.out (SV.nil) (((hx0.out.tr hx).tr hx1).tr hx2)
      · have hm' : manyR z = false := by simpa using hm
        have Hm := hid (Hr.out.trans (manyR_no hm'))
        rw [hm']
        clear hm hm'
        go_wp2_with fail
        go_ret2
        exact retRuns2_of Hm.out (Hv.out.mono hx2) (((hx0.out.tr hx).tr hx1).tr hx2)

theorem Plus_any (w : World) (vf vg : Value) (f g : List Run) (hf : RunsV w vf f) (hg : RunsV w vg g) :
    Calls Try.prog 19 #[vf, vg] w (RetRuns2 w (bothR f g (fun a b => a + b))) := by
  have B := hid (told_any w vf vg f g 56 (fun a b => a + b) hf hg (enters_of Try.func56 (by kernel_rfl) rfl)
    (fun a b ha hb => ⟨I64.of (by have := ha.1; have := hb.1; have := ha.2; have := hb.2; omega) (by have := ha.1; have := hb.1; have := ha.2; have := hb.2; omega), fun w => plus1 a b w (by have := ha.1; omega) (by have := ha.2; omega) (by have := hb.1; omega) (by have := hb.2; omega)⟩))
  clear hf hg
  generalize bothR f g (fun a b => a + b) = r at *
  go_enter Try.func19, Try.ntmps19
  go_wp2_with fail
  refine B.out.mono ?_
  rintro e w1 ⟨v, rfl, hv, hx1⟩
  go_wp2_with fail
  go_ret2
  exact ⟨v, rfl, hv, hx1⟩

theorem Lesser_any (w : World) (vf vg : Value) (f g : List Run) (hf : RunsV w vf f) (hg : RunsV w vg g) :
    Calls Try.prog 25 #[vf, vg] w (RetRuns2 w (bothR f g (fun a b => min a b))) := by
  have B := hid (told_any w vf vg f g 62 (fun a b => min a b) hf hg (enters_of Try.func62 (by kernel_rfl) rfl)
    (fun a b ha hb => ⟨I64.of (by have := ha.1; have := hb.1; have := ha.2; have := hb.2; omega) (by have := ha.1; have := hb.1; have := ha.2; have := hb.2; omega), fun w => lesser1 a b w⟩))
  clear hf hg
  generalize bothR f g (fun a b => min a b) = r at *
  go_enter Try.func25, Try.ntmps25
  go_wp2_with fail
  refine B.out.mono ?_
  rintro e w1 ⟨v, rfl, hv, hx1⟩
  go_wp2_with fail
  go_ret2
  exact ⟨v, rfl, hv, hx1⟩

end Go.Proofs.Ytoclbapkgfmphaa
