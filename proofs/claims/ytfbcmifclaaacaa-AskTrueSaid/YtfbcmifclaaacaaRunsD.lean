/- Walks of package runs: Hill, told, Plus, Minus, Lesser, Bump, Value, Least. -/
import Derived.Test.YtfbcmifclaaacaaRunsA
import Derived.Test.YtfbcmifclaaacaaRunsC
import Derived.Test.YtfbcmifclaaacaaIdx
set_option linter.unusedVariables false
namespace Go.Proofs.Ytfbcmifclaaacaa
open Go.RowKit

/-! the three functions -/
theorem plus1 (a b : Int) (w : World) (ha : -1000000000 ≤ a) (ha' : a ≤ 1000000000) (hb : -1000000000 ≤ b) (hb' : b ≤ 1000000000) : Calls Try.prog 107 #[.int .i64 a, .int .i64 b] w fun e w' => e = .returned (.int .i64 (a + b)) ∧ w' = w := by
  go_enter Try.func107, Try.ntmps107
  go_wp2
  go_ret
  exact ⟨rfl, rfl⟩
/-- told's test -/
theorem told1 (x : Run) (w : World) : Calls Try.prog 115 #[.agg #[.int .i64 x.At, .int .i64 x.N]] w fun e w' => e = .returned (.bool (decide (¬ NumOk x.N))) ∧ Ext w w' := by
  by_cases h : NumOk x.N
  · rw [deF (fun h' => h' h)]
    have c := fun w => number_yes x.N w h
    have C := hid c
    clear c h
    go_enter Try.func115, Try.ntmps115
    go_wp2_with fail
    refine (C.out _).mono ?_
    rintro e w' ⟨rfl, rfl⟩
    go_wp2_with fail
    go_ret
    exact ⟨rfl, (Ext.rf _).al _⟩
  · rw [deT h]
    have c := fun w => number_no x.N w h
    have C := hid c
    clear c h
    go_enter Try.func115, Try.ntmps115
    go_wp2_with fail
    refine (C.out _).mono ?_
    rintro e w' ⟨rfl, rfl⟩
    go_wp2_with fail
    go_ret
    exact ⟨rfl, (Ext.rf _).al _⟩

/-! Check, whatever comes -/
theorem Check_any (w : World) (v : Value) (f : List Run) (hv : RunsV w v f) : Calls Try.prog 38 #[v] w fun e w' => e = .returned (.int .i64 (chk f)) ∧ Ext w w' := by
  have nilc : ∀ (a : Option Addr) (cap : Nat), Calls Try.prog 38 #[.slice a 0 cap] w fun e w' => e = .returned (.int .i64 1) ∧ Ext w w' := by
    intro a cap
    go_enter Try.func38, Try.ntmps38
    go_wp2
    go_ret
    exact ⟨rfl, Ext.rf _⟩
  by_cases h0 : f.length = 0
  · have hf : f = [] := List.eq_nil_of_length_eq_zero h0
    subst hf
    have hc : chk [] = 1 := chk_no (fun h => h.1)
    rw [hc]
    obtain ⟨a, cap, rfl, _⟩ := hv.form
    exact nilc a cap
  · rcases hv with ⟨rfl, a0, c0, rfl, hc0⟩ | ⟨b, off, cap, rfl, h1, h2, h3, h4, h5⟩
    · exact absurd rfl h0
    · exact Check_some w b off cap f h1 h2 h3 h4 h5 (by omega)

/-- fine runs are no nil -/
theorem RunsV.some {w : World} {v : Value} {f : List Run} (h : RunsV w v f) (hf : Shape f) :
    ∃ b off cap, v = .slice (some ⟨b, off, none⟩) f.length cap ∧ f.length ≤ cap ∧ cap ≤ 9223372036854775807 ∧ f.length ≤ 17592186044416 ∧ b < w.heap.size ∧ ∀ k x, f[k]? = some x → ERun w b (off + k * 2) x := by
  rcases h with ⟨rfl, a0, c0, rfl, hc0⟩ | h
  · exact hf.elim
  · exact h

/-- Zip, of slices that are held -/
theorem Zip_any (w : World) (vf vg : Value) (f g : List Run) (hf : RunsV w vf f) (hg : RunsV w vg g) (hsf : Shape f) (hsg : Shape g) (G : Nat) (of : Int → Int → Int)
    (heg : ∀ (args : Array Value) (w : World), (callFunc G args).run Try.prog w = .ok (.enter G args) w)
    (hof : ∀ x ∈ f, ∀ y ∈ g, I64 (of x.N y.N) ∧ ∀ w, Calls Try.prog G #[.int .i64 x.N, .int .i64 y.N] w fun e w' => e = .returned (.int .i64 (of x.N y.N)) ∧ w' = w) :
    Calls Try.prog 60 #[vf, vg, .func (.func G) #[] #[]] w (RetRuns w (fold (fun t => of (sp f t) (sp g t)))) := by
  obtain ⟨fb, fo, fc, rfl, f1, f2, _, f3, f4⟩ := hf.some hsf
  obtain ⟨gb, go, gc, rfl, g1, g2, _, g3, g4⟩ := hg.some hsg
  exact Zip_some w fb fo fc gb go gc f g G of hsf hsg f1 g1 f2 g2 f3 g3 f4 g4 heg hof

/-- the same: in memory that the call made -/
theorem Zip_anyF (w : World) (vf vg : Value) (f g : List Run) (hf : RunsV w vf f) (hg : RunsV w vg g) (hsf : Shape f) (hsg : Shape g) (G : Nat) (of : Int → Int → Int)
    (heg : ∀ (args : Array Value) (w : World), (callFunc G args).run Try.prog w = .ok (.enter G args) w)
    (hof : ∀ x ∈ f, ∀ y ∈ g, I64 (of x.N y.N) ∧ ∀ w, Calls Try.prog G #[.int .i64 x.N, .int .i64 y.N] w fun e w' => e = .returned (.int .i64 (of x.N y.N)) ∧ w' = w) :
    Calls Try.prog 60 #[vf, vg, .func (.func G) #[] #[]] w (RetRunsF w (fold (fun t => of (sp f t) (sp g t)))) := by
  obtain ⟨fb, fo, fc, rfl, f1, f2, _, f3, f4⟩ := hf.some hsf
  obtain ⟨gb, go, gc, rfl, g1, g2, _, g3, g4⟩ := hg.some hsg
  exact Zip_fresh w fb fo fc gb go gc f g G of hsf hsg f1 g1 f2 g2 f3 g3 f4 g4 heg hof

theorem At_any (w : World) (v : Value) (f : List Run) (hv : RunsV w v f) (hs : Shape f) (t : Int) (h2 : 0 ≤ t) (h3 : t < 48) :
    Calls Try.prog 45 #[v, .int .i64 t] w fun e w' => e = .returned (.int .i64 (sp f t.toNat)) ∧ Ext w w' := by
  obtain ⟨b, off, cap, rfl, h4, h5, _, h6, h7⟩ := hv.some hs
  exact At_some w b off cap f t hs h5 h4 h6 h7 h2 h3

theorem Low_any (w : World) (v : Value) (f : List Run) (hv : RunsV w v f) (hs : Shape f) (s t : Int) (h1 : 0 ≤ s) (h2 : s < t) (h3 : t ≤ 48) :
    Calls Try.prog 40 #[v, .int .i64 s, .int .i64 t] w fun e w' => e = .returned (.int .i64 (lowT (sp f) s.toNat t.toNat)) ∧ Ext w w' := by
  obtain ⟨b, off, cap, rfl, h4, h5, _, h6, h7⟩ := hv.some hs
  exact Low_some w b off cap f s t hs h5 h4 h6 h7 h1 h2 h3

/-! Value, Least -/
/-- what Value comes to -/
@[irreducible] def valueR (f : List Run) (t : Int) : Int × Int := if Fine f then (if 0 ≤ t ∧ t < 48 then (sp f t.toNat, 0) else (0, 3)) else (0, 1)
@[irreducible] def leastR (f : List Run) (a b : Int) : Int × Int := if Fine f then (if 0 ≤ a ∧ a < b ∧ b ≤ 48 then (lowT (sp f) a.toNat b.toNat, 0) else (0, 3)) else (0, 1)

theorem ret_two {a b c d : Int} (h1 : a = c) (h2 : b = d) : Ending.returned (.tuple #[.int .i64 a, .int .i64 b]) = .returned (.tuple #[.int .i64 c, .int .i64 d]) := by rw [h1, h2]

theorem Value_any (w : World) (v : Value) (f : List Run) (t : Int) (hv : RunsV w v f) :
    Calls Try.prog 19 #[v, .int .i64 t] w fun e w' => e = .returned (.tuple #[.int .i64 (valueR f t).1, .int .i64 (valueR f t).2]) ∧ Ext w w' := by
  have C := hid (Check_any w v f hv)
  have Hv := hid hv
  by_cases hf : Fine f
  · have Hc := hid (chk_yes hf)
    by_cases ht : 0 ≤ t ∧ t < 48
    · have hr : valueR f t = (sp f t.toNat, 0) := by unfold valueR; rw [if_pos hf, if_pos ht]
      have A := hid (fun (W : World) (h : Ext w W) => At_any W v f (hv.mono h) hf.1 t ht.1 ht.2)
      have S := hid (fun (W : World) => Span_yes t 48 W ht.1 ht.2 (by omega))
      rw [hr]
      clear hr ht hf hv
      generalize sp f t.toNat = r at *
      go_enter Try.func19, Try.ntmps19
      go_wp2_with fail
      refine C.out.mono ?_
      rintro e w1 ⟨rfl, hx1⟩
      rw [Hc.out]
      go_wp2_with fail
      refine (S.out _).mono ?_
      rintro e w2 ⟨rfl, rfl⟩
      go_wp2_with fail
      refine (A.out _ hx1).mono ?_
      rintro e w2 ⟨rfl, hx2⟩
      go_wp2_with fail
      go_ret2
      exact ⟨rfl, hx1.tr hx2⟩
    · have hr : valueR f t = (0, 3) := by unfold valueR; rw [if_pos hf, if_neg ht]
      have S := hid (fun (W : World) => Span_no t 48 W (fun h => ht ⟨h.1, h.2.1⟩))
      rw [hr]
      clear hr ht hf hv
      go_enter Try.func19, Try.ntmps19
      go_wp2_with fail
      refine C.out.mono ?_
      rintro e w1 ⟨rfl, hx1⟩
      rw [Hc.out]
      go_wp2_with fail
      refine (S.out _).mono ?_
      rintro e w2 ⟨rfl, rfl⟩
      go_wp2_with fail
      go_ret2
      exact ⟨rfl, hx1⟩
  · have Hc := hid (chk_no hf)
    have hr : valueR f t = (0, 1) := by unfold valueR; rw [if_neg hf]
    rw [hr]
    clear hr hf hv
    go_enter Try.func19, Try.ntmps19
    go_wp2_with fail
    refine C.out.mono ?_
    rintro e w1 ⟨rfl, hx1⟩
    rw [Hc.out]
    go_wp2_with fail
    go_ret2
    exact ⟨rfl, hx1⟩

theorem Least_any (w : World) (v : Value) (f : List Run) (a b : Int) (hv : RunsV w v f) :
    Calls Try.prog 13 #[v, .int .i64 a, .int .i64 b] w fun e w' => e = .returned (.tuple #[.int .i64 (leastR f a b).1, .int .i64 (leastR f a b).2]) ∧ Ext w w' := by
  have C := hid (Check_any w v f hv)
  have Hv := hid hv
  by_cases hf : Fine f
  · have Hc := hid (chk_yes hf)
    by_cases ht : 0 ≤ a ∧ a < b ∧ b ≤ 48
    · have hr : leastR f a b = (lowT (sp f) a.toNat b.toNat, 0) := by unfold leastR; rw [if_pos hf, if_pos ht]
      have A := hid (fun (W : World) (h : Ext w W) => Low_any W v f (hv.mono h) hf.1 a b ht.1 ht.2.1 ht.2.2)
      have S := hid (fun (W : World) => Span_yes a b W ht.1 ht.2.1 ht.2.2)
      rw [hr]
      clear hr ht hf hv
      generalize lowT (sp f) a.toNat b.toNat = r at *
      go_enter Try.func13, Try.ntmps13
      go_wp2_with fail
      refine C.out.mono ?_
      rintro e w1 ⟨rfl, hx1⟩
      rw [Hc.out]
      go_wp2_with fail
      refine (S.out _).mono ?_
      rintro e w2 ⟨rfl, rfl⟩
      go_wp2_with fail
      refine (A.out _ hx1).mono ?_
      rintro e w2 ⟨rfl, hx2⟩
      go_wp2_with fail
      go_ret2
      exact ⟨rfl, hx1.tr hx2⟩
    · have hr : leastR f a b = (0, 3) := by unfold leastR; rw [if_pos hf, if_neg ht]
      have S := hid (fun (W : World) => Span_no a b W ht)
      rw [hr]
      clear hr ht hf hv
      go_enter Try.func13, Try.ntmps13
      go_wp2_with fail
      refine C.out.mono ?_
      rintro e w1 ⟨rfl, hx1⟩
      rw [Hc.out]
      go_wp2_with fail
      refine (S.out _).mono ?_
      rintro e w2 ⟨rfl, rfl⟩
      go_wp2_with fail
      go_ret2
      exact ⟨rfl, hx1⟩
  · have Hc := hid (chk_no hf)
    have hr : leastR f a b = (0, 1) := by unfold leastR; rw [if_neg hf]
    rw [hr]
    clear hr hf hv
    go_enter Try.func13, Try.ntmps13
    go_wp2_with fail
    refine C.out.mono ?_
    rintro e w1 ⟨rfl, hx1⟩
    rw [Hc.out]
    go_wp2_with fail
    go_ret2
    exact ⟨rfl, hx1⟩

end Go.Proofs.Ytfbcmifclaaacaa
