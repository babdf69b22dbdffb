/- Runs: Plus, Minus, Lesser, Hill, Bump are walked. -/
import Derived.Test.YtfbcmifclaaacaaRefC
import Derived.Shelf.Abstract

/- Walks of package runs: told, Plus, Minus, Lesser, Hill, Bump. -/
set_option linter.unusedVariables false
namespace Go.Proofs.Ytfbcmifclaaacaa
open Go.RowKit

/-- told's last test, plainly -/
@[irreducible] def manyR (z : Nat → Int) : Bool := (fold z).any (fun x => decide (¬ NumOk x.N))
theorem manyR_eq (z : Nat → Int) : (fold z).any (fun x => decide (¬ NumOk x.N)) = manyR z := by unfold manyR; rfl
theorem manyR_no {z : Nat → Int} (h : manyR z = false) : toldT z = (fold z, 0) := by
  rw [← manyR_eq, List.any_eq_false] at h
  exact toldT_yes (fold_fine (fun r hr => by have := h r hr; simpa using this))
theorem manyR_yes {z : Nat → Int} (h : manyR z = true) : toldT z = ([], 2) := by
  rw [← manyR_eq, List.any_eq_true] at h
  obtain ⟨r, hr, hn⟩ := h
  unfold toldT
  rw [if_neg (fun hall => (by simpa using hn : ¬ NumOk r.N) ((fine_fold hall).2 r hr))]

theorem bothR_yes {f g : List Run} {of : Int → Int → Int} (h1 : Fine f) (h2 : Fine g) : bothR f g of = toldT (fun t => of (sp f t) (sp g t)) := by unfold bothR; rw [if_pos ⟨h1, h2⟩]
theorem bothR_no {f g : List Run} {of : Int → Int → Int} (h : ¬ (Fine f ∧ Fine g)) : bothR f g of = ([], 1) := by unfold bothR; rw [if_neg h]

set_option maxHeartbeats 1000000 in
theorem told_any (w : World) (vf vg : Value) (f g : List Run) (G : Nat) (of : Int → Int → Int) (hf : RunsV w vf f) (hg : RunsV w vg g)
    (heg : ∀ (args : Array Value) (w : World), (callFunc G args).run Try.prog w = .ok (.enter G args) w)
    (hof : ∀ a b, NumOk a → NumOk b → I64 (of a b) ∧ ∀ w, Calls Try.prog G #[.int .i64 a, .int .i64 b] w fun e w' => e = .returned (.int .i64 (of a b)) ∧ w' = w) :
    Calls Try.prog 106 #[vf, vg, .func (.func G) #[] #[]] w (RetRuns2 w (bothR f g of)) := by
  have Cf := hid (fun (W : World) (h : Ext w W) => Check_any W vf f (hf.mono h))
  have Cg := hid (fun (W : World) (h : Ext w W) => Check_any W vg g (hg.mono h))
  have Z := hid (fun (h1 : Fine f) (h2 : Fine g) (W : World) (h : Ext w W) => Zip_any W vf vg f g (hf.mono h) (hg.mono h) h1.1 h2.1 G of heg (fun x hx y hy => hof x.N y.N (h1.2 x hx) (h2.2 y hy)))
  have P := hid (fun (W : World) (v : Value) (hv : RunsV W v (fold (fun t => of (sp f t) (sp g t)))) => ContainsFunc_Run W v _ 115 #[] (fun x => decide (¬ NumOk x.N)) hv (enters_of Try.func115 (by kernel_rfl) rfl) (fun k x _ W' _ => told1 x W'))
  obtain ⟨fa, fc, hfv, _⟩ := hf.form
  obtain ⟨ga, gc, hgv, _⟩ := hg.form
  clear hf hg
  generalize f.length = fn at hfv
  generalize g.length = gn at hgv
  subst hfv hgv
  go_enter Try.func106, Try.ntmps106
  go_wp2_with fail
  have hx0 := hid ((Ext.rf w).al (.cells #[.slice fa fn fc, .slice ga gn gc] 29))
  have hc0 : (w.alloc (.cells #[.slice fa fn fc, .slice ga gn gc] 29)).cell? ⟨w.heap.size, 0, none⟩ = some (.slice fa fn fc) := by rw [cell_of_row _ _ _ _ _ _ (heap_alloc_new w _)]; rfl
  have hc1 : (w.alloc (.cells #[.slice fa fn fc, .slice ga gn gc] 29)).cell? ⟨w.heap.size, 1, none⟩ = some (.slice ga gn gc) := by rw [cell_of_row _ _ _ _ _ _ (heap_alloc_new w _)]; rfl
  go_loopw [16] (fun c wr => ∃ i : Nat, c = .int .i64 i ∧ i ≤ 2 ∧ Hid (1 ≤ i → Fine f) ∧ Hid (2 ≤ i → Fine g) ∧ Ext (w.alloc (.cells #[.slice fa fn fc, .slice ga gn gc] 29)) wr) (fun c _ => 2 - (intOf c).toNat)
  case atStart => exact ⟨0, rfl, by omega, fun h => absurd h (by omega), fun h => absurd h (by omega), Ext.rf _⟩
  case round =>
    obtain ⟨i, rfl, hi, F1, F2, hx⟩ := hrel
    obtain rfl | rfl | rfl : i = 0 ∨ i = 1 ∨ i = 2 := by omega
    · replace hc0 := hx.ce' hc0
      by_cases h1 : Fine f
      · have Hc := hid (chk_yes h1)
        have H1 := hid h1
        clear h1
        go_wp2_with fail
        refine (Cf.out _ (hx0.out.tr hx)).mono ?_
        rintro e w1 ⟨rfl, hx1⟩
        rw [Hc.out]
        go_wp2_with fail
        go_roundw
        case rel => exact ⟨1, rfl, by omega, fun _ => H1.out, fun h => absurd h (by omega), hx.tr hx1⟩
        case measure => simp [intOf]
      · have Hc := hid (chk_no h1)
        have Hr := hid (bothR_no (f := f) (g := g) (of := of) (fun h => h1 h.1))
        clear h1
        go_wp2_with fail
        refine (Cf.out _ (hx0.out.tr hx)).mono ?_
        rintro e w1 ⟨rfl, hx1⟩
        rw [Hc.out]
        go_wp2_with fail
        go_ret2
        exact retRuns2_of Hr.out (SV.nil) ((hx0.out.tr hx).tr hx1)
    · replace hc1 := hx.ce' hc1
      by_cases h1 : Fine g
      · have Hc := hid (chk_yes h1)
        have H1 := hid h1
        clear h1
        go_wp2_with fail
        refine (Cg.out _ (hx0.out.tr hx)).mono ?_
        rintro e w1 ⟨rfl, hx1⟩
        rw [Hc.out]
        go_wp2_with fail
        go_roundw
        case rel => exact ⟨2, rfl, by omega, fun _ => F1.out (by omega), fun _ => H1.out, hx.tr hx1⟩
        case measure => simp [intOf]
      · have Hc := hid (chk_no h1)
        have Hr := hid (bothR_no (f := f) (g := g) (of := of) (fun h => h1 h.2))
        clear h1
        go_wp2_with fail
        refine (Cg.out _ (hx0.out.tr hx)).mono ?_
        rintro e w1 ⟨rfl, hx1⟩
        rw [Hc.out]
        go_wp2_with fail
        go_ret2
        exact retRuns2_of Hr.out (SV.nil) ((hx0.out.tr hx).tr hx1)
    · have Hr := hid (bothR_yes (of := of) (F1.out (by omega)) (F2.out (by omega)))
      have Z' := hid (Z.out (F1.out (by omega)) (F2.out (by omega)))
      simp only [manyR_eq] at P
      generalize hz : (fun t => of (sp f t) (sp g t)) = z at *
      clear hz F1 F2
      go_wp2_with fail
      refine (Z'.out _ (hx0.out.tr hx)).mono ?_
      rintro e w1 ⟨v, rfl, hv, hx1⟩
      have Hv := hid hv
      clear hv
      go_wp2_with fail
      refine (P.out _ _ Hv.out).mono ?_
      rintro e w2 ⟨rfl, hx2⟩
      by_cases hm : manyR z = true
      · have Hm := hid (Hr.out.trans (manyR_yes hm))
        rw [hm]
        clear hm
        go_wp2_with fail
        go_ret2
        exact retRuns2_of Hm.out (SV.nil) (((hx0.out.tr hx).tr hx1).tr hx2)
      · have hm' : manyR z = false := by simpa using hm
        have Hm := hid (Hr.out.trans (manyR_no hm'))
        rw [hm']
        clear hm hm'
        go_wp2_with fail
        go_ret2
        exact retRuns2_of Hm.out (Hv.out.mono hx2) (((hx0.out.tr hx).tr hx1).tr hx2)

theorem Plus_any (w : World) (vf vg : Value) (f g : List Run) (hf : RunsV w vf f) (hg : RunsV w vg g) :
    Calls Try.prog 86 #[vf, vg] w (RetRuns2 w (bothR f g (fun a b => a + b))) := by
  have B := hid (told_any w vf vg f g 107 (fun a b => a + b) hf hg (enters_of Try.func107 (by kernel_rfl) rfl)
    (fun a b ha hb => ⟨I64.of (by have := ha.1; have := hb.1; have := ha.2; have := hb.2; omega) (by have := ha.1; have := hb.1; have := ha.2; have := hb.2; omega), fun w => plus1 a b w (by have := ha.1; omega) (by have := ha.2; omega) (by have := hb.1; omega) (by have := hb.2; omega)⟩))
  clear hf hg
  generalize bothR f g (fun a b => a + b) = r at *
  go_enter Try.func86, Try.ntmps86
  go_wp2_with fail
  refine B.out.mono ?_
  rintro e w1 ⟨v, rfl, hv, hx1⟩
  go_wp2_with fail
  go_ret2
  exact ⟨v, rfl, hv, hx1⟩

end Go.Proofs.Ytfbcmifclaaacaa

/- Walks of package runs: Hill's put, Hill, Bump. -/
set_option linter.unusedVariables false
namespace Go.Proofs.Ytfbcmifclaaacaa
open Go.RowKit

/-- Hill's put, plainly -/
def putB (l : List Run) (t n : Int) : List Run := if t < 48 then putRun l ⟨t, n⟩ else l

theorem ownsRow_setCell {w : World} {base e sz n c o : Nat} {v u : Value} {xs : List Value} (h : w.ownsRow base e sz v n xs) (hc : c < base) : (w.setCell ⟨c, o, none⟩ u).ownsRow base e sz v n xs := by
  obtain ⟨h1, h2⟩ := h
  refine ⟨h1, ?_⟩
  rcases h2 with h2 | ⟨g, cap, cur, hv, hb, hg, r⟩
  · exact .inl h2
  · exact .inr ⟨g, cap, cur, hv, hb, by rw [heap_setCell_other w ⟨c, o, none⟩ g u (by show g ≠ c; omega)]; exact hg, r⟩

/-- the box at c holds what has been put -/
def BoxAt (c : Nat) (w : World) (l : List Run) : Prop := ∃ v, w.heap[c]? = some (.cells #[v] 29 (0, 0)) ∧ w.ownsRow (c + 1) 73 2 v l.length (cells2 Run.At Run.N l) ∧ (l = [] → v = .slice none 0 0)

theorem BoxAt.ext {c : Nat} {w w' : World} {l : List Run} (h : BoxAt c w l) (hx : Ext w w') : BoxAt c w' l := by
  obtain ⟨v, h1, h2, h3⟩ := h
  exact ⟨v, by rw [hx.block c (Array.getElem?_eq_some_iff.1 h1).1]; exact h1, ownsRow_ext h2 hx, h3⟩

theorem boxAt_put {c : Nat} {W W2 : World} {l2 : List Run} {v u v2 : Value} (hb : W.heap[c]? = some (.cells #[u] 29 (0, 0))) (hv : ∀ k, v.ownBlock = some k → c + 1 ≤ k)
    (hown : W2.ownsRow (c + 1) 73 2 v2 l2.length (cells2 Run.At Run.N l2)) (hg : W.grownBy W2 v.ownBlock) (hne : l2 ≠ []) : BoxAt c (W2.setCell ⟨c, 0, none⟩ v2) l2 := by
  have h2 : W2.heap[c]? = some (.cells #[u] 29 (0, 0)) := by
    rw [hg.block c (Array.getElem?_eq_some_iff.1 hb).1 (fun e => by have := hv c e.symm; omega)]; exact hb
  refine ⟨v2, ?_, ownsRow_setCell hown (by omega), fun e => absurd e hne⟩
  rw [heap_setCell_same W2 c 0 _ _ _ h2]; rfl

theorem ownsRow_slice {w : World} {base e sz n : Nat} {v : Value} {xs : List Value} (h : w.ownsRow base e sz v n xs) : ∃ a cap, v = .slice a n cap := by
  obtain ⟨_, h2⟩ := h
  rcases h2 with ⟨rfl, rfl⟩ | ⟨g, cap, cur, rfl, _⟩
  · exact ⟨none, 0, rfl⟩
  · exact ⟨_, _, rfl⟩

theorem box_after {c : Nat} {W W2 : World} {v u : Value} (hb : W.heap[c]? = some (.cells #[u] 29 (0, 0))) (hv : ∀ k, v.ownBlock = some k → c + 1 ≤ k) (hg : W.grownBy W2 v.ownBlock) :
    W2.heap[c]? = some (.cells #[u] 29 (0, 0)) := by
  rw [hg.block c (Array.getElem?_eq_some_iff.1 hb).1 (fun e => by have := hv c e.symm; omega)]; exact hb

theorem box_alloc {c : Nat} {W : World} {u : Value} (o : Obj) (hb : W.heap[c]? = some (.cells #[u] 29 (0, 0))) : (W.alloc o).heap[c]? = some (.cells #[u] 29 (0, 0)) := by
  rw [((Ext.rf W).al o).block c (Array.getElem?_eq_some_iff.1 hb).1]; exact hb

set_option maxRecDepth 100000 in
set_option maxHeartbeats 2000000 in
theorem put_any (w0 w : World) (c : Nat) (l : List Run) (t n : Int) (hc : w0.heap.size ≤ c) (hx : Ext w0 w) (hb : BoxAt c w l) (hl : l.length ≤ 48) :
    Calls Try.prog 108 #[.int .i64 t, .int .i64 n, .pointer (some ⟨c, 0, none⟩)] w fun e w' => e = .returned (.tuple #[]) ∧ Ext w0 w' ∧ BoxAt c w' (putB l t n) := by
  obtain ⟨ir, ir1, ir2, ir3, ir4⟩ := info_parts Try.info73
  have HB := hid hb
  obtain ⟨v, hv, hown, hnil⟩ := hb
  have hcell : w.cell? ⟨c, 0, none⟩ = some v := by rw [cell_of_row _ _ _ _ _ _ hv]; rfl
  have hcw := (Array.getElem?_eq_some_iff.1 hv).1
  have Hown := hid hown
  have Hv := hid hv
  clear hv
  by_cases ht : t < 48
  · have hp : putB l t n = putRun l ⟨t, n⟩ := by unfold putB; rw [if_pos ht]
    rw [hp]
    clear hp
    rcases owns2_form hown hnil with ⟨rfl, rfl⟩ | ⟨ob, cp, r, rfl, hob, hobw, hlast, hpos, hlc⟩
    · clear hown hnil
      go_enter Try.func108, Try.ntmps108
      go_wp2_with (at_builtin; refine wpList_append_own _ rfl _ _ 29 rfl (c + 1) 73 ir _ 2 16 Try.underlying29 ir1 ir2 ir3 ir4 rfl (by decide) _ _ _ rfl (Hown.out.alloc _) ⟨w.heap.size, 0, none⟩ 1 1 [.int .i64 t, .int .i64 n] rfl rfl (new2 _ (by simp) _ _ _) (one2 _ _ _ _) (by simp [maxLen]) (by simp) (by simp; omega) ?_)
      intro v2 W2 hown2 hgrow2 _
      have h2 := box_after (box_alloc _ Hv.out) (own_lt Hown.out) hgrow2
      have hc2 : W2.cell? ⟨c, 0, none⟩ = _ := cell_of_row _ _ _ _ _ _ h2
      have hf2 := frozen_of_row W2 c 0 _ _ h2
      have Hbox := hid (boxAt_put (l2 := [⟨t, n⟩]) (box_alloc _ Hv.out) (own_lt Hown.out) (by simpa [cells2] using hown2) hgrow2 (by simp))
      have Hx := hid (((hx.al _).gr hgrow2 (fun k hk => by have := own_lt Hown.out k hk; omega)).se (o := 0) hc v2)
      obtain ⟨a2, c2, rfl⟩ := ownsRow_slice hown2
      clear hown2 hgrow2 h2
      go_wp2_with fail
      go_end0
      exact ⟨rfl, Hx.out, Hbox.out⟩
    · have hpos' : ((l.length : Int) == 0) = false := eqF (by omega)
      have hpos1 : (0 : Int) < (l.length : Int) := by omega
      have Hlast := hid hlast
      clear hlast hnil hown
      by_cases hrz : r.N = n
      · have hrz' : (r.N != n) = false := neF hrz
        have Hr := hid (putRun_same (x := ⟨t, n⟩) Hlast.out hrz)
        rw [Hr.out]
        clear hrz Hr
        go_enter Try.func108, Try.ntmps108
        go_wp2_with fail
        go_end0
        exact ⟨rfl, hx, HB.out⟩
      · have hrz' : (r.N != n) = true := neT hrz
        have Hr := hid (putRun_new (x := ⟨t, n⟩) Hlast.out hrz)
        rw [Hr.out]
        clear hrz Hr
        go_enter Try.func108, Try.ntmps108
        go_wp2_with (at_builtin; refine wpList_append_own _ rfl _ _ 29 rfl (c + 1) 73 ir _ 2 16 Try.underlying29 ir1 ir2 ir3 ir4 rfl (by decide) _ _ _ rfl (Hown.out.alloc _) ⟨w.heap.size, 0, none⟩ 1 1 [.int .i64 t, .int .i64 n] rfl rfl (new2 _ (by simp) _ _ _) (one2 _ _ _ _) (by unfold maxLen; omega) (by omega) (by simp; omega) ?_)
        intro v2 W2 hown2 hgrow2 _
        have h2 := box_after (box_alloc _ Hv.out) (own_lt Hown.out) hgrow2
        have hc2 : W2.cell? ⟨c, 0, none⟩ = _ := cell_of_row _ _ _ _ _ _ h2
        have hf2 := frozen_of_row W2 c 0 _ _ h2
        have Hbox := hid (boxAt_put (l2 := l ++ [⟨t, n⟩]) (box_alloc _ Hv.out) (own_lt Hown.out) (by rw [cells2_snoc, List.length_append]; exact hown2) hgrow2 (by simp))
        have Hx := hid (((hx.al _).gr hgrow2 (fun k hk => by have := own_lt Hown.out k hk; omega)).se (o := 0) hc v2)
        obtain ⟨a2, c2, rfl⟩ := ownsRow_slice hown2
        clear hown2 hgrow2 h2
        go_wp2_with fail
        go_end0
        exact ⟨rfl, Hx.out, Hbox.out⟩
  · have hp : putB l t n = l := by unfold putB; rw [if_neg ht]
    rw [hp]
    obtain ⟨a2, c2, rfl⟩ := ownsRow_slice hown
    clear hp hown hnil
    go_enter Try.func108, Try.ntmps108
    go_wp2_with fail
    go_end0
    exact ⟨rfl, hx, HB.out⟩

theorem putB_len (l : List Run) (t n : Int) : (putB l t n).length ≤ l.length + 1 := by
  unfold putB
  split
  · cases h : l.getLast? with
    | none => rw [List.getLast?_eq_none_iff] at h; subst h; simp [putRun_nil]
    | some r =>
      by_cases he : r.N = n
      · rw [putRun_same h he]; omega
      · rw [putRun_new h he]; simp
  · omega

theorem hillL_put {a b n : Int} (h1 : 0 ≤ a) (h2 : a < 48) : hillL a b n = putB (putB (if 0 < a then putB [] 0 0 else []) a n) b 0 := by
  unfold hillL putB
  simp only [if_pos h2]
  rfl

theorem hill_nums {a b n : Int} (h1 : 0 ≤ a) (h2 : a < b) (h3 : b ≤ 48) (hn : I64 n) : ∀ r ∈ hillL a b n, I64 r.At ∧ I64 r.N := by
  obtain ⟨i, rfl⟩ : ∃ k : Nat, a = k := ⟨a.toNat, by omega⟩
  obtain ⟨j, rfl⟩ : ∃ k : Nat, b = k := ⟨b.toNat, by omega⟩
  rw [hillL_eq (by omega) (by omega)]
  exact fold_nums (fun t ht => by
    unfold hillT
    split
    · exact hn
    · exact I64.of (by omega) (by omega))

set_option maxHeartbeats 1000000 in
theorem Hill_any (w : World) (a b n : Int) (h1 : 0 ≤ a) (h2 : a < b) (h3 : b ≤ 48) (hn : I64 n) :
    Calls Try.prog 87 #[.int .i64 a, .int .i64 b, .int .i64 n] w (RetRuns w (hillL a b n)) := by
  have hb0 : BoxAt w.heap.size (w.alloc (.cells #[.slice none 0 0] 29)) [] := ⟨_, heap_alloc_new w _, World.ownsRow_nil _ _ _ _, fun _ => rfl⟩
  have Hb0 := hid hb0
  have hr := hid (hillL_put (b := b) (n := n) h1 (by omega))
  have hN := hid (hill_nums h1 h2 h3 hn)
  clear hb0
  by_cases h0 : 0 < a
  · rw [if_pos h0] at hr
    go_enter Try.func87, Try.ntmps87
    go_wp2_with fail
    refine (put_any w _ w.heap.size [] 0 0 (Nat.le_refl _) ((Ext.rf w).al _) Hb0.out (by simp)).mono ?_
    rintro e w1 ⟨rfl, hx1, hb1⟩
    have l1 := putB_len [] 0 0
    generalize hl1 : putB [] 0 0 = o1 at *
    clear hl1
    have Hb1 := hid hb1
    clear hb1
    go_wp2_with fail
    refine (put_any w _ w.heap.size o1 a n (Nat.le_refl _) hx1 Hb1.out (by simp at l1; omega)).mono ?_
    rintro e w2 ⟨rfl, hx2, hb2⟩
    have l2 := putB_len o1 a n
    generalize hl2 : putB o1 a n = o2 at *
    clear hl2
    have Hb2 := hid hb2
    clear hb2
    go_wp2_with fail
    refine (put_any w _ w.heap.size o2 b 0 (Nat.le_refl _) hx2 Hb2.out (by simp at l1; omega)).mono ?_
    rintro e w3 ⟨rfl, hx3, hb3⟩
    have l3 := putB_len o2 b 0
    rw [← hr.out] at hb3 l3
    have Hb3 := hid hb3
    obtain ⟨v, hv, hown, _⟩ := hb3
    have hcell : w3.cell? ⟨w.heap.size, 0, none⟩ = some v := by rw [cell_of_row _ _ _ _ _ _ hv]; rfl
    obtain ⟨a2, c2, rfl⟩ := ownsRow_slice hown
    have Hr := hid (sv_of_owns2 hown hN.out (by simp at l1; omega))
    clear hown hv
    go_wp2_with fail
    go_ret
    exact ⟨_, rfl, Hr.out, hx3⟩
  · rw [if_neg h0] at hr
    go_enter Try.func87, Try.ntmps87
    go_wp2_with fail
    refine (put_any w _ w.heap.size [] a n (Nat.le_refl _) ((Ext.rf w).al _) Hb0.out (by simp)).mono ?_
    rintro e w2 ⟨rfl, hx2, hb2⟩
    have l2 := putB_len [] a n
    generalize hl2 : putB [] a n = o2 at *
    clear hl2
    have Hb2 := hid hb2
    clear hb2
    go_wp2_with fail
    refine (put_any w _ w.heap.size o2 b 0 (Nat.le_refl _) hx2 Hb2.out (by simp at l2; omega)).mono ?_
    rintro e w3 ⟨rfl, hx3, hb3⟩
    have l3 := putB_len o2 b 0
    rw [← hr.out] at hb3 l3
    have Hb3 := hid hb3
    obtain ⟨v, hv, hown, _⟩ := hb3
    have hcell : w3.cell? ⟨w.heap.size, 0, none⟩ = some v := by rw [cell_of_row _ _ _ _ _ _ hv]; rfl
    obtain ⟨a2, c2, rfl⟩ := ownsRow_slice hown
    have Hr := hid (sv_of_owns2 hown hN.out (by simp at l2; omega))
    clear hown hv
    go_wp2_with fail
    go_ret
    exact ⟨_, rfl, Hr.out, hx3⟩

/-- a bump, or the error -/
@[irreducible] noncomputable def bumpR (f : List Run) (a b n : Int) : List Run × Int :=
  if Fine f then (if (0 ≤ a ∧ a < b ∧ b ≤ 48) ∧ NumOk n then toldT (fun t => sp f t + hillT a.toNat b.toNat n t) else ([], 3)) else ([], 1)

theorem bothR_hill {f : List Run} {a b n : Int} (hf : Fine f) (h1 : 0 ≤ a) (h2 : a < b) (h3 : b ≤ 48) (hn : NumOk n) : bothR f (hillL a b n) (fun x y => x + y) = bumpR f a b n := by
  have hr : bumpR f a b n = toldT (fun t => sp f t + hillT a.toNat b.toNat n t) := by unfold bumpR; rw [if_pos hf, if_pos ⟨⟨h1, h2, h3⟩, hn⟩]
  rw [hr]
  obtain ⟨i, rfl⟩ : ∃ k : Nat, a = k := ⟨a.toNat, by omega⟩
  obtain ⟨j, rfl⟩ : ∃ k : Nat, b = k := ⟨b.toNat, by omega⟩
  have he := hillL_eq (a := i) (b := j) (n := n) (by omega) (by omega)
  have hF : Fine (hillL (i : Int) j n) := by
    rw [he]
    exact fine_fold (fun t ht => by
      unfold hillT
      split
      · exact hn
      · exact ⟨by omega, by omega⟩)
  rw [bothR_yes hf hF]
  exact toldT_congr (fun t ht => by rw [he, sp_fold ht]; simp)

theorem Bump_any (w : World) (v : Value) (f : List Run) (a b n : Int) (hv : RunsV w v f) :
    Calls Try.prog 57 #[v, .int .i64 a, .int .i64 b, .int .i64 n] w (RetRuns2 w (bumpR f a b n)) := by
  have C := hid (Check_any w v f hv)
  by_cases hf : Fine f
  · have Hc := hid (chk_yes hf)
    by_cases ht : 0 ≤ a ∧ a < b ∧ b ≤ 48
    · have S := hid (fun (W : World) => Span_yes a b W ht.1 ht.2.1 ht.2.2)
      by_cases hn : NumOk n
      · have hr := bothR_hill hf ht.1 ht.2.1 ht.2.2 hn
        have M := hid (fun (W : World) => number_yes n W hn)
        have H := hid (fun (W : World) => Hill_any W a b n ht.1 ht.2.1 ht.2.2 (I64.of (by have := hn.1; omega) (by have := hn.2; omega)))
        have P := hid (fun (W W' : World) (u : Value) (h : Ext w W) (h' : Ext W W') (hu : RunsV W' u (hillL a b n)) => Plus_any W' v u f (hillL a b n) (hv.mono (h.tr h')) hu)
        rw [← hr]
        clear hr ht hf hv hn
        go_enter Try.func57, Try.ntmps57
        go_wp2_with fail
        refine C.out.mono ?_
        rintro e w1 ⟨rfl, hx1⟩
        rw [Hc.out]
        go_wp2_with fail
        refine (S.out _).mono ?_
        rintro e w2 ⟨rfl, rfl⟩
        go_wp2_with fail
        refine (M.out _).mono ?_
        rintro e w2 ⟨rfl, rfl⟩
        go_wp2_with fail
        refine (H.out _).mono ?_
        rintro e w2 ⟨u, rfl, hu, hx2⟩
        have Hu := hid hu
        clear hu
        go_wp2_with fail
        refine (P.out _ _ _ hx1 hx2 Hu.out).mono ?_
        rintro e w3 ⟨v3, rfl, hv3, hx3⟩
        go_wp2_with fail
        go_ret2
        exact ⟨v3, rfl, hv3, (hx1.tr hx2).tr hx3⟩
      · have hr : bumpR f a b n = ([], 3) := by unfold bumpR; rw [if_pos hf, if_neg (fun h => hn h.2)]
        have M := hid (fun (W : World) => number_no n W hn)
        rw [hr]
        clear hr ht hf hv hn
        go_enter Try.func57, Try.ntmps57
        go_wp2_with fail
        refine C.out.mono ?_
        rintro e w1 ⟨rfl, hx1⟩
        rw [Hc.out]
        go_wp2_with fail
        refine (S.out _).mono ?_
        rintro e w2 ⟨rfl, rfl⟩
        go_wp2_with fail
        refine (M.out _).mono ?_
        rintro e w2 ⟨rfl, rfl⟩
        go_wp2_with fail
        go_ret2
        exact ⟨.slice none 0 0, rfl, SV.nil, hx1⟩
    · have hr : bumpR f a b n = ([], 3) := by unfold bumpR; rw [if_pos hf, if_neg (fun h => ht h.1)]
      have S := hid (fun (W : World) => Span_no a b W ht)
      rw [hr]
      clear hr ht hf hv
      go_enter Try.func57, Try.ntmps57
      go_wp2_with fail
      refine C.out.mono ?_
      rintro e w1 ⟨rfl, hx1⟩
      rw [Hc.out]
      go_wp2_with fail
      refine (S.out _).mono ?_
      rintro e w2 ⟨rfl, rfl⟩
      go_wp2_with fail
      go_ret2
      exact ⟨.slice none 0 0, rfl, SV.nil, hx1⟩
  · have hr : bumpR f a b n = ([], 1) := by unfold bumpR; rw [if_neg hf]
    have Hc := hid (chk_no hf)
    rw [hr]
    clear hr hf hv
    go_enter Try.func57, Try.ntmps57
    go_wp2_with fail
    refine C.out.mono ?_
    rintro e w1 ⟨rfl, hx1⟩
    rw [Hc.out]
    go_wp2_with fail
    go_ret2
    exact ⟨.slice none 0 0, rfl, SV.nil, hx1⟩

end Go.Proofs.Ytfbcmifclaaacaa
