/- Runs: Plus, Minus, Lesser, Hill, Bump are walked. -/
import Derived.Test.YtfbcmifclaaacaaGreatRefC
import Derived.Shelf.Abstract

/- Walks of package runs: told, Plus, Minus, Lesser, Hill, Bump. -/
set_option linter.unusedVariables false
namespace Go.Proofs.YtfbcmifclaaacaaGreat
open Go.RowKit

/-- told's last test, plainly -/
@[irreducible] def manyR (z : Nat → Int) : Bool := (fold z).any (fun x => decide (¬ NumOk x.N))
theorem manyR_eq (z : Nat → Int) : (fold z).any (fun x => decide (¬ NumOk x.N)) = manyR z := by unfold manyR; rfl
theorem manyR_no {z : Nat → Int} (h : manyR z = false) : toldT z = (fold z, 0) := by
  rw [← manyR_eq, List.any_eq_false] at h
  exact toldT_yes (fold_fine (fun r hr => by have := h r hr; simpa using this))
theorem manyR_yes {z : Nat → Int} (h : manyR z = true) : toldT z = ([], 2) := by
  rw [← manyR_eq, List.any_eq_true] at h
  obtain ⟨r, hr, hn⟩ := h
  unfold toldT
  rw [if_neg (fun hall => (by simpa using hn : ¬ NumOk r.N) ((fine_fold hall).2 r hr))]

theorem bothR_yes {f g : List Run} {of : Int → Int → Int} (h1 : Fine f) (h2 : Fine g) : bothR f g of = toldT (fun t => of (sp f t) (sp g t)) := by unfold bothR; rw [if_pos ⟨h1, h2⟩]
theorem bothR_no {f g : List Run} {of : Int → Int → Int} (h : ¬ (Fine f ∧ Fine g)) : bothR f g of = ([], 1) := by unfold bothR; rw [if_neg h]

end Go.Proofs.YtfbcmifclaaacaaGreat

/- Walks of package runs: Hill's put, Hill, Bump. -/
set_option linter.unusedVariables false
namespace Go.Proofs.YtfbcmifclaaacaaGreat
open Go.RowKit

/-- Hill's put, plainly -/
def putB (l : List Run) (t n : Int) : List Run := if t < 48 then putRun l ⟨t, n⟩ else l

theorem ownsRow_setCell {w : World} {base e sz n c o : Nat} {v u : Value} {xs : List Value} (h : w.ownsRow base e sz v n xs) (hc : c < base) : (w.setCell ⟨c, o, none⟩ u).ownsRow base e sz v n xs := by
  obtain ⟨h1, h2⟩ := h
  refine ⟨h1, ?_⟩
  rcases h2 with h2 | ⟨g, cap, cur, hv, hb, hg, r⟩
  · exact .inl h2
  · exact .inr ⟨g, cap, cur, hv, hb, by rw [heap_setCell_other w ⟨c, o, none⟩ g u (by show g ≠ c; omega)]; exact hg, r⟩

/-- the box at c holds what has been put -/
def BoxAt (c : Nat) (w : World) (l : List Run) : Prop := ∃ v, w.heap[c]? = some (.cells #[v] 47 (0, 0)) ∧ w.ownsRow (c + 1) 88 2 v l.length (cells2 Run.At Run.N l) ∧ (l = [] → v = .slice none 0 0)

theorem BoxAt.ext {c : Nat} {w w' : World} {l : List Run} (h : BoxAt c w l) (hx : Ext w w') : BoxAt c w' l := by
  obtain ⟨v, h1, h2, h3⟩ := h
  exact ⟨v, by rw [hx.block c (Array.getElem?_eq_some_iff.1 h1).1]; exact h1, ownsRow_ext h2 hx, h3⟩

theorem boxAt_put {c : Nat} {W W2 : World} {l2 : List Run} {v u v2 : Value} (hb : W.heap[c]? = some (.cells #[u] 47 (0, 0))) (hv : ∀ k, v.ownBlock = some k → c + 1 ≤ k)
    (hown : W2.ownsRow (c + 1) 88 2 v2 l2.length (cells2 Run.At Run.N l2)) (hg : W.grownBy W2 v.ownBlock) (hne : l2 ≠ []) : BoxAt c (W2.setCell ⟨c, 0, none⟩ v2) l2 := by
  have h2 : W2.heap[c]? = some (.cells #[u] 47 (0, 0)) := by
    rw [hg.block c (Array.getElem?_eq_some_iff.1 hb).1 (fun e => by have := hv c e.symm; omega)]; exact hb
  refine ⟨v2, ?_, ownsRow_setCell hown (by omega), fun e => absurd e hne⟩
  rw [heap_setCell_same W2 c 0 _ _ _ h2]; rfl

theorem ownsRow_slice {w : World} {base e sz n : Nat} {v : Value} {xs : List Value} (h : w.ownsRow base e sz v n xs) : ∃ a cap, v = .slice a n cap := by
  obtain ⟨_, h2⟩ := h
  rcases h2 with ⟨rfl, rfl⟩ | ⟨g, cap, cur, rfl, _⟩
  · exact ⟨none, 0, rfl⟩
  · exact ⟨_, _, rfl⟩

theorem box_after {c : Nat} {W W2 : World} {v u : Value} (hb : W.heap[c]? = some (.cells #[u] 47 (0, 0))) (hv : ∀ k, v.ownBlock = some k → c + 1 ≤ k) (hg : W.grownBy W2 v.ownBlock) :
    W2.heap[c]? = some (.cells #[u] 47 (0, 0)) := by
  rw [hg.block c (Array.getElem?_eq_some_iff.1 hb).1 (fun e => by have := hv c e.symm; omega)]; exact hb

theorem box_alloc {c : Nat} {W : World} {u : Value} (o : Obj) (hb : W.heap[c]? = some (.cells #[u] 47 (0, 0))) : (W.alloc o).heap[c]? = some (.cells #[u] 47 (0, 0)) := by
  rw [((Ext.rf W).al o).block c (Array.getElem?_eq_some_iff.1 hb).1]; exact hb

set_option maxRecDepth 100000 in
set_option maxHeartbeats 2000000 in
theorem put_any (w0 w : World) (c : Nat) (l : List Run) (t n : Int) (hc : w0.heap.size ≤ c) (hx : Ext w0 w) (hb : BoxAt c w l) (hl : l.length ≤ 48) :
    Calls Tryz.prog 119 #[.int .i64 t, .int .i64 n, .pointer (some ⟨c, 0, none⟩)] w fun e w' => e = .returned (.tuple #[]) ∧ Ext w0 w' ∧ BoxAt c w' (putB l t n) := by
  obtain ⟨ir, ir1, ir2, ir3, ir4⟩ := info_parts Tryz.info88
  have HB := hid hb
  obtain ⟨v, hv, hown, hnil⟩ := hb
  have hcell : w.cell? ⟨c, 0, none⟩ = some v := by rw [cell_of_row _ _ _ _ _ _ hv]; rfl
  have hcw := (Array.getElem?_eq_some_iff.1 hv).1
  have Hown := hid hown
  have Hv := hid hv
  clear hv
  by_cases ht : t < 48
  · have hp : putB l t n = putRun l ⟨t, n⟩ := by unfold putB; rw [if_pos ht]
    rw [hp]
    clear hp
    rcases owns2_form hown hnil with ⟨rfl, rfl⟩ | ⟨ob, cp, r, rfl, hob, hobw, hlast, hpos, hlc⟩
    · clear hown hnil
      go_enter Tryz.func119, Tryz.ntmps119
      go_wp2_with (at_builtin; refine wpList_append_own _ rfl _ _ 47 rfl (c + 1) 88 ir _ 2 16 Tryz.underlying47 ir1 ir2 ir3 ir4 rfl (by decide) _ _ _ rfl (Hown.out.alloc _) ⟨w.heap.size, 0, none⟩ 1 1 [.int .i64 t, .int .i64 n] rfl rfl (new2 _ (by simp) _ _ _) (one2 _ _ _ _) (by simp [maxLen]) (by simp) (by simp; omega) ?_)
      intro v2 W2 hown2 hgrow2 _
      have h2 := box_after (box_alloc _ Hv.out) (own_lt Hown.out) hgrow2
      have hc2 : W2.cell? ⟨c, 0, none⟩ = _ := cell_of_row _ _ _ _ _ _ h2
      have hf2 := frozen_of_row W2 c 0 _ _ h2
      have Hbox := hid (boxAt_put (l2 := [⟨t, n⟩]) (box_alloc _ Hv.out) (own_lt Hown.out) (by simpa [cells2] using hown2) hgrow2 (by simp))
      have Hx := hid (((hx.al _).gr hgrow2 (fun k hk => by have := own_lt Hown.out k hk; omega)).se (o := 0) hc v2)
      obtain ⟨a2, c2, rfl⟩ := ownsRow_slice hown2
      clear hown2 hgrow2 h2
      go_wp2_with fail
      go_end0
      exact ⟨rfl, Hx.out, Hbox.out⟩
    · have hpos' : ((l.length : Int) == 0) = false := eqF (by omega)
      have hpos1 : (0 : Int) < (l.length : Int) := by omega
      have Hlast := hid hlast
      clear hlast hnil hown
      by_cases hrz : r.N = n
      · have hrz' : (r.N != n) = false := neF hrz
        have Hr := hid (putRun_same (x := ⟨t, n⟩) Hlast.out hrz)
        rw [Hr.out]
        clear hrz Hr
        go_enter Tryz.func119, Tryz.ntmps119
        go_wp2_with fail
        go_end0
        exact ⟨rfl, hx, HB.out⟩
      · have hrz' : (r.N != n) = true := neT hrz
        have Hr := hid (putRun_new (x := ⟨t, n⟩) Hlast.out hrz)
        rw [Hr.out]
        clear hrz Hr
        go_enter Tryz.func119, Tryz.ntmps119
        go_wp2_with (at_builtin; refine wpList_append_own _ rfl _ _ 47 rfl (c + 1) 88 ir _ 2 16 Tryz.underlying47 ir1 ir2 ir3 ir4 rfl (by decide) _ _ _ rfl (Hown.out.alloc _) ⟨w.heap.size, 0, none⟩ 1 1 [.int .i64 t, .int .i64 n] rfl rfl (new2 _ (by simp) _ _ _) (one2 _ _ _ _) (by unfold maxLen; omega) (by omega) (by simp; omega) ?_)
        intro v2 W2 hown2 hgrow2 _
        have h2 := box_after (box_alloc _ Hv.out) (own_lt Hown.out) hgrow2
        have hc2 : W2.cell? ⟨c, 0, none⟩ = _ := cell_of_row _ _ _ _ _ _ h2
        have hf2 := frozen_of_row W2 c 0 _ _ h2
        have Hbox := hid (boxAt_put (l2 := l ++ [⟨t, n⟩]) (box_alloc _ Hv.out) (own_lt Hown.out) (by rw [cells2_snoc, List.length_append]; exact hown2) hgrow2 (by simp))
        have Hx := hid (((hx.al _).gr hgrow2 (fun k hk => by have := own_lt Hown.out k hk; omega)).se (o := 0) hc v2)
        obtain ⟨a2, c2, rfl⟩ := ownsRow_slice hown2
        clear hown2 hgrow2 h2
        go_wp2_with fail
        go_end0
        exact ⟨rfl, Hx.out, Hbox.out⟩
  · have hp : putB l t n = l := by unfold putB; rw [if_neg ht]
    rw [hp]
    obtain ⟨a2, c2, rfl⟩ := ownsRow_slice hown
    clear hp hown hnil
    go_enter Tryz.func119, Tryz.ntmps119
    go_wp2_with fail
    go_end0
    exact ⟨rfl, hx, HB.out⟩

theorem putB_len (l : List Run) (t n : Int) : (putB l t n).length ≤ l.length + 1 := by
  unfold putB
  split
  · cases h : l.getLast? with
    | none => rw [List.getLast?_eq_none_iff] at h; subst h; simp [putRun_nil]
    | some r =>
      by_cases he : r.N = n
      · rw [putRun_same h he]; omega
      · rw [putRun_new h he]; simp
  · omega

theorem hillL_put {a b n : Int} (h1 : 0 ≤ a) (h2 : a < 48) : hillL a b n = putB (putB (if 0 < a then putB [] 0 0 else []) a n) b 0 := by
  unfold hillL putB
  simp only [if_pos h2]
  rfl

theorem hill_nums {a b n : Int} (h1 : 0 ≤ a) (h2 : a < b) (h3 : b ≤ 48) (hn : I64 n) : ∀ r ∈ hillL a b n, I64 r.At ∧ I64 r.N := by
  obtain ⟨i, rfl⟩ : ∃ k : Nat, a = k := ⟨a.toNat, by omega⟩
  obtain ⟨j, rfl⟩ : ∃ k : Nat, b = k := ⟨b.toNat, by omega⟩
  rw [hillL_eq (by omega) (by omega)]
  exact fold_nums (fun t ht => by
    unfold hillT
    split
    · exact hn
    · exact I64.of (by omega) (by omega))

set_option maxHeartbeats 1000000 in
theorem Hill_any (w : World) (a b n : Int) (h1 : 0 ≤ a) (h2 : a < b) (h3 : b ≤ 48) (hn : I64 n) :
    Calls Tryz.prog 94 #[.int .i64 a, .int .i64 b, .int .i64 n] w (RetRuns w (hillL a b n)) := by
  have hb0 : BoxAt w.heap.size (w.alloc (.cells #[.slice none 0 0] 47)) [] := ⟨_, heap_alloc_new w _, World.ownsRow_nil _ _ _ _, fun _ => rfl⟩
  have Hb0 := hid hb0
  have hr := hid (hillL_put (b := b) (n := n) h1 (by omega))
  have hN := hid (hill_nums h1 h2 h3 hn)
  clear hb0
  by_cases h0 : 0 < a
  · rw [if_pos h0] at hr
    go_enter Tryz.func94, Tryz.ntmps94
    go_wp2_with fail
    refine (put_any w _ w.heap.size [] 0 0 (Nat.le_refl _) ((Ext.rf w).al _) Hb0.out (by simp)).mono ?_
    rintro e w1 ⟨rfl, hx1, hb1⟩
    have l1 := putB_len [] 0 0
    generalize hl1 : putB [] 0 0 = o1 at *
    clear hl1
    have Hb1 := hid hb1
    clear hb1
    go_wp2_with fail
    refine (put_any w _ w.heap.size o1 a n (Nat.le_refl _) hx1 Hb1.out (by simp at l1; omega)).mono ?_
    rintro e w2 ⟨rfl, hx2, hb2⟩
    have l2 := putB_len o1 a n
    generalize hl2 : putB o1 a n = o2 at *
    clear hl2
    have Hb2 := hid hb2
    clear hb2
    go_wp2_with fail
    refine (put_any w _ w.heap.size o2 b 0 (Nat.le_refl _) hx2 Hb2.out (by simp at l1; omega)).mono ?_
    rintro e w3 ⟨rfl, hx3, hb3⟩
    have l3 := putB_len o2 b 0
    rw [← hr.out] at hb3 l3
    have Hb3 := hid hb3
    obtain ⟨v, hv, hown, _⟩ := hb3
    have hcell : w3.cell? ⟨w.heap.size, 0, none⟩ = some v := by rw [cell_of_row _ _ _ _ _ _ hv]; rfl
    obtain ⟨a2, c2, rfl⟩ := ownsRow_slice hown
    have Hr := hid (sv_of_owns2 hown hN.out (by simp at l1; omega))
    clear hown hv
    go_wp2_with fail
    go_ret
    exact ⟨_, rfl, Hr.out, hx3⟩
  · rw [if_neg h0] at hr
    go_enter Tryz.func94, Tryz.ntmps94
    go_wp2_with fail
    refine (put_any w _ w.heap.size [] a n (Nat.le_refl _) ((Ext.rf w).al _) Hb0.out (by simp)).mono ?_
    rintro e w2 ⟨rfl, hx2, hb2⟩
    have l2 := putB_len [] a n
    generalize hl2 : putB [] a n = o2 at *
    clear hl2
    have Hb2 := hid hb2
    clear hb2
    go_wp2_with fail
    refine (put_any w _ w.heap.size o2 b 0 (Nat.le_refl _) hx2 Hb2.out (by simp at l2; omega)).mono ?_
    rintro e w3 ⟨rfl, hx3, hb3⟩
    have l3 := putB_len o2 b 0
    rw [← hr.out] at hb3 l3
    have Hb3 := hid hb3
    obtain ⟨v, hv, hown, _⟩ := hb3
    have hcell : w3.cell? ⟨w.heap.size, 0, none⟩ = some v := by rw [cell_of_row _ _ _ _ _ _ hv]; rfl
    obtain ⟨a2, c2, rfl⟩ := ownsRow_slice hown
    have Hr := hid (sv_of_owns2 hown hN.out (by simp at l2; omega))
    clear hown hv
    go_wp2_with fail
    go_ret
    exact ⟨_, rfl, Hr.out, hx3⟩

/-- a bump, or the error -/
@[irreducible] noncomputable def bumpR (f : List Run) (a b n : Int) : List Run × Int :=
  if Fine f then (if (0 ≤ a ∧ a < b ∧ b ≤ 48) ∧ NumOk n then toldT (fun t => sp f t + hillT a.toNat b.toNat n t) else ([], 3)) else ([], 1)

theorem bothR_hill {f : List Run} {a b n : Int} (hf : Fine f) (h1 : 0 ≤ a) (h2 : a < b) (h3 : b ≤ 48) (hn : NumOk n) : bothR f (hillL a b n) (fun x y => x + y) = bumpR f a b n := by
  have hr : bumpR f a b n = toldT (fun t => sp f t + hillT a.toNat b.toNat n t) := by unfold bumpR; rw [if_pos hf, if_pos ⟨⟨h1, h2, h3⟩, hn⟩]
  rw [hr]
  obtain ⟨i, rfl⟩ : ∃ k : Nat, a = k := ⟨a.toNat, by omega⟩
  obtain ⟨j, rfl⟩ : ∃ k : Nat, b = k := ⟨b.toNat, by omega⟩
  have he := hillL_eq (a := i) (b := j) (n := n) (by omega) (by omega)
  have hF : Fine (hillL (i : Int) j n) := by
    rw [he]
    exact fine_fold (fun t ht => by
      unfold hillT
      split
      · exact hn
      · exact ⟨by omega, by omega⟩)
  rw [bothR_yes hf hF]
  exact toldT_congr (fun t ht => by rw [he, sp_fold ht]; simp)

end Go.Proofs.YtfbcmifclaaacaaGreat
