/- runs: walks, third part -/
import Derived.Test.YtdcndkojmflhnaaDoorRunsX
import Derived.Test.YtdcndkojmflhnaaDoorRunsY
import Derived.Shelf.Abstract
import Derived.Laws.PanicsMore

/- Walks of package runs: Hill, told, Plus, Minus, Lesser, Bump, Value, Least. -/
set_option linter.unusedVariables false
namespace Go.Proofs.YtdcndkojmflhnaaDoor
open Go.RowKit

/-! the three functions -/
/-! Check, whatever comes -/
theorem Check_any (w : World) (v : Value) (f : List Run) (hv : RunsV w v f) : Calls Tryd.prog 51 #[v] w fun e w' => e = .returned (.int .i64 (chk f)) ∧ Ext w w' := by
  have nilc : ∀ (a : Option Addr) (cap : Nat), Calls Tryd.prog 51 #[.slice a 0 cap] w fun e w' => e = .returned (.int .i64 1) ∧ Ext w w' := by
    intro a cap
    go_enter Tryd.func51, Tryd.ntmps51
    go_wp2
    go_ret
    exact ⟨rfl, Ext.rf _⟩
  by_cases h0 : f.length = 0
  · have hf : f = [] := List.eq_nil_of_length_eq_zero h0
    subst hf
    have hc : chk [] = 1 := chk_no (fun h => h.1)
    rw [hc]
    obtain ⟨a, cap, rfl, _⟩ := hv.form
    exact nilc a cap
  · rcases hv with ⟨rfl, a0, c0, rfl, hc0⟩ | ⟨b, off, cap, rfl, h1, h2, h3, h4, h5⟩
    · exact absurd rfl h0
    · exact Check_some w b off cap f h1 h2 h3 h4 h5 (by omega)

/-- fine runs are no nil -/
theorem RunsV.some {w : World} {v : Value} {f : List Run} (h : RunsV w v f) (hf : Shape f) :
    ∃ b off cap, v = .slice (some ⟨b, off, none⟩) f.length cap ∧ f.length ≤ cap ∧ cap ≤ 9223372036854775807 ∧ f.length ≤ 17592186044416 ∧ b < w.heap.size ∧ ∀ k x, f[k]? = some x → ERun w b (off + k * 2) x := by
  rcases h with ⟨rfl, a0, c0, rfl, hc0⟩ | h
  · exact hf.elim
  · exact h

/-! Value, Least -/
/-- what Value comes to -/
@[irreducible] def valueR (f : List Run) (t : Int) : Int × Int := if Fine f then (if 0 ≤ t ∧ t < 48 then (sp f t.toNat, 0) else (0, 3)) else (0, 1)
@[irreducible] def leastR (f : List Run) (a b : Int) : Int × Int := if Fine f then (if 0 ≤ a ∧ a < b ∧ b ≤ 48 then (lowT (sp f) a.toNat b.toNat, 0) else (0, 3)) else (0, 1)

theorem ret_two {a b c d : Int} (h1 : a = c) (h2 : b = d) : Ending.returned (.tuple #[.int .i64 a, .int .i64 b]) = .returned (.tuple #[.int .i64 c, .int .i64 d]) := by rw [h1, h2]

end Go.Proofs.YtdcndkojmflhnaaDoor

/- Walks of the references: told, both, PlusOf, MinusOf, LesserOf, BumpOf, LeastOf, ValueOf. -/
set_option linter.unusedVariables false
namespace Go.Proofs.YtdcndkojmflhnaaDoor
open Go.RowKit

/-- a table as runs, or ErrMany -/
@[irreducible] noncomputable def toldT (x : Nat → Int) : List Run × Int := open Classical in if ∀ t, t < 48 → NumOk (x t) then (fold x, 0) else ([], 2)
theorem toldT_yes {x : Nat → Int} (h : ∀ t, t < 48 → NumOk (x t)) : toldT x = (fold x, 0) := by unfold toldT; rw [if_pos h]
theorem toldT_no {x : Nat → Int} {t : Nat} (ht : t < 48) (h : ¬ NumOk (x t)) : toldT x = ([], 2) := by unfold toldT; rw [if_neg (fun h' => h (h' t ht))]
theorem toldT_congr {x y : Nat → Int} (h : ∀ t, t < 48 → x t = y t) : toldT x = toldT y := by
  by_cases hx : ∀ t, t < 48 → NumOk (x t)
  · rw [toldT_yes hx, toldT_yes (fun t ht => by rw [← h t ht]; exact hx t ht), fold_congr h]
  · unfold toldT; rw [if_neg hx, if_neg (fun hy => hx (fun t ht => by rw [h t ht]; exact hy t ht))]

/-- runs and an error are told -/
def RetRuns2 (w : World) (r : List Run × Int) (e : Ending) (w' : World) : Prop := ∃ v, e = .returned (.tuple #[v, .int .i64 r.2]) ∧ RunsV w' v r.1 ∧ Ext w w'

theorem retRuns2_of {w w' : World} {r : List Run × Int} {l : List Run} {n : Int} {v : Value} (h : r = (l, n)) (hv : RunsV w' v l) (hx : Ext w w') : RetRuns2 w r (.returned (.tuple #[v, .int .i64 n])) w' := by
  subst h; exact ⟨v, rfl, hv, hx⟩

/-- the first t times told anew -/
def mixT (z x : Nat → Int) (t : Nat) : Nat → Int := fun s => if s < t then z s else x s
theorem mixT_zero (z x : Nat → Int) : mixT z x 0 = x := by funext s; simp [mixT]
theorem mixT_at (z x : Nat → Int) (t : Nat) : mixT z x t t = x t := by simp [mixT]
theorem mixT_step (z x : Nat → Int) (t : Nat) : upd (mixT z x t) t (z t) = mixT z x (t + 1) := by
  funext s
  unfold upd mixT
  by_cases h : s = t
  · subst h; simp
  · rw [if_neg h]
    by_cases h2 : s < t
    · rw [if_pos h2, if_pos (by omega)]
    · rw [if_neg h2, if_neg (by omega)]
theorem mixT_all (z x : Nat → Int) : ∀ t, t < 48 → mixT z x 48 t = z t := fun t h => by simp [mixT, h]

/-- two runs laid together: ErrForm ahead -/
@[irreducible] noncomputable def bothR (f g : List Run) (of : Int → Int → Int) : List Run × Int := if Fine f ∧ Fine g then toldT (fun t => of (sp f t) (sp g t)) else ([], 1)

end Go.Proofs.YtdcndkojmflhnaaDoor

/- Runs: Plus, Minus, Lesser, Hill, Bump are walked. -/

/- Walks of package runs: told, Plus, Minus, Lesser, Hill, Bump. -/
set_option linter.unusedVariables false
namespace Go.Proofs.YtdcndkojmflhnaaDoor
open Go.RowKit

/-- told's last test, plainly -/
@[irreducible] def manyR (z : Nat → Int) : Bool := (fold z).any (fun x => decide (¬ NumOk x.N))
theorem manyR_eq (z : Nat → Int) : (fold z).any (fun x => decide (¬ NumOk x.N)) = manyR z := by unfold manyR; rfl
theorem manyR_no {z : Nat → Int} (h : manyR z = false) : toldT z = (fold z, 0) := by
  rw [← manyR_eq, List.any_eq_false] at h
  exact toldT_yes (fold_fine (fun r hr => by have := h r hr; simpa using this))
theorem manyR_yes {z : Nat → Int} (h : manyR z = true) : toldT z = ([], 2) := by
  rw [← manyR_eq, List.any_eq_true] at h
  obtain ⟨r, hr, hn⟩ := h
  unfold toldT
  rw [if_neg (fun hall => (by simpa using hn : ¬ NumOk r.N) ((fine_fold hall).2 r hr))]

theorem bothR_yes {f g : List Run} {of : Int → Int → Int} (h1 : Fine f) (h2 : Fine g) : bothR f g of = toldT (fun t => of (sp f t) (sp g t)) := by unfold bothR; rw [if_pos ⟨h1, h2⟩]
theorem bothR_no {f g : List Run} {of : Int → Int → Int} (h : ¬ (Fine f ∧ Fine g)) : bothR f g of = ([], 1) := by unfold bothR; rw [if_neg h]

end Go.Proofs.YtdcndkojmflhnaaDoor

/- Walks of package runs: Hill's put, Hill, Bump. -/
set_option linter.unusedVariables false
namespace Go.Proofs.YtdcndkojmflhnaaDoor
open Go.RowKit

/-- Hill's put, plainly -/
def putB (l : List Run) (t n : Int) : List Run := if t < 48 then putRun l ⟨t, n⟩ else l

theorem ownsRow_setCell {w : World} {base e sz n c o : Nat} {v u : Value} {xs : List Value} (h : w.ownsRow base e sz v n xs) (hc : c < base) : (w.setCell ⟨c, o, none⟩ u).ownsRow base e sz v n xs := by
  obtain ⟨h1, h2⟩ := h
  refine ⟨h1, ?_⟩
  rcases h2 with h2 | ⟨g, cap, cur, hv, hb, hg, r⟩
  · exact .inl h2
  · exact .inr ⟨g, cap, cur, hv, hb, by rw [heap_setCell_other w ⟨c, o, none⟩ g u (by show g ≠ c; omega)]; exact hg, r⟩

/-- the box at c holds what has been put -/
def BoxAt (c : Nat) (w : World) (l : List Run) : Prop := ∃ v, w.heap[c]? = some (.cells #[v] 39 (0, 0)) ∧ w.ownsRow (c + 1) 48 2 v l.length (cells2 Run.At Run.N l) ∧ (l = [] → v = .slice none 0 0)

theorem BoxAt.ext {c : Nat} {w w' : World} {l : List Run} (h : BoxAt c w l) (hx : Ext w w') : BoxAt c w' l := by
  obtain ⟨v, h1, h2, h3⟩ := h
  exact ⟨v, by rw [hx.block c (Array.getElem?_eq_some_iff.1 h1).1]; exact h1, ownsRow_ext h2 hx, h3⟩

theorem boxAt_put {c : Nat} {W W2 : World} {l2 : List Run} {v u v2 : Value} (hb : W.heap[c]? = some (.cells #[u] 39 (0, 0))) (hv : ∀ k, v.ownBlock = some k → c + 1 ≤ k)
    (hown : W2.ownsRow (c + 1) 48 2 v2 l2.length (cells2 Run.At Run.N l2)) (hg : W.grownBy W2 v.ownBlock) (hne : l2 ≠ []) : BoxAt c (W2.setCell ⟨c, 0, none⟩ v2) l2 := by
  have h2 : W2.heap[c]? = some (.cells #[u] 39 (0, 0)) := by
    rw [hg.block c (Array.getElem?_eq_some_iff.1 hb).1 (fun e => by have := hv c e.symm; omega)]; exact hb
  refine ⟨v2, ?_, ownsRow_setCell hown (by omega), fun e => absurd e hne⟩
  rw [heap_setCell_same W2 c 0 _ _ _ h2]; rfl

theorem ownsRow_slice {w : World} {base e sz n : Nat} {v : Value} {xs : List Value} (h : w.ownsRow base e sz v n xs) : ∃ a cap, v = .slice a n cap := by
  obtain ⟨_, h2⟩ := h
  rcases h2 with ⟨rfl, rfl⟩ | ⟨g, cap, cur, rfl, _⟩
  · exact ⟨none, 0, rfl⟩
  · exact ⟨_, _, rfl⟩

theorem box_after {c : Nat} {W W2 : World} {v u : Value} (hb : W.heap[c]? = some (.cells #[u] 39 (0, 0))) (hv : ∀ k, v.ownBlock = some k → c + 1 ≤ k) (hg : W.grownBy W2 v.ownBlock) :
    W2.heap[c]? = some (.cells #[u] 39 (0, 0)) := by
  rw [hg.block c (Array.getElem?_eq_some_iff.1 hb).1 (fun e => by have := hv c e.symm; omega)]; exact hb

theorem box_alloc {c : Nat} {W : World} {u : Value} (o : Obj) (hb : W.heap[c]? = some (.cells #[u] 39 (0, 0))) : (W.alloc o).heap[c]? = some (.cells #[u] 39 (0, 0)) := by
  rw [((Ext.rf W).al o).block c (Array.getElem?_eq_some_iff.1 hb).1]; exact hb

theorem putB_len (l : List Run) (t n : Int) : (putB l t n).length ≤ l.length + 1 := by
  unfold putB
  split
  · cases h : l.getLast? with
    | none => rw [List.getLast?_eq_none_iff] at h; subst h; simp [putRun_nil]
    | some r =>
      by_cases he : r.N = n
      · rw [putRun_same h he]; omega
      · rw [putRun_new h he]; simp
  · omega

theorem hillL_put {a b n : Int} (h1 : 0 ≤ a) (h2 : a < 48) : hillL a b n = putB (putB (if 0 < a then putB [] 0 0 else []) a n) b 0 := by
  unfold hillL putB
  simp only [if_pos h2]
  rfl

theorem hill_nums {a b n : Int} (h1 : 0 ≤ a) (h2 : a < b) (h3 : b ≤ 48) (hn : I64 n) : ∀ r ∈ hillL a b n, I64 r.At ∧ I64 r.N := by
  obtain ⟨i, rfl⟩ : ∃ k : Nat, a = k := ⟨a.toNat, by omega⟩
  obtain ⟨j, rfl⟩ : ∃ k : Nat, b = k := ⟨b.toNat, by omega⟩
  rw [hillL_eq (by omega) (by omega)]
  exact fold_nums (fun t ht => by
    unfold hillT
    split
    · exact hn
    · exact I64.of (by omega) (by omega))

/-- a bump, or the error -/
@[irreducible] noncomputable def bumpR (f : List Run) (a b n : Int) : List Run × Int :=
  if Fine f then (if (0 ≤ a ∧ a < b ∧ b ≤ 48) ∧ NumOk n then toldT (fun t => sp f t + hillT a.toNat b.toNat n t) else ([], 3)) else ([], 1)

theorem bothR_hill {f : List Run} {a b n : Int} (hf : Fine f) (h1 : 0 ≤ a) (h2 : a < b) (h3 : b ≤ 48) (hn : NumOk n) : bothR f (hillL a b n) (fun x y => x + y) = bumpR f a b n := by
  have hr : bumpR f a b n = toldT (fun t => sp f t + hillT a.toNat b.toNat n t) := by unfold bumpR; rw [if_pos hf, if_pos ⟨⟨h1, h2, h3⟩, hn⟩]
  rw [hr]
  obtain ⟨i, rfl⟩ : ∃ k : Nat, a = k := ⟨a.toNat, by omega⟩
  obtain ⟨j, rfl⟩ : ∃ k : Nat, b = k := ⟨b.toNat, by omega⟩
  have he := hillL_eq (a := i) (b := j) (n := n) (by omega) (by omega)
  have hF : Fine (hillL (i : Int) j n) := by
    rw [he]
    exact fine_fold (fun t ht => by
      unfold hillT
      split
      · exact hn
      · exact ⟨by omega, by omega⟩)
  rw [bothR_yes hf hF]
  exact toldT_congr (fun t ht => by rw [he, sp_fold ht]; simp)

end Go.Proofs.YtdcndkojmflhnaaDoor

/- Walks of the references: PlusOf, MinusOf, LesserOf, BumpOf, ValueOf, LeastOf, SameRuns. -/
set_option linter.unusedVariables false
namespace Go.Proofs.YtdcndkojmflhnaaDoor
open Go.RowKit

theorem numI {n : Int} (h : NumOk n) : -1000000000 ≤ n ∧ n ≤ 1000000000 := ⟨by have := h.1; omega, by have := h.2; omega⟩

/-- the least so far -/
def loAt (x : Nat → Int) (a k : Nat) : Int := lo x a (k - a - 1)
theorem loAt_start (x : Nat → Int) (a : Nat) : loAt x a a = x a := by simp [loAt, lo]
theorem loAt_first (x : Nat → Int) (a : Nat) : loAt x a (a + 1) = x a := by simp [loAt, lo]
theorem loAt_step (x : Nat → Int) {a k : Nat} (h : a ≤ k) : loAt x a (k + 1) = min (loAt x a k) (x k) := by
  unfold loAt
  by_cases e : k = a
  · subst e; simp [lo]
  · rw [show k + 1 - a - 1 = (k - a - 1) + 1 by omega]
    simp only [lo]
    rw [show a + (k - a - 1) + 1 = k by omega]

theorem hillT_in {a b t : Nat} {n : Int} (h1 : a ≤ t) (h2 : t < b) : hillT a b n t = n := by unfold hillT; rw [if_pos ⟨h1, h2⟩]
theorem hillT_out {a b t : Nat} {n : Int} (h : ¬ (a ≤ t ∧ t < b)) : hillT a b n t = 0 := by unfold hillT; rw [if_neg h]
theorem mixB_start (x : Nat → Int) (a b : Nat) (n : Int) : mixT (fun t => x t + hillT a b n t) x a = x := by
  funext s; unfold mixT
  by_cases h : s < a
  · rw [if_pos h]; show x s + hillT a b n s = x s; rw [hillT_out (by omega)]; omega
  · rw [if_neg h]
theorem mixB_end (x : Nat → Int) (a b : Nat) (n : Int) : mixT (fun t => x t + hillT a b n t) x b = fun t => x t + hillT a b n t := by
  funext s; unfold mixT
  by_cases h : s < b
  · rw [if_pos h]
  · rw [if_neg h, hillT_out (by omega)]; omega

theorem same_some (w : World) (fb fo fc gb go gc : Nat) (f g : List Run) (hl : f.length = g.length) (hf : ∀ k x, f[k]? = some x → ERun w fb (fo + k * 2) x) (hg : ∀ k x, g[k]? = some x → ERun w gb (go + k * 2) x) (hn : f.length ≤ 17592186044416) :
    Calls Tryd.prog 29 #[.slice (some ⟨fb, fo, none⟩) f.length fc, .slice (some ⟨gb, go, none⟩) g.length gc] w fun e w' => e = .returned (.bool (decide (f = g))) ∧ Ext w w' := by
  have HF := hid hf
  have HG := hid hg
  have Hl := hid hl
  clear hf hg
  generalize hm : g.length = m at *
  generalize hk : f.length = n at *
  have Hn := hid hk
  have Hm := hid hm
  subst hl
  clear hk hm
  go_enter Tryd.func29, Tryd.ntmps29
  go_wp2_with fail
  go_loopw [5] (fun c wr => ∃ k : Nat, c = .int .i64 k ∧ k ≤ n ∧ Hid (∀ j, j < k → f[j]? = g[j]?) ∧ Ext w wr) (fun c _ => n - (intOf c).toNat)
  case atStart => exact ⟨0, rfl, by omega, fun j hj => absurd hj (Nat.not_lt_zero _), Ext.rf w⟩
  case round =>
    obtain ⟨k, rfl, hk, He, hx⟩ := hrel
    by_cases hlt : k < n
    · have hlt' : (k : Int) < (n : Int) := by omega
      obtain ⟨x, hxk⟩ := getE (f := f) (k := k) (by rw [Hn.out]; exact hlt)
      obtain ⟨y, hyk⟩ := getE (f := g) (k := k) (by rw [Hm.out]; exact hlt)
      obtain ⟨c1, c2, c3, c4⟩ := HF.out k x hxk
      obtain ⟨d1, d2, d3, d4⟩ := HG.out k y hyk
      replace c1 := hx.ce' c1
      replace c2 := hx.ce' c2
      replace d1 := hx.ce' d1
      replace d2 := hx.ce' d2
      by_cases ha : x.At = y.At
      · by_cases hb : x.N = y.N
        · have h1 := eqT ha
          have h2 := eqT hb
          have he : x = y := by cases x; cases y; simp_all
          have Hxy := hid (hxk.trans ((congrArg some he).trans hyk.symm))
          clear he hxk hyk ha hb
          go_wp2_with fail
          go_quiet (fail)
          go_wp2_with fail
          go_roundw
          case rel => exact ⟨k + 1, by go_num, by omega, hid (fun j hj => if e : j = k then e ▸ Hxy.out else He.out j (by omega)), hx.dn _⟩
          case measure => simp [intOf]; omega
        · have h1 := eqT ha
          have h2 := eqF hb
          have hfg : f ≠ g := fun h => hb (congrArg Run.N (Option.some.inj (hxk.symm.trans (h ▸ hyk))))
          have Hfg := hid (deF hfg)
          clear hxk hyk ha hb hfg
          go_wp2_with fail
          go_quiet (fail)
          go_wp2_with fail
          go_ret
          exact ⟨(congrArg (fun b => Ending.returned (.bool b)) Hfg.out).symm, hx.dn _⟩
      · have h1 := eqF ha
        have hfg : f ≠ g := fun h => ha (congrArg Run.At (Option.some.inj (hxk.symm.trans (h ▸ hyk))))
        have Hfg := hid (deF hfg)
        clear hxk hyk ha hfg
        go_wp2_with fail
        go_quiet (fail)
        go_wp2_with fail
        go_ret
        exact ⟨(congrArg (fun b => Ending.returned (.bool b)) Hfg.out).symm, hx.dn _⟩
    · have hlt' : ¬ (k : Int) < (n : Int) := by omega
      obtain rfl : k = n := by omega
      have hfg : f = g := by
        apply List.ext_getElem?
        intro j
        by_cases hj : j < k
        · exact He.out j hj
        · rw [List.getElem?_eq_none (by rw [Hn.out]; omega), List.getElem?_eq_none (by rw [Hm.out]; omega)]
      have Hr := hid (deT hfg)
      go_wp2_with fail
      go_ret
      exact ⟨rfl, hx⟩

theorem SameRuns_any (w : World) (vf vg : Value) (f g : List Run) (hf : RunsV w vf f) (hg : RunsV w vg g) :
    Calls Tryd.prog 29 #[vf, vg] w fun e w' => e = .returned (.bool (decide (f = g))) ∧ Ext w w' := by
  have nilc : ∀ (a b : Option Addr) (c d : Nat), Calls Tryd.prog 29 #[.slice a 0 c, .slice b 0 d] w fun e w' => e = .returned (.bool true) ∧ Ext w w' := by
    intro a b c d
    go_enter Tryd.func29, Tryd.ntmps29
    go_wp2_with fail
    go_loopw [5] (fun c wr => c = .int .i64 0 ∧ Ext w wr) (fun c _ => 0)
    case atStart => exact ⟨rfl, Ext.rf w⟩
    case round =>
      obtain ⟨rfl, hx⟩ := hrel
      go_wp2_with fail
      go_ret
      exact ⟨rfl, hx⟩
  have neqc : ∀ (a b : Option Addr) (n m c d : Nat), n ≠ m → Calls Tryd.prog 29 #[.slice a n c, .slice b m d] w fun e w' => e = .returned (.bool false) ∧ Ext w w' := by
    intro a b n m c d h
    have h' := neT (a := (n : Int)) (b := (m : Int)) (by omega)
    go_enter Tryd.func29, Tryd.ntmps29
    go_wp2_with fail
    go_ret
    exact ⟨rfl, Ext.rf w⟩
  by_cases hl : f.length = g.length
  · by_cases h0 : f.length = 0
    · have e1 : f = [] := List.eq_nil_of_length_eq_zero h0
      have e2 : g = [] := List.eq_nil_of_length_eq_zero (by omega)
      subst e1; subst e2
      obtain ⟨a, c, rfl, _⟩ := hf.form
      obtain ⟨b, d, rfl, _⟩ := hg.form
      rw [deT rfl]
      exact nilc a b c d
    · rcases hf with ⟨rfl, a0, c0, rfl, hc0⟩ | ⟨fb, fo, fc, rfl, f1, f2, f3, f4, f5⟩
      · exact absurd rfl h0
      · rcases hg with ⟨rfl, a0, c0, rfl, hc0⟩ | ⟨gb, go, gc, rfl, g1, g2, g3, g4, g5⟩
        · exact absurd hl h0
        · exact same_some w fb fo fc gb go gc f g hl f5 g5 f3
  · rw [deF (fun h => hl (by rw [h]))]
    obtain ⟨a, c, rfl, _⟩ := hf.form
    obtain ⟨b, d, rfl, _⟩ := hg.form
    exact neqc a b _ _ c d hl

end Go.Proofs.YtdcndkojmflhnaaDoor
