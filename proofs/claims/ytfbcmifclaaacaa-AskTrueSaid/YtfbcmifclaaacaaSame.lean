/- Walks of the references: SameInts, SameBools, SameBites. -/
import Derived.Test.YtfbcmifclaaacaaRefD
set_option linter.unusedVariables false
namespace Go.Proofs.Ytfbcmifclaaacaa
open Go.RowKit

theorem getA {α : Type} {f : List α} {k : Nat} (h : k < f.length) : ∃ x, f[k]? = some x := ⟨_, List.getElem?_eq_getElem h⟩
theorem beF {x y : Bool} (h : ¬ x = y) : (x != y) = true := bne_iff_ne.2 h
theorem beT {x y : Bool} (h : x = y) : (x != y) = false := by subst h; simp

theorem sameBites_some (w : World) (fb fo fc gb go gc : Nat) (f g : List Bite) (hl : f.length = g.length) (hf : ∀ k x, f[k]? = some x → EBite w fb (fo + k * 2) x) (hg : ∀ k x, g[k]? = some x → EBite w gb (go + k * 2) x) (hn : f.length ≤ 17592186044416) :
    Calls Try.prog 51 #[.slice (some ⟨fb, fo, none⟩) f.length fc, .slice (some ⟨gb, go, none⟩) g.length gc] w fun e w' => e = .returned (.bool (decide (f = g))) ∧ Ext w w' := by
  have HF := hid hf
  have HG := hid hg
  have Hl := hid hl
  clear hf hg
  generalize hm : g.length = m at *
  generalize hk : f.length = n at *
  have Hn := hid hk
  have Hm := hid hm
  subst hl
  clear hk hm
  go_enter Try.func51, Try.ntmps51
  go_wp2_with fail
  go_loopw [5] (fun c wr => ∃ k : Nat, c = .int .i64 k ∧ k ≤ n ∧ Hid (∀ j, j < k → f[j]? = g[j]?) ∧ Ext w wr) (fun c _ => n - (intOf c).toNat)
  case atStart => exact ⟨0, rfl, by omega, fun j hj => absurd hj (Nat.not_lt_zero _), Ext.rf w⟩
  case round =>
    obtain ⟨k, rfl, hk, He, hx⟩ := hrel
    by_cases hlt : k < n
    · have hlt' : (k : Int) < (n : Int) := by omega
      obtain ⟨x, hxk⟩ := getA (f := f) (k := k) (by rw [Hn.out]; exact hlt)
      obtain ⟨y, hyk⟩ := getA (f := g) (k := k) (by rw [Hm.out]; exact hlt)
      obtain ⟨c1, c2, c3, c4⟩ := HF.out k x hxk
      obtain ⟨d1, d2, d3, d4⟩ := HG.out k y hyk
      replace c1 := hx.ce' c1
      replace c2 := hx.ce' c2
      replace d1 := hx.ce' d1
      replace d2 := hx.ce' d2
      by_cases ha : x.Piece = y.Piece
      · by_cases hb : x.At = y.At
        · have h1 := eqT ha
          have h2 := eqT hb
          have he : x = y := by cases x; cases y; simp_all
          have Hxy := hid (hxk.trans ((congrArg some he).trans hyk.symm))
          clear he hxk hyk ha hb
          go_wp2_with fail
          go_quiet (fail)
          go_wp2_with fail
          go_roundw
          case rel => exact ⟨k + 1, by go_num, by omega, hid (fun j hj => if e : j = k then e ▸ Hxy.out else He.out j (by omega)), hx.dn _⟩
          case measure => simp [intOf]; omega
        · have h1 := eqT ha
          have h2 := eqF hb
          have hfg : f ≠ g := fun h => hb (congrArg Bite.At (Option.some.inj (hxk.symm.trans (h ▸ hyk))))
          have Hfg := hid (deF hfg)
          clear hxk hyk ha hb hfg
          go_wp2_with fail
          go_quiet (fail)
          go_wp2_with fail
          go_ret
          exact ⟨(congrArg (fun b => Ending.returned (.bool b)) Hfg.out).symm, hx.dn _⟩
      · have h1 := eqF ha
        have hfg : f ≠ g := fun h => ha (congrArg Bite.Piece (Option.some.inj (hxk.symm.trans (h ▸ hyk))))
        have Hfg := hid (deF hfg)
        clear hxk hyk ha hfg
        go_wp2_with fail
        go_quiet (fail)
        go_wp2_with fail
        go_ret
        exact ⟨(congrArg (fun b => Ending.returned (.bool b)) Hfg.out).symm, hx.dn _⟩
    · have hlt' : ¬ (k : Int) < (n : Int) := by omega
      obtain rfl : k = n := by omega
      have hfg : f = g := by
        apply List.ext_getElem?
        intro j
        by_cases hj : j < k
        · exact He.out j hj
        · rw [List.getElem?_eq_none (by rw [Hn.out]; omega), List.getElem?_eq_none (by rw [Hm.out]; omega)]
      have Hr := hid (deT hfg)
      go_wp2_with fail
      go_ret
      exact ⟨rfl, hx⟩

theorem SameBites_any (w : World) (vf vg : Value) (f g : List Bite) (hf : BitesV w vf f) (hg : BitesV w vg g) :
    Calls Try.prog 51 #[vf, vg] w fun e w' => e = .returned (.bool (decide (f = g))) ∧ Ext w w' := by
  have nilc : ∀ (a b : Option Addr) (c d : Nat), Calls Try.prog 51 #[.slice a 0 c, .slice b 0 d] w fun e w' => e = .returned (.bool true) ∧ Ext w w' := by
    intro a b c d
    go_enter Try.func51, Try.ntmps51
    go_wp2_with fail
    go_loopw [5] (fun c wr => c = .int .i64 0 ∧ Ext w wr) (fun c _ => 0)
    case atStart => exact ⟨rfl, Ext.rf w⟩
    case round =>
      obtain ⟨rfl, hx⟩ := hrel
      go_wp2_with fail
      go_ret
      exact ⟨rfl, hx⟩
  have neqc : ∀ (a b : Option Addr) (n m c d : Nat), n ≠ m → Calls Try.prog 51 #[.slice a n c, .slice b m d] w fun e w' => e = .returned (.bool false) ∧ Ext w w' := by
    intro a b n m c d h
    have h' := neT (a := (n : Int)) (b := (m : Int)) (by omega)
    go_enter Try.func51, Try.ntmps51
    go_wp2_with fail
    go_ret
    exact ⟨rfl, Ext.rf w⟩
  by_cases hl : f.length = g.length
  · by_cases h0 : f.length = 0
    · have e1 : f = [] := List.eq_nil_of_length_eq_zero h0
      have e2 : g = [] := List.eq_nil_of_length_eq_zero (by omega)
      subst e1; subst e2
      obtain ⟨a, c, rfl, _⟩ := hf.form
      obtain ⟨b, d, rfl, _⟩ := hg.form
      rw [deT rfl]
      exact nilc a b c d
    · rcases hf with ⟨rfl, a0, c0, rfl, hc0⟩ | ⟨fb, fo, fc, rfl, f1, f2, f3, f4, f5⟩
      · exact absurd rfl h0
      · rcases hg with ⟨rfl, a0, c0, rfl, hc0⟩ | ⟨gb, go, gc, rfl, g1, g2, g3, g4, g5⟩
        · exact absurd hl h0
        · exact sameBites_some w fb fo fc gb go gc f g hl f5 g5 f3
  · rw [deF (fun h => hl (by rw [h]))]
    obtain ⟨a, c, rfl, _⟩ := hf.form
    obtain ⟨b, d, rfl, _⟩ := hg.form
    exact neqc a b _ _ c d hl


end Go.Proofs.Ytfbcmifclaaacaa
