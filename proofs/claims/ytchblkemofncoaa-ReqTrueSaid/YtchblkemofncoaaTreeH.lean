/- Walk of the reference's CheckTree. -/
import Derived.Test.YtchblkemofncoaaTreeG
set_option linter.unusedVariables false
namespace Go.Proofs.Ytchblkemofncoaa
open Go.RowKit

theorem nameT {x y : ByteArray} (h : x = y) : (x.toList == y.toList) = true := by rw [h]; simp
theorem nameF {x y : ByteArray} (h : ¬ x = y) : (x.toList == y.toList) = false := by
  rw [beq_eq_false_iff_ne]
  intro e
  rw [ByteArray.toList_eq, ByteArray.toList_eq] at e
  exact h (by cases x; cases y; simp at e; simp [e])

theorem below_snoc {p : Nat → Bool} {k : Nat} (h : ∀ j, j < k → p j = false) (hk : p k = false) : ∀ j, j < k + 1 → p j = false := fun j hj => if e : j = k then e ▸ hk else h j (by omega)

theorem p3_true {l : List Queue} {i k : Nat} (h : i < k) (e : nm l i = nm l k) : p3 l k = true := by
  unfold p3; exact decide_eq_true ((cntQ_pos l _ k).2 ⟨i, h, e⟩)
theorem p3_false {l : List Queue} {k : Nat} (h : ∀ i, i < k → nm l i ≠ nm l k) : p3 l k = false := by
  unfold p3; exact decide_eq_false (fun h' => by obtain ⟨j, h1, h2⟩ := (cntQ_pos l _ k).1 h'; exact h j h1 h2)

set_option maxRecDepth 100000 in
set_option maxHeartbeats 4000000 in
theorem checkTree_some (w : World) (b off cap : Nat) (l : List Queue) (h1 : l.length ≤ cap) (hl : l.length ≤ 5) (h0 : 1 ≤ l.length) (hb : b < w.heap.size) (hE : ∀ k x, l[k]? = some x → EQueue w b (off + k * 3) x) :
    Calls Try.prog 22 #[.slice (some ⟨b, off, none⟩) l.length cap] w fun e w' => e = .returned (.int .i64 (checkT l)) ∧ Ext w w' := by
  have HE := hid hE
  have W1 := hid (fun (W : World) => within_yes (l.length : Int) 1 5 W (by omega) (by omega))
  have hck : checkT l = if (List.range l.length).any (p2 l) then 4 else if (List.range l.length).any (p3 l) then 5 else if (List.range l.length).any (p4 l) then 3 else if (List.range l.length).any (p5 l) then 1 else 0 := by
    unfold checkT; rw [if_neg (by omega)]
  have Hck := hid hck
  clear hck hE
  generalize hn : l.length = n at *
  have Hn := hid hn
  clear hn
  go_enter Try.func22, Try.ntmps22
  go_wp2_with fail
  refine (W1.out _).mono ?_
  rintro e w1 ⟨rfl, rfl⟩
  go_wp2_with fail
  go_loopw [3] (fun c wr => ∃ k : Nat, c = .int .i64 k ∧ k ≤ n ∧ Hid (∀ j, j < k → p2 l j = false) ∧ Ext w1 wr) (fun c _ => n - (intOf c).toNat)
  case atStart => exact ⟨0, rfl, by omega, fun j hj => absurd hj (Nat.not_lt_zero _), Ext.rf _⟩
  case round =>
    obtain ⟨k, rfl, hk, Hall, hx⟩ := hrel
    by_cases hlt : k < n
    · have hlt' : (k : Int) < (n : Int) := by omega
      obtain ⟨x, hxk⟩ := getQ (l := l) (k := k) (by rw [Hn.out]; exact hlt)
      obtain ⟨c1, c2, c3, c4, v, c5, hv⟩ := EQueue.mono w1 wr b _ x hx (HE.out k x hxk)
      obtain ⟨e1, e2, e3⟩ := at_some hxk
      have C := hid (fun (W : World) => IsName_any W x.Name c2)
      by_cases hnm : NameOk x.Name
      · rw [deT hnm] at C
        have Hs := hid (below_snoc Hall.out (show p2 l k = false from by unfold p2; rw [e1]; exact decide_eq_false (fun h => h hnm)))
        clear hnm hv e1 e2 e3 hxk Hall
        go_wp2_with fail
        refine (C.out _).mono ?_
        rintro e w2 ⟨rfl, hx2⟩
        go_wp2_with fail
        go_roundw
        case rel => exact ⟨k + 1, by go_num, by omega, Hs, hx.tr hx2⟩
        case measure => simp [intOf]; omega
      · rw [deF hnm] at C
        have Hr := hid (show checkT l = 4 from by rw [Hck.out, if_pos (any_of ⟨k, hlt, by unfold p2; rw [e1]; exact decide_eq_true hnm⟩)])
        clear hnm hv e1 e2 e3 hxk Hall
        go_wp2_with fail
        refine (C.out _).mono ?_
        rintro e w2 ⟨rfl, hx2⟩
        go_wp2_with fail
        go_ret
        exact ⟨ret_int Hr.out.symm, hx.tr hx2⟩
    · have hlt' : ¬ (k : Int) < (n : Int) := by omega
      obtain rfl : k = n := by omega
      have Hck2 := hid (show checkT l = if (List.range k).any (p3 l) then 5 else if (List.range k).any (p4 l) then 3 else if (List.range k).any (p5 l) then 1 else 0 from by rw [Hck.out, if_neg (by rw [any_not Hall.out]; decide)])
      clear Hck Hall
      have hkk : (1 : Nat) ≤ k := h0
      go_wp2_with fail
      go_loopw [4] (fun c wr => ∃ m : Nat, c = .int .i64 m ∧ m ≤ k ∧ Hid (∀ j, j < m → p3 l j = false) ∧ Ext w1 wr) (fun c _ => k - (intOf c).toNat)
      case atStart => exact ⟨0, rfl, by omega, fun j hj => absurd hj (Nat.not_lt_zero _), hx⟩
      case round =>
        obtain ⟨m, rfl, hm, Hall, hx⟩ := hrel
        by_cases hlt : m < k
        · have hlt' : (m : Int) < (k : Int) := by omega
          obtain ⟨x, hxk⟩ := getQ (l := l) (k := m) (by rw [Hn.out]; exact hlt)
          have Hxk := hid hxk
          clear hxk
          go_wp2_with fail
          go_loopw [5] (fun c wr => ∃ i : Nat, c = .int .i64 i ∧ i ≤ m ∧ Hid (∀ j, j < i → nm l j ≠ nm l m) ∧ Ext w1 wr) (fun c _ => m - (intOf c).toNat)
          case atStart => exact ⟨0, rfl, by omega, fun j hj => absurd hj (Nat.not_lt_zero _), hx⟩
          case round =>
            obtain ⟨i, rfl, hi, HallI, hx⟩ := hrel
            by_cases hlti : i < m
            · have hlti' : (i : Int) < (m : Int) := by omega
              obtain ⟨y, hyk⟩ := getQ (l := l) (k := i) (by rw [Hn.out]; omega)
              obtain ⟨c1, _⟩ := EQueue.mono w1 wr b _ x hx (HE.out m x Hxk.out)
              obtain ⟨d1, _⟩ := EQueue.mono w1 wr b _ y hx (HE.out i y hyk)
              obtain ⟨e1, _, _⟩ := at_some Hxk.out
              obtain ⟨f1, _, _⟩ := at_some hyk
              by_cases heq : y.Name = x.Name
              · have hbe := nameT heq
                have Hr := hid (show checkT l = 5 from by rw [Hck2.out, if_pos (any_of ⟨m, hlt, p3_true hlti (by rw [e1, f1, heq])⟩)])
                clear heq e1 f1 hyk HallI Hall
                go_wp2_with fail
                go_quiet (fail)
                go_wp2_with fail
                go_ret
                exact ⟨ret_int Hr.out.symm, hx.dn _⟩
              · have hbe := nameF heq
                have Hs := hid (show ∀ j, j < i + 1 → nm l j ≠ nm l m from fun j hj => if e : j = i then by rw [e, f1, e1]; exact heq else HallI.out j (by omega))
                clear heq e1 f1 hyk HallI
                go_wp2_with fail
                go_quiet (fail)
                go_wp2_with fail
                go_roundw
                case rel => exact ⟨i + 1, by go_num, by omega, Hs, hx.dn _⟩
                case measure => simp [intOf]; omega
            · have hlti' : ¬ (i : Int) < (m : Int) := by omega
              obtain rfl : i = m := by omega
              have Hs := hid (below_snoc Hall.out (p3_false HallI.out))
              clear HallI Hall
              go_wp2_with fail
              go_roundw
              case rel => exact ⟨i + 1, by go_num, by omega, Hs, hx⟩
              case measure => simp [intOf]; omega
        · have hlt' : ¬ (m : Int) < (k : Int) := by omega
          obtain rfl : m = k := by omega
          have Hck3 := hid (show checkT l = if (List.range m).any (p4 l) then 3 else if (List.range m).any (p5 l) then 1 else 0 from by rw [Hck2.out, if_neg (by rw [any_not Hall.out]; decide)])
          clear Hck2 Hall
          go_wp2_with fail
          go_loopw [6] (fun c wr => ∃ i : Nat, c = .int .i64 i ∧ i ≤ m ∧ Hid (∀ j, j < i → p4 l j = false) ∧ Ext w1 wr) (fun c _ => m - (intOf c).toNat)
          case atStart => exact ⟨0, rfl, by omega, fun j hj => absurd hj (Nat.not_lt_zero _), hx⟩
          case round =>
            obtain ⟨i, rfl, hi, Hall, hx⟩ := hrel
            by_cases hlti : i < m
            · have hlti' : (i : Int) < (m : Int) := by omega
              obtain ⟨y, hyk⟩ := getQ (l := l) (k := i) (by rw [Hn.out]; omega)
              obtain ⟨_, _, d3, d4, _⟩ := EQueue.mono w1 wr b _ y hx (HE.out i y hyk)
              obtain ⟨_, f1, _⟩ := at_some hyk
              by_cases hpo : ParOk y.Parent i
              · have C := hid (fun (W : World) => within_yes y.Parent (-1) ((i : Int) - 1) W hpo.1 (by have := hpo.2; omega))
                have Hs := hid (below_snoc Hall.out (show p4 l i = false from by unfold p4; rw [f1, deT hpo]; rfl))
                clear hpo f1 hyk Hall
                go_wp2_with fail
                refine (C.out _).mono ?_
                rintro e w5 ⟨rfl, rfl⟩
                go_wp2_with fail
                go_roundw
                case rel => exact ⟨i + 1, by go_num, by omega, Hs, hx⟩
                case measure => simp [intOf]; omega
              · have C := hid (fun (W : World) => within_no y.Parent (-1) ((i : Int) - 1) W (fun h => hpo ⟨h.1, by have := h.2; omega⟩))
                have Hr := hid (show checkT l = 3 from by rw [Hck3.out, if_pos (any_of ⟨i, hlti, by unfold p4; rw [f1, deF hpo]; rfl⟩)])
                clear hpo f1 hyk Hall
                go_wp2_with fail
                refine (C.out _).mono ?_
                rintro e w5 ⟨rfl, rfl⟩
                go_wp2_with fail
                go_ret
                exact ⟨ret_int Hr.out.symm, hx⟩
            · have hlti' : ¬ (i : Int) < (m : Int) := by omega
              obtain rfl : i = m := by omega
              have Hck4 := hid (show checkT l = if (List.range i).any (p5 l) then 1 else 0 from by rw [Hck3.out, if_neg (by rw [any_not Hall.out]; decide)])
              clear Hck3 Hall
              go_wp2_with fail
              go_loopw [7] (fun c wr => ∃ j : Nat, c = .int .i64 j ∧ j ≤ i ∧ Hid (∀ r, r < j → p5 l r = false) ∧ Ext w1 wr) (fun c _ => i - (intOf c).toNat)
              case atStart => exact ⟨0, rfl, by omega, fun j hj => absurd hj (Nat.not_lt_zero _), hx⟩
              case round =>
                obtain ⟨j, rfl, hj, Hall, hx⟩ := hrel
                by_cases hltj : j < i
                · have hltj' : (j : Int) < (i : Int) := by omega
                  obtain ⟨y, hyk⟩ := getQ (l := l) (k := j) (by rw [Hn.out]; omega)
                  obtain ⟨_, _, _, _, v, d5, hv⟩ := EQueue.mono w1 wr b _ y hx (HE.out j y hyk)
                  obtain ⟨_, _, f1⟩ := at_some hyk
                  have C := hid (fun (W : World) (h : Ext wr W) => CapFine_any W v y.Cap (hv.mono h))
                  obtain ⟨va, vc, rfl, _⟩ := hv.form
                  by_cases hpo : CapOk y.Cap
                  · rw [deT hpo] at C
                    have Hs := hid (below_snoc Hall.out (show p5 l j = false from by unfold p5; rw [f1]; exact decide_eq_false (fun h => h hpo)))
                    clear hpo f1 hyk Hall hv
                    generalize y.Cap.length = cn at *
                    go_wp2_with fail
                    refine (C.out _ (Ext.rf _)).mono ?_
                    rintro e w6 ⟨rfl, hx6⟩
                    go_wp2_with fail
                    go_roundw
                    case rel => exact ⟨j + 1, by go_num, by omega, Hs, hx.tr hx6⟩
                    case measure => simp [intOf]; omega
                  · rw [deF hpo] at C
                    have Hr := hid (show checkT l = 1 from by rw [Hck4.out, if_pos (any_of ⟨j, hltj, by unfold p5; rw [f1]; exact decide_eq_true hpo⟩)])
                    clear hpo f1 hyk Hall hv
                    generalize y.Cap.length = cn at *
                    go_wp2_with fail
                    refine (C.out _ (Ext.rf _)).mono ?_
                    rintro e w6 ⟨rfl, hx6⟩
                    go_wp2_with fail
                    go_ret
                    exact ⟨ret_int Hr.out.symm, hx.tr hx6⟩
                · have hltj' : ¬ (j : Int) < (i : Int) := by omega
                  obtain rfl : j = i := by omega
                  have Hr := hid (show checkT l = 0 from by rw [Hck4.out, if_neg (by rw [any_not Hall.out]; decide)])
                  clear Hck4 Hall
                  go_wp2_with fail
                  go_ret
                  exact ⟨ret_int Hr.out.symm, hx⟩

theorem CheckTree_any (w : World) (v : Value) (l : List Queue) (hv : QueuesV w v l) :
    Calls Try.prog 22 #[v] w fun e w' => e = .returned (.int .i64 (checkT l)) ∧ Ext w w' := by
  by_cases h : 1 ≤ l.length ∧ l.length ≤ 5
  · rcases hv with ⟨rfl, a0, c0, rfl, hc0⟩ | ⟨b, off, cap, rfl, h1, h2, h3, h4, h5⟩
    · exact absurd h.1 (by simp)
    · exact checkTree_some w b off cap l h1 h.2 h.1 h4 h5
  · have hr : checkT l = 2 := by unfold checkT; rw [if_pos h]
    rw [hr]
    have W1 := hid (within_no (l.length : Int) 1 5 w (by omega))
    obtain ⟨a, cap, rfl, _, _, _⟩ := hv.form
    clear hv hr h
    generalize l.length = n at *
    go_enter Try.func22, Try.ntmps22
    go_wp2_with fail
    refine W1.out.mono ?_
    rintro e w1 ⟨rfl, rfl⟩
    go_wp2_with fail
    go_ret
    exact ⟨rfl, Ext.rf _⟩

end Go.Proofs.Ytchblkemofncoaa
