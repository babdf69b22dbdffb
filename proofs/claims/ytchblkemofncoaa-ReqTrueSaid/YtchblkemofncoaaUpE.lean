/- Walks: the reference's beneath, UnderOf; tree.Under. -/
import Derived.Test.YtchblkemofncoaaUpD
import Derived.Test.YtchblkemofncoaaRow
set_option linter.unusedVariables false
namespace Go.Proofs.Ytchblkemofncoaa
open Go.RowKit

set_option maxHeartbeats 1000000 in
theorem beneath_any (w : World) (v : Value) (l : List Queue) (k q : Int) (hv : QueuesV w v l) (hp : ParsOk l) (h5 : l.length ≤ 5) (hk1 : 0 ≤ k) (hk2 : k < l.length) :
    Calls Try.prog 64 #[v, .int .i64 k, .int .i64 q] w fun e w' => e = .returned (.bool (under l k q)) ∧ Ext w w' := by
  have C := hid (LineOf_own w v l k hv hp h5 hk1 hk2)
  obtain ⟨a, cap, rfl, _, _, hl⟩ := hv.form
  clear hv
  generalize l.length = n at *
  go_enter Try.func64, Try.ntmps64
  go_wp2_with fail
  refine C.out.mono ?_
  rintro e w1 ⟨v, rfl, hv, hx1⟩
  rcases hv with ⟨he, a0, c0, rfl, hc0⟩ | ⟨b, off, cap, rfl, h1, h2, h3, h4, hE⟩
  · have Hr := hid (show under l k q = false from by unfold under; rw [he]; rfl)
    clear he
    go_wp2_with fail
    go_loopw [8] (fun c wr => c = .int .i64 0 ∧ wr = w1) (fun _ _ => 0)
    case atStart => exact ⟨rfl, rfl⟩
    case round =>
      obtain ⟨rfl, rfl⟩ := hrel
      go_wp2_with fail
      go_ret
      exact ⟨ret_bool Hr.out.symm, hx1⟩
  · obtain ⟨m, hm⟩ : ∃ m, ((lineL l k).map fun j : Nat => (j : Int)) = m := ⟨_, rfl⟩
    rw [hm] at h1 h3 hE ⊢
    have Hu := hid (show under l k q = m.contains q from by unfold under; rw [hm])
    have HE := hid hE
    clear hE hm
    generalize hn : m.length = z at *
    have Hn := hid hn
    clear hn
    go_wp2_with fail
    go_loopw [8] (fun c wr => ∃ i : Nat, c = .int .i64 i ∧ i ≤ z ∧ Hid (∀ j x, j < i → m[j]? = some x → x ≠ q) ∧ wr = w1) (fun c _ => z - (intOf c).toNat)
    case atStart => exact ⟨0, rfl, by omega, fun j x hj => absurd hj (Nat.not_lt_zero _), rfl⟩
    case round =>
      obtain ⟨i, rfl, hi, Hall, rfl⟩ := hrel
      by_cases hlt : i < z
      · have hlt' : (i : Int) < (z : Int) := by omega
        obtain ⟨x, hxk⟩ := getA (f := m) (k := i) (by rw [Hn.out]; exact hlt)
        have c1 := (HE.out i x hxk).1
        rw [Nat.mul_one] at c1
        by_cases hxq : x = q
        · have ht := eqT hxq
          have Hr := hid (show under l k q = true from by rw [Hu.out, List.contains_iff_mem, ← hxq]; exact List.mem_of_getElem? hxk)
          clear hxq hxk
          go_wp2_with fail
          go_ret
          exact ⟨ret_bool Hr.out.symm, hx1⟩
        · have ht := eqF hxq
          have Hs := hid (show ∀ j y, j < i + 1 → m[j]? = some y → y ≠ q from fun j y hj hy => by
            by_cases e : j = i
            · subst e; rw [hxk] at hy; rw [← Option.some.inj hy]; exact hxq
            · exact Hall.out j y (by omega) hy)
          clear hxq hxk Hall
          go_wp2_with fail
          go_roundw
          case rel => exact ⟨i + 1, by go_num, by omega, Hs, trivial⟩
          case measure => simp [intOf]; omega
      · have hlt' : ¬ (i : Int) < (z : Int) := by omega
        obtain rfl : i = z := by omega
        have Hr := hid (show under l k q = false from by
          rw [Hu.out, Bool.eq_false_iff]
          intro h
          obtain ⟨j, hj, hx⟩ := List.getElem_of_mem (List.contains_iff_mem.1 h)
          exact Hall.out j q (by rw [← Hn.out]; exact hj) (by rw [List.getElem?_eq_getElem hj, hx]) rfl)
        clear Hall
        go_wp2_with fail
        go_ret
        exact ⟨ret_bool Hr.out.symm, hx1⟩

/-- who is under q: the first k of n are told -/
def vecB (l : List Queue) (q : Int) (n k : Nat) : List Value := (List.range n).map fun j => Value.bool (decide (j < k) && under l j q)
theorem vecB_zero (l : List Queue) (q : Int) (n : Nat) : vecB l q n 0 = List.replicate n (.bool false) := by
  apply List.ext_getElem?
  intro j
  by_cases h : j < n
  · simp [vecB, h]
  · simp [vecB, h]
theorem vecB_step (l : List Queue) (q : Int) {n k : Nat} (hk : k < n) : (vecB l q n k).set k (.bool (under l k q)) = vecB l q n (k + 1) := by
  apply List.ext_getElem?
  intro j
  by_cases h : j < n
  · by_cases e : j = k
    · subst e
      simp [vecB, h]
    · rw [List.getElem?_set_ne (fun h => e h.symm)]
      have e2 : (decide (j < k + 1)) = decide (j < k) := by simp; omega
      simp [vecB, h, e2]
  · rw [List.getElem?_eq_none (by simp [vecB]; omega), List.getElem?_eq_none (by simp [vecB]; omega)]
theorem vecB_at (l : List Queue) (q : Int) {n k : Nat} (hk : k < n) : ∃ v, (vecB l q n k)[k]? = some v := getA (by simpa [vecB] using hk)

/-- who is under q -/
def underL (l : List Queue) (q : Int) : List Bool := (List.range l.length).map fun j : Nat => under l j q

theorem underL_v {w : World} {B : Nat} {l : List Queue} {q : Int} (h5 : l.length ≤ 5) (h : RowAt 4 w B (vecB l q l.length l.length)) : BoolsV w (.slice (some ⟨B, 0, none⟩) l.length l.length) (underL l q) := by
  have hlen : (underL l q).length = l.length := by simp [underL]
  refine .inr ⟨B, 0, l.length, by rw [hlen], by omega, by omega, by omega, h.lt, fun k x hk => ?_⟩
  have hkl : k < l.length := by have := (List.getElem?_eq_some_iff.1 hk).1; omega
  rw [Nat.zero_add, Nat.mul_one]
  refine h.cell ?_
  have : x = under l k q := by
    simp [underL, hkl] at hk; exact hk.symm
  simp [vecB, hkl, this]

theorem Try.info4 : (Try.prog.info? 4).map (fun i => (i.zero, i.size, i.bytes)) = some (some (.bool false), 1, 1) := by kernel_rfl
theorem make_bools (n : Nat) (h : n ≤ 5) (w : World) : (Instr.makeSlice 27 (.int .i64 (n : Int)) (.int .i64 (n : Int))).run Try.prog w = .ok (.slice (some ⟨w.heap.size, 0, none⟩) n n) (w.alloc (.cells (List.replicate n (Value.bool false)).toArray 4)) := by
  obtain ⟨i, h1, h2, h3, h4⟩ := info_parts Try.info4
  exact run_make_one Try.underlying27 h1 h2 rfl h3 n (by rw [h4]; omega) (by omega) w

set_option maxRecDepth 100000 in
set_option maxHeartbeats 1000000 in
theorem UnderOf_any (w : World) (v : Value) (l : List Queue) (q : Int) (hv : QueuesV w v l) (hp : ParsOk l) (h5 : l.length ≤ 5) :
    Calls Try.prog 19 #[v, .int .i64 q] w fun e w' => ∃ u, e = .returned u ∧ BoolsV w' u (underL l q) ∧ Ext w w' := by
  have C := hid (fun (W : World) (h : Ext w W) (k : Nat) (hk : k < l.length) => beneath_any W v l k q (hv.mono h) hp h5 (by omega) (by omega))
  have HF := hid (fun (W : World) (B : Nat) => underL_v (w := W) (B := B) (q := q) h5)
  obtain ⟨a, cap, rfl, _, _, hl⟩ := hv.form
  clear hv
  generalize l.length = n at *
  have hmk := make_bools n h5
  have H0 := hid (RowAt.new (T := 4) w (List.replicate n (.bool false)))
  go_enter Try.func19, Try.ntmps19
  go_wp2_with fail
  clear hmk
  go_loopw [6] (fun c wr => ∃ k : Nat, c = .int .i64 k ∧ k ≤ n ∧ Hid (RowAt 4 wr w.heap.size (vecB l q n k)) ∧ Ext w wr) (fun c _ => n - (intOf c).toNat)
  case atStart => exact ⟨0, rfl, by omega, hid (by rw [vecB_zero]; exact H0.out), (Ext.rf w).al _⟩
  case round =>
    obtain ⟨k, rfl, hk, HR, hx⟩ := hrel
    by_cases hlt : k < n
    · have hlt' : (k : Int) < (n : Int) := by omega
      obtain ⟨v0, hv0⟩ := vecB_at l q hlt
      have C1 := hid (C.out wr hx k hlt)
      have HV := hid hv0
      clear hv0
      go_wp2_with fail
      refine C1.out.mono ?_
      rintro e w1 ⟨rfl, hx1⟩
      have HR1 := HR.out.ext hx1
      have hcl := HR1.cell HV.out
      have hfr := HR1.free k
      have HS := hid (HR1.set k (.bool (under l k q)))
      clear HR1
      go_wp2_with fail
      go_roundw
      case rel => exact ⟨k + 1, by go_num, by omega, hid (by rw [← vecB_step l q hlt]; exact HS.out), (hx.tr hx1).se (Nat.le_refl _) _⟩
      case measure => simp [intOf]; omega
    · have hlt' : ¬ (k : Int) < (n : Int) := by omega
      obtain rfl : k = n := by omega
      go_wp2_with fail
      go_ret
      exact ⟨_, rfl, HF.out _ _ HR.out, hx⟩

/-- who is under q, and an error -/
@[irreducible] def underR (l : List Queue) (q : Int) : List Bool × Int := if queueE l q = 0 then (underL l q, 0) else ([], queueE l q)
theorem underR_ok {l : List Queue} {q : Int} (h : queueE l q = 0) : underR l q = (underL l q, 0) := by unfold underR; rw [if_pos h]
theorem underR_bad {l : List Queue} {q : Int} (h : queueE l q ≠ 0) : underR l q = ([], queueE l q) := by unfold underR; rw [if_neg h]

def RetBools2 (w : World) (r : List Bool × Int) (e : Ending) (w' : World) : Prop := ∃ v, e = .returned (.tuple #[v, .int .i64 r.2]) ∧ BoolsV w' v r.1 ∧ Ext w w'
theorem retBools2_of {w w' : World} {r : List Bool × Int} {l : List Bool} {n : Int} {v : Value} (h : r = (l, n)) (hv : BoolsV w' v l) (hx : Ext w w') : RetBools2 w r (.returned (.tuple #[v, .int .i64 n])) w' := by
  subst h; exact ⟨v, rfl, hv, hx⟩

set_option maxRecDepth 100000 in
set_option maxHeartbeats 1000000 in
theorem Under_any (w : World) (v : Value) (l : List Queue) (q : Int) (hv : QueuesV w v l) : Calls Try.prog 16 #[v, .int .i64 q] w (RetBools2 w (underR l q)) := by
  have T := hid (There_any w v l q hv)
  by_cases h : queueE l q = 0
  · have ok := checkT_ok (queueE_zero h).1
    have h5 := ok.n5
    have C := hid (fun (W : World) (h : Ext w W) (k : Nat) (hk : k < l.length) => Beneath_any W v l k q (hv.mono h) ok.pars ok.n5 (by omega) (by omega))
    have HF := hid (fun (W : World) (B : Nat) => underL_v (w := W) (B := B) (q := q) h5)
    have Hr := hid (underR_ok h)
    rw [h] at T
    obtain ⟨a, cap, rfl, _, _, hl⟩ := hv.form
    clear hv h ok
    generalize l.length = n at *
    have hmk := make_bools n h5
    have H0 := hid (fun (W : World) => RowAt.new (T := 4) W (List.replicate n (.bool false)))
    go_enter Try.func16, Try.ntmps16
    go_wp2_with fail
    refine T.out.mono ?_
    rintro e w0 ⟨rfl, hx0⟩
    go_wp2_with fail
    clear hmk
    go_loopw [20, 8] (fun c _ wr => ∃ k : Nat, c = .int .i64 k ∧ k ≤ n ∧ Hid (RowAt 4 wr w0.heap.size (vecB l q n k)) ∧ Ext w wr) (fun c _ _ => n - (intOf c).toNat)
    case atStart => exact ⟨0, rfl, by omega, hid (by rw [vecB_zero]; exact H0.out _), hx0.al _⟩
    case round =>
      obtain ⟨k, rfl, hk, HR, hx⟩ := hrel
      have hsz := hx0.size
      by_cases hlt : k < n
      · have hlt' : (k : Int) < (n : Int) := by omega
        obtain ⟨v0, hv0⟩ := vecB_at l q hlt
        have C1 := hid (C.out wr hx k hlt)
        have HV := hid hv0
        clear hv0
        go_wp2_with fail
        refine C1.out.mono ?_
        rintro e w1 ⟨rfl, hx1⟩
        have HR1 := HR.out.ext hx1
        have hcl := HR1.cell HV.out
        have hfr := HR1.free k
        have HS := hid (HR1.set k (.bool (under l k q)))
        clear HR1
        go_wp2_with fail
        go_roundw
        case rel => exact ⟨k + 1, by go_num, by omega, hid (by rw [← vecB_step l q hlt]; exact HS.out), (hx.tr hx1).se hsz _⟩
        case measure => simp [intOf]; omega
      · have hlt' : ¬ (k : Int) < (n : Int) := by omega
        obtain rfl : k = n := by omega
        go_wp2_with fail
        go_ret2
        exact retBools2_of Hr.out (HF.out _ _ HR.out) hx
  · have Hr := hid (underR_bad h)
    have hne := neT h
    obtain ⟨a, cap, rfl, _, _, hl⟩ := hv.form
    clear h hv
    generalize l.length = n at *
    go_enter Try.func16, Try.ntmps16
    go_wp2_with fail
    refine T.out.mono ?_
    rintro e w1 ⟨rfl, hx⟩
    go_wp2_with fail
    go_ret2
    exact retBools2_of Hr.out SV.nil hx

end Go.Proofs.Ytchblkemofncoaa
