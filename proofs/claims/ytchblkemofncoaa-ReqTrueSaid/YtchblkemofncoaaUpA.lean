/- The iterator tree.Up: a queue, and all above it. -/
import Derived.Test.YtchblkemofncoaaRangeF
import Derived.Test.YtchblkemofncoaaTreeF
set_option linter.unusedVariables false
namespace Go.Proofs.Ytchblkemofncoaa
open Go.RowKit

attribute [local go_sem] Oper.semAt_some

/-- numbers fall -/
def ParsOk (l : List Queue) : Prop := ∀ k, k < l.length → ParOk (par l k) k

def lineN (l : List Queue) : Nat → Int → List Nat
  | 0, _ => []
  | f + 1, q => if 0 ≤ q then q.toNat :: lineN l f (par l q.toNat) else []
/-- a queue, and all above it -/
def lineL (l : List Queue) (q : Int) : List Nat := lineN l (q + 1).toNat q

theorem lineN_neg {l : List Queue} {q : Int} (h : q < 0) : ∀ f, lineN l f q = []
  | 0 => rfl
  | f + 1 => by simp only [lineN]; rw [if_neg (by omega)]
theorem lineN_fuel {l : List Queue} (hp : ParsOk l) : ∀ (f g : Nat) (q : Int), q < l.length → q < f → q < g → lineN l f q = lineN l g q
  | 0, g, q, _, h1, _ => by rw [lineN_neg (by omega), lineN_neg (by omega)]
  | f + 1, 0, q, _, _, h2 => by rw [lineN_neg (by omega), lineN_neg (by omega)]
  | f + 1, g + 1, q, h0, h1, h2 => by
    simp only [lineN]
    by_cases h : 0 ≤ q
    · rw [if_pos h, if_pos h]
      have hk := hp q.toNat (by omega)
      rw [lineN_fuel hp f g (par l q.toNat) (by have := hk.2; omega) (by have := hk.2; omega) (by have := hk.2; omega)]
    · rw [if_neg h, if_neg h]
theorem lineL_neg {l : List Queue} {q : Int} (h : q < 0) : lineL l q = [] := lineN_neg h _
theorem lineL_pos {l : List Queue} (hp : ParsOk l) {k : Nat} (hk : k < l.length) : lineL l (k : Int) = k :: lineL l (par l k) := by
  have h := hp k hk
  unfold lineL
  rw [show ((k : Int) + 1).toNat = k + 1 by omega]
  simp only [lineN]
  rw [if_pos (by omega), Int.toNat_natCast]
  rw [lineN_fuel hp k ((par l k) + 1).toNat (par l k) (by have := h.2; omega) h.2 (by omega)]

theorem lineL_lt {l : List Queue} (hp : ParsOk l) : ∀ (n : Nat) (q : Int), q < n → q < l.length → ∀ k ∈ lineL l q, k < l.length ∧ (k : Int) ≤ q
  | n, q, hn, hq, k, hk => by
    by_cases h : q < 0
    · rw [lineL_neg h] at hk; cases hk
    · obtain ⟨m, rfl⟩ : ∃ m : Nat, q = m := ⟨q.toNat, by omega⟩
      rw [lineL_pos hp (by omega)] at hk
      rcases List.mem_cons.1 hk with rfl | hk
      · exact ⟨by omega, Int.le_refl _⟩
      · have h2 := hp m (by omega)
        match n, hn with
        | n + 1, hn =>
          have := lineL_lt hp n (par l m) (by have := h2.2; omega) (by have := h2.2; omega) k hk
          exact ⟨this.1, by have := h2.2; omega⟩

theorem lineL_len {l : List Queue} (hp : ParsOk l) : ∀ (n : Nat) (q : Int), q < n → q < l.length → (lineL l q).length ≤ (q + 1).toNat
  | n, q, hn, hq => by
    by_cases h : q < 0
    · rw [lineL_neg h]; simp
    · obtain ⟨m, rfl⟩ : ∃ m : Nat, q = m := ⟨q.toNat, by omega⟩
      rw [lineL_pos hp (by omega)]
      have h2 := hp m (by omega)
      match n, hn with
      | n + 1, hn =>
        have := lineL_len hp n (par l m) (by have := h2.2; omega) (by have := h2.2; omega)
        have := h2.2
        simp only [List.length_cons]; omega

/-- the number in a box -/
def boxNum (B : Nat) (W : World) : Int := match W.cell? ⟨B, 0, none⟩ with | some (.int _ x) => x | _ => 0
theorem boxNum_of {W : World} {B : Nat} {t : TypeId} {k : IntKind} {x : Int} (h : Boxed W B t (.int k x)) : boxNum B W = x := by unfold boxNum; rw [h.cell]

theorem Up_any (w : World) (a : Option Addr) (len cap : Nat) (q : Int) :
    Calls Try.prog 61 #[.slice a len cap, .int .i64 q] w fun e w' => e = .returned (.func (.func 107) #[] #[.pointer (some ⟨w.heap.size + 1, 0, none⟩), .pointer (some ⟨w.heap.size, 0, none⟩)]) ∧ w' = (w.alloc (.cells #[.slice a len cap] 22)).alloc (.cells #[.int .i64 q] 3) := by
  go_enter Try.func61, Try.ntmps61
  go_wp2_with fail
  go_ret
  exact ⟨rfl, rfl⟩

set_option maxRecDepth 100000 in
set_option maxHeartbeats 2000000 in
theorem up1_in (n : Nat) (hn : 1 ≤ n) (y Bl Bq b off cap : Nat) (l : List Queue) (q : Int) (hne1 : Bl ≠ Bq) (hne2 : b ≠ Bq) (hp : ParsOk l) (hq1 : -1 ≤ q) (hq2 : q < l.length) (hl5 : l.length ≤ 17592186044416)
    (J Jx : List (Fin l.length) → World → Prop) (tJ : Turns Bq J)
    (hY : ∀ pre x W, J pre W → pre.length < (lineL l q).length → YieldAt Fence.wide (n - 1) Try.prog y #[.int .i64 (x.1 : Int)] W fun e W' =>
      (e = .returned (.bool true) ∧ J (pre ++ [x]) W' ∧ KeepB [Bl, Bq, b] W W') ∨ (e = .returned (.bool false) ∧ Jx (pre ++ [x]) W'))
    (W : World) (hBl : Boxed W Bl 22 (.slice (some ⟨b, off, none⟩) l.length cap)) (hBq : Boxed W Bq 3 (.int .i64 q)) (hb : b < W.heap.size) (hE : ∀ k x, l[k]? = some x → W.cell? ⟨b, off + k * 3 + 1, none⟩ = some (.int .i64 x.Parent)) (h0 : J [] W) :
    CallsIn Fence.wide n Try.prog 107 #[.func (.yield y) #[] #[], .pointer (some ⟨Bq, 0, none⟩), .pointer (some ⟨Bl, 0, none⟩)] W fun e W' => (∃ v, e = .returned v) ∧
      ((∃ xs, xs.map (·.1) = lineL l q ∧ J xs W') ∨ (∃ pre, pre.map (·.1) <+: lineL l q ∧ Jx pre W')) := by
  refine callsIn_of_wp Try.func107 rfl trivial ?_ rfl
  simp only [Try.ntmps107, List.size_toArray, List.length_cons, List.length_nil, Nat.reduceAdd, Nat.reduceSub, Array.replicate_succ, Array.replicate_zero, List.push_toArray, List.append_toArray, List.nil_append, List.cons_append]
  have HE := hid hE
  clear hE
  gi_wp2
  gi_loopw [] (fun wr => ∃ (pre : List (Fin l.length)) (qv : Int), Boxed wr Bq 3 (.int .i64 qv) ∧ -1 ≤ qv ∧ qv < l.length ∧ Hid (pre.map (·.1) ++ lineL l qv = lineL l q) ∧ J pre wr ∧ KeepB [Bl, b] W wr)
    (fun wr => (boxNum Bq wr + 1).toNat)
  case atStart => exact ⟨[], q, hBq, hq1, hq2, hid rfl, h0, KeepB.rf _ _⟩
  case round =>
    obtain ⟨pre, qv, hBv, hv1, hv2, HL, hJ, hK⟩ := hrel
    have hcq := hBv.cell
    have hBl' : Boxed wr Bl 22 (.slice (some ⟨b, off, none⟩) l.length cap) := (hK.same Bl (by simp) hBl.lt).trans hBl
    have hcl := hBl'.cell
    by_cases h : 0 ≤ qv
    · obtain ⟨k, rfl⟩ : ∃ k : Nat, qv = k := ⟨qv.toNat, by omega⟩
      have hkl : k < l.length := by omega
      have hlen : pre.length < (lineL l q).length := by
        rw [← HL.out, lineL_pos hp hkl]; simp
      obtain ⟨x, hxk⟩ := getQ (l := l) (k := k) hkl
      obtain ⟨_, e2, _⟩ := at_some hxk
      have hE0 := HE.out k x hxk
      have hpk := hp k hkl
      rw [e2] at hpk
      obtain ⟨hpk1, hpk2⟩ := hpk
      have HS := hid (show (pre ++ [(⟨k, hkl⟩ : Fin l.length)]).map (·.1) ++ lineL l x.Parent = lineL l q from by
        rw [← HL.out, lineL_pos hp hkl, e2]; simp)
      obtain ⟨fn, tmps, assign, body, hy, hR⟩ := hY pre ⟨k, hkl⟩ wr hJ hlen
      dsimp only at hy
      clear hxk e2 HL
      gi_wp2
      refine hR.mono ?_
      rintro e W3 (⟨rfl, hJ3, hk3⟩ | ⟨rfl, hJx3⟩)
      · have hK3 : KeepB [Bl, b] W W3 := hK.tr ⟨hk3.size, fun j hj hl => hk3.same j (by simp only [List.mem_cons, List.not_mem_nil, or_false] at hj ⊢; rcases hj with rfl | rfl <;> simp) hl⟩
        have hBl3 : Boxed W3 Bl 22 (.slice (some ⟨b, off, none⟩) l.length cap) := (hK3.same Bl (by simp) hBl.lt).trans hBl
        have hBq3 : Boxed W3 Bq 3 (.int .i64 (k : Int)) := (hk3.same Bq (by simp) hBv.lt).trans hBv
        have hE3 : W3.cell? ⟨b, off + k * 3 + 1, none⟩ = some (.int .i64 x.Parent) := by
          rw [← hE0]; exact World.cell?_of_block (a := ⟨b, off + k * 3 + 1, none⟩) (hK3.same b (by simp) hb)
        have hcl3 := hBl3.cell
        have hcq3 := hBq3.cell
        have hfq3 := hBq3.frozen
        have HB := hid (hBq3.set (.int .i64 x.Parent))
        have HJ := hid (tJ _ _ _ _ hJ3 (grownBy_setCell' W3 Bq (.int .i64 x.Parent)) (fun r e => (Option.some.inj e).symm))
        have HK := hid (hK3.tr (KeepB.se (A := W3) (b := Bq) (.int .i64 x.Parent) (by simp; exact ⟨fun e => hne1 e.symm, fun e => hne2 e.symm⟩)))
        have HM := hid (boxNum_of hBv)
        clear hE0 hcl hcq hy
        gi_wp2
        go_roundw
        case rel => exact ⟨pre ++ [⟨k, hkl⟩], x.Parent, HB.out, hpk1, by omega, HS, HJ.out, HK.out⟩
        case measure => rw [boxNum_of HB.out, HM.out]; omega
      · have Hx := hid (show (pre ++ [(⟨k, hkl⟩ : Fin l.length)]).map (·.1) <+: lineL l q from ⟨_, HS.out⟩)
        clear hy
        gi_wp2
        go_end0
        exact ⟨⟨_, rfl⟩, .inr ⟨_, Hx.out, hJx3⟩⟩
    · have Hx := hid (show pre.map (·.1) = lineL l q from by rw [← HL.out, lineL_neg (by omega)]; simp)
      have h' : qv < 0 := by omega
      clear h
      gi_wp2
      refine ⟨fun _ h => (by cases h), ?_⟩
      gi_wp2
      go_end0
      exact ⟨⟨_, rfl⟩, .inl ⟨_, Hx.out, hJ⟩⟩

/-- the iterator that Up gives, as a loop sees it -/
theorem up_seq (n : Nat) (hn : 1 ≤ n) (Bl Bq b off cap : Nat) (l : List Queue) (q : Int) (hne1 : Bl ≠ Bq) (hne2 : b ≠ Bq) (hp : ParsOk l) (hq1 : -1 ≤ q) (hq2 : q < l.length) (hl5 : l.length ≤ 17592186044416)
    (w : World) (hBl : Boxed w Bl 22 (.slice (some ⟨b, off, none⟩) l.length cap)) (hBq : Boxed w Bq 3 (.int .i64 q)) (hb : b < w.heap.size) (hE : ∀ k x, l[k]? = some x → w.cell? ⟨b, off + k * 3 + 1, none⟩ = some (.int .i64 x.Parent)) :
    SeqOf n Try.prog 107 #[.pointer (some ⟨Bq, 0, none⟩), .pointer (some ⟨Bl, 0, none⟩)] (fun x : Fin l.length => #[Value.int .i64 (x.1 : Int)]) (KeepB [Bl, Bq, b]) (fun xs => xs.map (·.1) = lineL l q) (fun pre => pre.map (·.1) <+: lineL l q) (lineL l q).length Bq w :=
  fun y J Jx W hW tJ _ hY h0 => up1_in n hn y Bl Bq b off cap l q hne1 hne2 hp hq1 hq2 hl5 J Jx tJ hY W ((hW.block Bl hBl.lt).trans hBl) ((hW.block Bq hBq.lt).trans hBq) (Nat.lt_of_lt_of_le hb hW.size)
    (fun k x hk => (hW.cell (p := ⟨b, off + k * 3 + 1, none⟩) hb).trans (hE k x hk)) h0

end Go.Proofs.Ytchblkemofncoaa
