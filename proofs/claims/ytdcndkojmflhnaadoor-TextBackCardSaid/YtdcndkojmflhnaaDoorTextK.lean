/- The field, and trees that are the same. -/
import Derived.Test.YtdcndkojmflhnaaDoorTextJ
set_option linter.unusedVariables false
set_option linter.unusedSimpArgs false
set_option maxRecDepth 100000
set_option maxHeartbeats 4000000
namespace Go.Proofs.YtdcndkojmflhnaaDoor
open Go.RowKit
theorem lit_nums {l : List Run} (h : (l.all fun r => decide (-9000000 ≤ r.At ∧ r.At ≤ 9000000 ∧ -9000000 ≤ r.N ∧ r.N ≤ 9000000)) = true) : ∀ r ∈ l, I64 r.At ∧ I64 r.N := fun r hr => by
  have := of_decide_eq_true (List.all_eq_true.1 h r hr)
  exact ⟨I64.of (by omega) (by omega), I64.of (by omega) (by omega)⟩

def sAll : ByteArray := ⟨#[97, 108, 108]⟩
def sNorth : ByteArray := ⟨#[110, 111, 114, 116, 104]⟩
def sSouth : ByteArray := ⟨#[115, 111, 117, 116, 104]⟩
def sBarn : ByteArray := ⟨#[98, 97, 114, 110]⟩

/-- the field's queues; p: the Parent of the second; m, n: what the first and the third have -/
def fieldL (m p n : Int) : List Queue := [⟨sAll, -1, [⟨0, m⟩]⟩, ⟨sNorth, p, [⟨0, 8⟩, ⟨20, 4⟩]⟩, ⟨sSouth, 0, [⟨0, n⟩]⟩, ⟨sBarn, 1, [⟨0, 8⟩]⟩]

/-- where they lie -/
structure FieldAt (w : World) (B : Nat) (m p n : Int) : Prop where
  r0 : w.heap[B]? = some (.cells #[.int .i64 0, .int .i64 m] 48 (0, 0))
  r1 : w.heap[B + 1]? = some (.cells #[.int .i64 0, .int .i64 8, .int .i64 20, .int .i64 4] 48 (0, 0))
  r2 : w.heap[B + 2]? = some (.cells #[.int .i64 0, .int .i64 n] 48 (0, 0))
  r3 : w.heap[B + 3]? = some (.cells #[.int .i64 0, .int .i64 8] 48 (0, 0))
  q : w.heap[B + 4]? = some (.cells #[.string sAll, .int .i64 (-1), .slice (some ⟨B, 0, none⟩) 1 1, .string sNorth, .int .i64 p, .slice (some ⟨B + 1, 0, none⟩) 2 2, .string sSouth, .int .i64 0, .slice (some ⟨B + 2, 0, none⟩) 1 1, .string sBarn, .int .i64 1, .slice (some ⟨B + 3, 0, none⟩) 1 1] 41 (0, 0))

theorem FieldAt.ext {w w' : World} {B : Nat} {m p n : Int} (h : FieldAt w B m p n) (hx : Ext w w') : FieldAt w' B m p n := by
  have k : ∀ {j : Nat} {o : Obj}, w.heap[j]? = some o → w'.heap[j]? = some o := fun hj => (hx.block _ (Array.getElem?_eq_some_iff.1 hj).1).trans hj
  exact ⟨k h.r0, k h.r1, k h.r2, k h.r3, k h.q⟩

theorem runs_of_row {w : World} {b : Nat} {cs : Array Value} {t : TypeId} {l : List Run} (h : w.heap[b]? = some (.cells cs t (0, 0))) (hcs : cs = (cells2 Run.At Run.N l).toArray) (hl : l.length ≤ 48) (hi : ∀ r ∈ l, I64 r.At ∧ I64 r.N) :
    RunsV w (.slice (some ⟨b, 0, none⟩) l.length l.length) l := by
  subst hcs
  refine .inr ⟨b, 0, l.length, rfl, Nat.le_refl _, by omega, by omega, (Array.getElem?_eq_some_iff.1 h).1, fun k x hk => ?_⟩
  obtain ⟨h1, h2⟩ := cells2_get Run.At Run.N l k x hk
  have h3 := hi x (List.mem_of_getElem? hk)
  refine ⟨?_, ?_, h3.1, h3.2⟩
  · rw [cell_of_row w b _ _ _ _ h, Nat.zero_add]; simpa using h1
  · rw [cell_of_row w b _ _ _ _ h, Nat.zero_add]; simpa using h2

theorem FieldAt.v {w : World} {B : Nat} {m p n : Int} (h : FieldAt w B m p n) (hm : I64 m) (hp : I64 p) (hn : I64 n) : QueuesV w (.slice (some ⟨B + 4, 0, none⟩) 4 4) (fieldL m p n) := by
  have i2 : ∀ {a b : Int}, -100 ≤ a → a ≤ 100 → -100 ≤ b → b ≤ 100 → I64 a ∧ I64 b := fun _ _ _ _ => ⟨I64.of (by omega) (by omega), I64.of (by omega) (by omega)⟩
  have i1 : ∀ {a : Int}, -100 ≤ a → a ≤ 100 → I64 a := fun _ _ => I64.of (by omega) (by omega)
  have v0 := runs_of_row (l := [⟨0, m⟩]) h.r0 rfl (by simp) (by intro r hr; simp at hr; subst hr; exact ⟨i1 (a := 0) (by omega) (by omega), hm⟩)
  have v1 := runs_of_row (l := [⟨0, 8⟩, ⟨20, 4⟩]) h.r1 rfl (by decide) (lit_nums (by decide +kernel))
  have v2 := runs_of_row (l := [⟨0, n⟩]) h.r2 rfl (by simp) (by intro r hr; simp at hr; subst hr; exact ⟨i1 (a := 0) (by omega) (by omega), hn⟩)
  have v3 := runs_of_row (l := [⟨0, 8⟩]) h.r3 rfl (by decide) (lit_nums (by decide +kernel))
  have c : ∀ j, w.cell? ⟨B + 4, j, none⟩ = _ := fun j => cell_of_row w (B + 4) j _ _ _ h.q
  refine .inr ⟨B + 4, 0, 4, rfl, by simp [fieldL], by omega, by simp [fieldL], (Array.getElem?_eq_some_iff.1 h.q).1, fun k x hk => ?_⟩
  match k with
  | 0 => simp [fieldL] at hk; subst hk; exact ⟨c _, (show sAll.size ≤ _ by decide), c _, i1 (a := -1) (by omega) (by omega), _, c _, v0⟩
  | 1 => simp [fieldL] at hk; subst hk; exact ⟨c _, (show sNorth.size ≤ _ by decide), c _, hp, _, c _, v1⟩
  | 2 => simp [fieldL] at hk; subst hk; exact ⟨c _, (show sSouth.size ≤ _ by decide), c _, i1 (a := 0) (by omega) (by omega), _, c _, v2⟩
  | 3 => simp [fieldL] at hk; subst hk; exact ⟨c _, (show sBarn.size ≤ _ by decide), c _, i1 (a := 1) (by omega) (by omega), _, c _, v3⟩
  | k + 4 => simp [fieldL] at hk

theorem five_new (w : World) (o1 o2 o3 o4 o5 : Obj) :
    ((((((w.alloc o1).alloc o2).alloc o3).alloc o4).alloc o5).heap[w.heap.size]? = some o1) ∧ ((((((w.alloc o1).alloc o2).alloc o3).alloc o4).alloc o5).heap[w.heap.size + 1]? = some o2) ∧
    ((((((w.alloc o1).alloc o2).alloc o3).alloc o4).alloc o5).heap[w.heap.size + 2]? = some o3) ∧ ((((((w.alloc o1).alloc o2).alloc o3).alloc o4).alloc o5).heap[w.heap.size + 3]? = some o4) ∧ ((((((w.alloc o1).alloc o2).alloc o3).alloc o4).alloc o5).heap[w.heap.size + 4]? = some o5) := by
  obtain ⟨h1, h2, h3, h4, hx⟩ := four_new w o1 o2 o3 o4
  have h5 := heap_alloc_new ((((w.alloc o1).alloc o2).alloc o3).alloc o4) o5
  have s : ((((w.alloc o1).alloc o2).alloc o3).alloc o4).heap.size = w.heap.size + 4 := by simp
  rw [s] at h5
  have keep : ∀ (W : World) (o b : Obj) (j : Nat), W.heap[j]? = some b → (W.alloc o).heap[j]? = some b := fun W o b j h => by
    rw [((Ext.rf W).al o).block j (Array.getElem?_eq_some_iff.1 h).1]; exact h
  exact ⟨keep _ _ _ _ h1, keep _ _ _ _ h2, keep _ _ _ _ h3, keep _ _ _ _ h4, h5⟩

set_option maxRecDepth 100000 in
theorem field_any (w : World) : Calls Tryd.prog 26 #[] w fun e w' => e = .returned (.slice (some ⟨w.heap.size + 4, 0, none⟩) 4 4) ∧ FieldAt w' w.heap.size 10 0 6 ∧ Ext w w' := by
  go_enter Tryd.func26, Tryd.ntmps26
  go_wp2_with fail
  go_ret
  refine ⟨rfl, ?_, (((((Ext.rf w).al _).al _).al _).al _).al _⟩
  obtain ⟨h1, h2, h3, h4, h5⟩ := five_new w _ _ _ _ _
  exact ⟨h1, h2, h3, h4, h5⟩

theorem fieldC : checkT (fieldL 10 0 6) = 0 := by unfold checkT; decide +kernel
theorem sameRuns_yes {w : World} {vf vg : Value} {f : List Run} (hf : RunsV w vf f) (hg : RunsV w vg f) :
    Calls Tryd.prog 29 #[vf, vg] w fun e w' => e = .returned (.bool true) ∧ Ext w w' := by
  have := SameRuns_any w vf vg f f hf hg; rw [deT rfl] at this; exact this

theorem sv_at {α : Type} {sz : Nat} {E : World → Nat → Nat → α → Prop} {w : World} {v : Value} {l : List α} (hv : SV sz E w v l) : ∃ a cap, v = .slice a l.length cap ∧ l.length ≤ cap ∧ cap ≤ 9223372036854775807 ∧ l.length ≤ 17592186044416 ∧
    (1 ≤ l.length → ∃ b off, a = some ⟨b, off, none⟩ ∧ b < w.heap.size ∧ ∀ k x, l[k]? = some x → E w b (off + k * sz) x) := by
  rcases hv with ⟨rfl, a, cap, rfl, h⟩ | ⟨b, off, cap, rfl, h1, h2, h3, h4, h5⟩
  · exact ⟨a, cap, rfl, by simp, h, by simp, fun h => by simp at h⟩
  · exact ⟨_, cap, rfl, h1, h2, h3, fun _ => ⟨b, off, rfl, h4, h5⟩⟩

set_option maxRecDepth 100000 in
set_option maxHeartbeats 4000000 in
theorem sameTrees_yes (w : World) (vf vg : Value) (l : List Queue) (hf : QueuesV w vf l) (hg : QueuesV w vg l) :
    Calls Tryd.prog 11 #[vf, vg] w fun e w' => e = .returned (.bool true) ∧ Ext w w' := by
  obtain ⟨fa, fc, rfl, _, _, _, hfE⟩ := sv_at hf
  obtain ⟨ga, gc, rfl, _, _, _, hgE⟩ := sv_at hg
  have HF := hid hfE
  have HG := hid hgE
  clear hf hg hfE hgE
  generalize hn : l.length = n at *
  have Hn := hid hn
  clear hn
  go_enter Tryd.func11, Tryd.ntmps11
  go_wp2_with fail
  go_loopw [5] (fun c wr => ∃ k : Nat, c = .int .i64 k ∧ k ≤ n ∧ Ext w wr) (fun c _ => n - (intOf c).toNat)
  case atStart => exact ⟨0, rfl, by omega, Ext.rf w⟩
  case round =>
    obtain ⟨k, rfl, hk, hx⟩ := hrel
    by_cases hlt : k < n
    · have hlt' : (k : Int) < (n : Int) := by omega
      obtain ⟨x, hxk⟩ := getA (f := l) (k := k) (by rw [Hn.out]; exact hlt)
      obtain ⟨fb, fo, rfl, hfb, hfe⟩ := HF.out (by omega)
      obtain ⟨gb, go, rfl, hgb, hge⟩ := HG.out (by omega)
      obtain ⟨c0, _, c1, _, cv, c2, hu⟩ := EQueue.mono w wr fb _ x hx (hfe k x hxk)
      obtain ⟨d0, _, d1, _, dv, d2, hv⟩ := EQueue.mono w wr gb _ x hx (hge k x hxk)
      replace c0 := fun p : Later wr => p.cell c0
      replace c1 := fun p : Later wr => p.cell c1
      replace c2 := fun p : Later wr => p.cell c2
      replace d0 := fun p : Later wr => p.cell d0
      replace d1 := fun p : Later wr => p.cell d1
      replace d2 := fun p : Later wr => p.cell d2
      have ML := hid (fun p : Later wr => later_of p (v := .bool true) (sameRuns_yes (hu.mono p.h) (hv.mono p.h)))
      obtain ⟨ua, uc, rfl, _, _, _⟩ := hu.form
      obtain ⟨va, vc, rfl, _, _, _⟩ := hv.form
      have t1 := deF (show ¬ (k : Int) < 0 by omega)
      have t2 := deF (show ¬ (n : Int) ≤ (k : Int) by omega)
      have t3 := deF (show ¬ n ≤ k by omega)
      clear hfe hge hu hv hxk
      generalize x.Cap.length = xn at *
      go_wp2_with fail
      refine region_later (by kernel_rfl) (by kernel_rfl) ?_
      repeat (go_big_quiet_step (with_reducible exact ML.out _))
      refine wpQuiet_nil ?_
      rintro w' ⟨p, rfl⟩
      have HX := hid (hx.tr p.h)
      clear ML c0 c1 c2 d0 d1 d2
      generalize p.v = W at *
      go_wp2_with fail
      go_roundw
      case rel => exact ⟨k + 1, by go_num, by omega, HX.out⟩
      case measure => simp [intOf]; omega
    · obtain rfl : k = n := by omega
      have hlt' : ¬ (k : Int) < (k : Int) := by omega
      go_wp2_with fail
      go_ret
      exact ⟨rfl, hx⟩
end Go.Proofs.YtdcndkojmflhnaaDoor
