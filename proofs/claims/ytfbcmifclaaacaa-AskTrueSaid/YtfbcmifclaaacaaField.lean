/- Fields of queues, and their laws. -/
import Derived.Test.YtfbcmifclaaacaaUp
import Derived.Test.YtfbcmifclaaacaaLawA

/- The field: four queues that the statements write out. -/
set_option linter.unusedVariables false
namespace Go.Proofs.Ytfbcmifclaaacaa
open Go.RowKit

def sAll : ByteArray := ⟨#[97, 108, 108]⟩
def sNorth : ByteArray := ⟨#[110, 111, 114, 116, 104]⟩
def sSouth : ByteArray := ⟨#[115, 111, 117, 116, 104]⟩
def sBarn : ByteArray := ⟨#[98, 97, 114, 110]⟩

/-- the field's queues; p: the Parent of the second; m, n: what the first and the third have -/
def fieldL (m p n : Int) : List Queue := [⟨sAll, -1, [⟨0, m⟩]⟩, ⟨sNorth, p, [⟨0, 8⟩, ⟨20, 4⟩]⟩, ⟨sSouth, 0, [⟨0, n⟩]⟩, ⟨sBarn, 1, [⟨0, 8⟩]⟩]

/-- where they lie -/
structure FieldAt (w : World) (B : Nat) (m p n : Int) : Prop where
  r0 : w.heap[B]? = some (.cells #[.int .i64 0, .int .i64 m] 73 (0, 0))
  r1 : w.heap[B + 1]? = some (.cells #[.int .i64 0, .int .i64 8, .int .i64 20, .int .i64 4] 73 (0, 0))
  r2 : w.heap[B + 2]? = some (.cells #[.int .i64 0, .int .i64 n] 73 (0, 0))
  r3 : w.heap[B + 3]? = some (.cells #[.int .i64 0, .int .i64 8] 73 (0, 0))
  q : w.heap[B + 4]? = some (.cells #[.string sAll, .int .i64 (-1), .slice (some ⟨B, 0, none⟩) 1 1, .string sNorth, .int .i64 p, .slice (some ⟨B + 1, 0, none⟩) 2 2, .string sSouth, .int .i64 0, .slice (some ⟨B + 2, 0, none⟩) 1 1, .string sBarn, .int .i64 1, .slice (some ⟨B + 3, 0, none⟩) 1 1] 48 (0, 0))

theorem FieldAt.ext {w w' : World} {B : Nat} {m p n : Int} (h : FieldAt w B m p n) (hx : Ext w w') : FieldAt w' B m p n := by
  have k : ∀ {j : Nat} {o : Obj}, w.heap[j]? = some o → w'.heap[j]? = some o := fun hj => (hx.block _ (Array.getElem?_eq_some_iff.1 hj).1).trans hj
  exact ⟨k h.r0, k h.r1, k h.r2, k h.r3, k h.q⟩

theorem runs_of_row {w : World} {b : Nat} {cs : Array Value} {t : TypeId} {l : List Run} (h : w.heap[b]? = some (.cells cs t (0, 0))) (hcs : cs = (cells2 Run.At Run.N l).toArray) (hl : l.length ≤ 48) (hi : ∀ r ∈ l, I64 r.At ∧ I64 r.N) :
    RunsV w (.slice (some ⟨b, 0, none⟩) l.length l.length) l := by
  subst hcs
  refine .inr ⟨b, 0, l.length, rfl, Nat.le_refl _, by omega, by omega, (Array.getElem?_eq_some_iff.1 h).1, fun k x hk => ?_⟩
  obtain ⟨h1, h2⟩ := cells2_get Run.At Run.N l k x hk
  have h3 := hi x (List.mem_of_getElem? hk)
  refine ⟨?_, ?_, h3.1, h3.2⟩
  · rw [cell_of_row w b _ _ _ _ h, Nat.zero_add]; simpa using h1
  · rw [cell_of_row w b _ _ _ _ h, Nat.zero_add]; simpa using h2

theorem FieldAt.v {w : World} {B : Nat} {m p n : Int} (h : FieldAt w B m p n) (hm : I64 m) (hp : I64 p) (hn : I64 n) : QueuesV w (.slice (some ⟨B + 4, 0, none⟩) 4 4) (fieldL m p n) := by
  have i2 : ∀ {a b : Int}, -100 ≤ a → a ≤ 100 → -100 ≤ b → b ≤ 100 → I64 a ∧ I64 b := fun _ _ _ _ => ⟨I64.of (by omega) (by omega), I64.of (by omega) (by omega)⟩
  have i1 : ∀ {a : Int}, -100 ≤ a → a ≤ 100 → I64 a := fun _ _ => I64.of (by omega) (by omega)
  have v0 := runs_of_row (l := [⟨0, m⟩]) h.r0 rfl (by simp) (by intro r hr; simp at hr; subst hr; exact ⟨i1 (a := 0) (by omega) (by omega), hm⟩)
  have v1 := runs_of_row (l := [⟨0, 8⟩, ⟨20, 4⟩]) h.r1 rfl (by decide) (lit_nums (by decide +kernel))
  have v2 := runs_of_row (l := [⟨0, n⟩]) h.r2 rfl (by simp) (by intro r hr; simp at hr; subst hr; exact ⟨i1 (a := 0) (by omega) (by omega), hn⟩)
  have v3 := runs_of_row (l := [⟨0, 8⟩]) h.r3 rfl (by decide) (lit_nums (by decide +kernel))
  have c : ∀ j, w.cell? ⟨B + 4, j, none⟩ = _ := fun j => cell_of_row w (B + 4) j _ _ _ h.q
  refine .inr ⟨B + 4, 0, 4, rfl, by simp [fieldL], by omega, by simp [fieldL], (Array.getElem?_eq_some_iff.1 h.q).1, fun k x hk => ?_⟩
  match k with
  | 0 => simp [fieldL] at hk; subst hk; exact ⟨c _, (show sAll.size ≤ _ by decide), c _, i1 (a := -1) (by omega) (by omega), _, c _, v0⟩
  | 1 => simp [fieldL] at hk; subst hk; exact ⟨c _, (show sNorth.size ≤ _ by decide), c _, hp, _, c _, v1⟩
  | 2 => simp [fieldL] at hk; subst hk; exact ⟨c _, (show sSouth.size ≤ _ by decide), c _, i1 (a := 0) (by omega) (by omega), _, c _, v2⟩
  | 3 => simp [fieldL] at hk; subst hk; exact ⟨c _, (show sBarn.size ≤ _ by decide), c _, i1 (a := 1) (by omega) (by omega), _, c _, v3⟩
  | k + 4 => simp [fieldL] at hk

theorem FieldAt.setP {w : World} {B : Nat} {m p n : Int} (h : FieldAt w B m p n) (z : Int) : FieldAt (w.setCell ⟨B + 4, 4, none⟩ (.int .i64 z)) B m z n := by
  have k : ∀ {j : Nat} {o : Obj}, j ≠ B + 4 → w.heap[j]? = some o → (w.setCell ⟨B + 4, 4, none⟩ (.int .i64 z)).heap[j]? = some o := fun hj ho => by rw [heap_setCell_other w ⟨B + 4, 4, none⟩ _ _ hj]; exact ho
  exact ⟨k (by omega) h.r0, k (by omega) h.r1, k (by omega) h.r2, k (by omega) h.r3, by rw [heap_setCell_same w (B + 4) 4 _ _ _ h.q]; rfl⟩
theorem FieldAt.setN {w : World} {B : Nat} {m p n : Int} (h : FieldAt w B m p n) (z : Int) : FieldAt (w.setCell ⟨B + 2, 1, none⟩ (.int .i64 z)) B m p z := by
  have k : ∀ {j : Nat} {o : Obj}, j ≠ B + 2 → w.heap[j]? = some o → (w.setCell ⟨B + 2, 1, none⟩ (.int .i64 z)).heap[j]? = some o := fun hj ho => by rw [heap_setCell_other w ⟨B + 2, 1, none⟩ _ _ hj]; exact ho
  exact ⟨k (by omega) h.r0, k (by omega) h.r1, by rw [heap_setCell_same w (B + 2) 1 _ _ _ h.r2]; rfl, k (by omega) h.r3, k (by omega) h.q⟩
theorem FieldAt.setM {w : World} {B : Nat} {m p n : Int} (h : FieldAt w B m p n) (z : Int) : FieldAt (w.setCell ⟨B, 1, none⟩ (.int .i64 z)) B z p n := by
  have k : ∀ {j : Nat} {o : Obj}, j ≠ B → w.heap[j]? = some o → (w.setCell ⟨B, 1, none⟩ (.int .i64 z)).heap[j]? = some o := fun hj ho => by rw [heap_setCell_other w ⟨B, 1, none⟩ _ _ hj]; exact ho
  exact ⟨by rw [heap_setCell_same w B 1 _ _ _ h.r0]; rfl, k (by omega) h.r1, k (by omega) h.r2, k (by omega) h.r3, k (by omega) h.q⟩

theorem five_new (w : World) (o1 o2 o3 o4 o5 : Obj) :
    ((((((w.alloc o1).alloc o2).alloc o3).alloc o4).alloc o5).heap[w.heap.size]? = some o1) ∧ ((((((w.alloc o1).alloc o2).alloc o3).alloc o4).alloc o5).heap[w.heap.size + 1]? = some o2) ∧
    ((((((w.alloc o1).alloc o2).alloc o3).alloc o4).alloc o5).heap[w.heap.size + 2]? = some o3) ∧ ((((((w.alloc o1).alloc o2).alloc o3).alloc o4).alloc o5).heap[w.heap.size + 3]? = some o4) ∧ ((((((w.alloc o1).alloc o2).alloc o3).alloc o4).alloc o5).heap[w.heap.size + 4]? = some o5) := by
  obtain ⟨h1, h2, h3, h4, hx⟩ := four_new w o1 o2 o3 o4
  have h5 := heap_alloc_new ((((w.alloc o1).alloc o2).alloc o3).alloc o4) o5
  have s : ((((w.alloc o1).alloc o2).alloc o3).alloc o4).heap.size = w.heap.size + 4 := by simp
  rw [s] at h5
  have keep : ∀ (W : World) (o b : Obj) (j : Nat), W.heap[j]? = some b → (W.alloc o).heap[j]? = some b := fun W o b j h => by
    rw [((Ext.rf W).al o).block j (Array.getElem?_eq_some_iff.1 h).1]; exact h
  exact ⟨keep _ _ _ _ h1, keep _ _ _ _ h2, keep _ _ _ _ h3, keep _ _ _ _ h4, h5⟩

set_option maxRecDepth 100000 in
theorem field_any (w : World) : Calls Try.prog 34 #[] w fun e w' => e = .returned (.slice (some ⟨w.heap.size + 4, 0, none⟩) 4 4) ∧ FieldAt w' w.heap.size 10 0 6 ∧ Ext w w' := by
  go_enter Try.func34, Try.ntmps34
  go_wp2_with fail
  go_ret
  refine ⟨rfl, ?_, (((((Ext.rf w).al _).al _).al _).al _).al _⟩
  obtain ⟨h1, h2, h3, h4, h5⟩ := five_new w _ _ _ _ _
  exact ⟨h1, h2, h3, h4, h5⟩

theorem i64_small {n : Int} (h1 : -1000 ≤ n) (h2 : n ≤ 1000) : I64 n := I64.of (by omega) (by omega)
theorem fieldC : checkT (fieldL 10 0 6) = 0 := by unfold checkT; decide +kernel
theorem fieldX : checkT (fieldL 10 1 6) = 3 := by unfold checkT; decide +kernel
theorem fieldY : checkT (fieldL 10 0 51) = 1 := by unfold checkT; decide +kernel
theorem nilC : checkT [] = 2 := by unfold checkT; decide +kernel
theorem fieldL3 : lineR (fieldL 10 0 6) 3 = ([3, 1, 0], 0) := by
  have h : queueE (fieldL 10 0 6) 3 = 0 := queueE_ok fieldC (by decide)
  rw [lineR_ok h]; decide +kernel
theorem fieldL4 : lineR (fieldL 10 0 6) 4 = ([], 6) := by
  have h : queueE (fieldL 10 0 6) 4 = 6 := queueE_none fieldC (by decide)
  rw [lineR_bad (by rw [h]; decide), h]
theorem fieldU1 : underR (fieldL 10 0 6) 1 = ([false, true, false, true], 0) := by
  have h : queueE (fieldL 10 0 6) 1 = 0 := queueE_ok fieldC (by decide)
  rw [underR_ok h]; decide +kernel

end Go.Proofs.Ytfbcmifclaaacaa

/- The laws on queues: treeBegun is true; TreeTells. -/
set_option linter.unusedVariables false
namespace Go.Proofs.Ytfbcmifclaaacaa
open Go.RowKit

theorem treeCheck_is {w : World} {v : Value} {l : List Queue} {n : Int} (h : checkT l = n) (hv : QueuesV w v l) :
    Calls Try.prog 62 #[v] w fun e w' => e = .returned (.int .i64 n) ∧ Ext w w' := by
  have := treeCheck_any w v l hv; rw [h] at this; exact this
theorem Name_is (s : ByteArray) (b : Bool) (h : decide (NameOk s) = b) (hs : s.size ≤ 9223372036854775807) (w : World) :
    Calls Try.prog 92 #[.string s] w fun e w' => e = .returned (.bool b) ∧ Ext w w' := by
  have := Name_any w s hs; rw [h] at this; exact this
/-- numbers that are written out -/
theorem ints_lit {w : World} {cs : Array Value} {b n : Nat} {t : TypeId} (l : List Int) (hb : b = w.heap.size) (hcs : cs = (l.map (Value.int .i64)).toArray) (hn : n = l.length) (hl : l.length ≤ 60) (hi : ∀ x ∈ l, I64 x) :
    IntsV (w.alloc (.cells cs t)) (.slice (some ⟨b, 0, none⟩) n n) l := by
  subst hb hcs hn
  refine .inr ⟨w.heap.size, 0, l.length, rfl, Nat.le_refl _, by omega, by omega, by simp, fun k x hk => ?_⟩
  refine ⟨?_, hi x (List.mem_of_getElem? hk)⟩
  rw [cell_of_row _ _ _ _ _ _ (heap_alloc_new w _)]
  simp [hk]
theorem bools_lit {w : World} {cs : Array Value} {b n : Nat} {t : TypeId} (l : List Bool) (hb : b = w.heap.size) (hcs : cs = (l.map Value.bool).toArray) (hn : n = l.length) (hl : l.length ≤ 60) :
    BoolsV (w.alloc (.cells cs t)) (.slice (some ⟨b, 0, none⟩) n n) l := by
  subst hb hcs hn
  refine .inr ⟨w.heap.size, 0, l.length, rfl, Nat.le_refl _, by omega, by omega, by simp, fun k x hk => ?_⟩
  show World.cell? _ _ = _
  rw [cell_of_row _ _ _ _ _ _ (heap_alloc_new w _)]
  simp [hk]

/-- the line, where there is no error -/
theorem lineL_pure {l : List Queue} {q : Int} : lineR l q = (if queueE l q = 0 then (lineL l q).map fun k : Nat => (k : Int) else [], queueE l q) := by
  by_cases h : queueE l q = 0
  · rw [lineR_ok h, if_pos h, h]
  · rw [lineR_bad h, if_neg h]
theorem underL_pure {l : List Queue} {q : Int} : underR l q = (if queueE l q = 0 then underL l q else [], queueE l q) := by
  by_cases h : queueE l q = 0
  · rw [underR_ok h, if_pos h, h]
  · rw [underR_bad h, if_neg h]

end Go.Proofs.Ytfbcmifclaaacaa
