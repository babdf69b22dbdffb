/- Laws of runs: what they need. -/
import Derived.Test.YtfbcmifclaaacaaRefD
import Derived.Laws.OwnMore

/- The laws on runs: what must be in any case. -/
set_option linter.unusedVariables false
namespace Go.Proofs.Ytfbcmifclaaacaa
open Go.RowKit

/-- runs that are written out -/
theorem runs_lit {w : World} {cs : Array Value} {b n : Nat} (l : List Run) (hb : b = w.heap.size) (hcs : cs = (cells2 Run.At Run.N l).toArray) (hn : n = l.length) (hl : l.length ≤ 48) (hi : ∀ r ∈ l, I64 r.At ∧ I64 r.N) :
    RunsV (w.alloc (.cells cs 73)) (.slice (some ⟨b, 0, none⟩) n n) l := by
  subst hb hcs hn
  have hsz : (cells2 Run.At Run.N l).toArray.size = l.length * 2 := by
    clear hl hi
    induction l with
    | nil => rfl
    | cons a l ih => simp [cells2] at ih ⊢; omega
  have := World.ownsRow_lit (base := w.heap.size) (e := 73) (size := 2) w (cells2 Run.At Run.N l).toArray l.length (Nat.le_refl _) (by unfold maxLen; omega) hsz
  exact sv_of_owns2 (by simpa using this) hi (by omega)

theorem Plus_is {w : World} {vf vg : Value} {f g l : List Run} {n : Int} (h : bothR f g (fun a b => a + b) = (l, n)) (hf : RunsV w vf f) (hg : RunsV w vg g) :
    Calls Try.prog 86 #[vf, vg] w fun e w' => ∃ v, e = .returned (.tuple #[v, .int .i64 n]) ∧ RunsV w' v l ∧ Ext w w' := by
  have := Plus_any w vf vg f g hf hg; rw [h] at this; exact this
theorem Bump_is {w : World} {vf : Value} {f l : List Run} {a b c n : Int} (h : bumpR f a b c = (l, n)) (hf : RunsV w vf f) :
    Calls Try.prog 57 #[vf, .int .i64 a, .int .i64 b, .int .i64 c] w fun e w' => ∃ v, e = .returned (.tuple #[v, .int .i64 n]) ∧ RunsV w' v l ∧ Ext w w' := by
  have := Bump_any w vf f a b c hf; rw [h] at this; exact this
theorem Value_is {w : World} {vf : Value} {f : List Run} {t m n : Int} (h : valueR f t = (m, n)) (hf : RunsV w vf f) :
    Calls Try.prog 19 #[vf, .int .i64 t] w fun e w' => e = .returned (.tuple #[.int .i64 m, .int .i64 n]) ∧ Ext w w' := by
  have := Value_any w vf f t hf; rw [h] at this; exact this
theorem Least_is {w : World} {vf : Value} {f : List Run} {a b m n : Int} (h : leastR f a b = (m, n)) (hf : RunsV w vf f) :
    Calls Try.prog 13 #[vf, .int .i64 a, .int .i64 b] w fun e w' => e = .returned (.tuple #[.int .i64 m, .int .i64 n]) ∧ Ext w w' := by
  have := Least_any w vf f a b hf; rw [h] at this; exact this
theorem Check_is {w : World} {vf : Value} {f : List Run} {n : Int} (h : chk f = n) (hf : RunsV w vf f) :
    Calls Try.prog 38 #[vf] w fun e w' => e = .returned (.int .i64 n) ∧ Ext w w' := by
  have := Check_any w vf f hf; rw [h] at this; exact this
theorem Same_is {w : World} {vf vg : Value} {f g : List Run} (h : f = g) (hf : RunsV w vf f) (hg : RunsV w vg g) :
    Calls Try.prog 52 #[vf, vg] w fun e w' => e = .returned (.bool true) ∧ Ext w w' := by
  have := SameRuns_any w vf vg f g hf hg; rw [decide_eq_true h] at this; exact this

def fB : List Run := [⟨0, 5⟩, ⟨10, 8⟩]
def gB : List Run := [⟨0, 1⟩, ⟨10, -2⟩, ⟨20, 0⟩]
def pB : List Run := [⟨0, 6⟩, ⟨20, 8⟩]
def cB : List Run := [⟨0, 5⟩, ⟨5, 7⟩, ⟨10, 10⟩, ⟨12, 8⟩]
def badB : List Run := [⟨0, 0⟩, ⟨1, 0⟩]

theorem fB_fine : Fine fB := of_decide_eq_true (by decide +kernel)
theorem gB_fine : Fine gB := of_decide_eq_true (by decide +kernel)
theorem toldT_is {x : Nat → Int} {l : List Run} (h : ((List.range 48).all fun t => decide (NumOk (x t))) = true) (hl : foldTo x 48 = l) : toldT x = (l, 0) := by
  rw [toldT_yes (fun t ht => by simpa using List.all_eq_true.1 h t (List.mem_range.2 ht)), fold_eq, hl]
theorem plusB : bothR fB gB (fun a b => a + b) = (pB, 0) := by
  rw [bothR_yes fB_fine gB_fine]; exact toldT_is (by decide +kernel) (by decide +kernel)
theorem lesserB : bothR fB gB (fun a b => min a b) = (gB, 0) := by
  rw [bothR_yes fB_fine gB_fine]; exact toldT_is (by decide +kernel) (by decide +kernel)
theorem bumpB : bumpR fB 5 12 2 = (cB, 0) := by
  unfold bumpR
  rw [if_pos fB_fine, if_pos (by decide)]; exact toldT_is (by decide +kernel) (by decide +kernel)
theorem bumpB2 : bumpR fB 5 5 1 = ([], 3) := by
  unfold bumpR
  rw [if_pos fB_fine, if_neg (by decide)]
theorem valueB : valueR fB 10 = (8, 0) := by unfold valueR; decide +kernel
theorem leastB : leastR cB 5 11 = (7, 0) := by unfold leastR; decide +kernel
theorem chkB : chk fB = 0 := chk_yes fB_fine
theorem chkB0 : chk [] = 1 := chk_no (of_decide_eq_false (by decide +kernel))
theorem chkB1 : chk badB = 1 := chk_no (of_decide_eq_false (by decide +kernel))

theorem lit_nums {l : List Run} (h : (l.all fun r => decide (-9000000 ≤ r.At ∧ r.At ≤ 9000000 ∧ -9000000 ≤ r.N ∧ r.N ≤ 9000000)) = true) : ∀ r ∈ l, I64 r.At ∧ I64 r.N := fun r hr => by
  have := of_decide_eq_true (List.all_eq_true.1 h r hr)
  exact ⟨I64.of (by omega) (by omega), I64.of (by omega) (by omega)⟩

theorem runs_at {w W : World} {b n : Nat} (l : List Run) {cs : Array Value} (hcs : cs = (cells2 Run.At Run.N l).toArray) (hn : n = l.length) (hl : l.length ≤ 48)
    (h : (l.all fun r => decide (-9000000 ≤ r.At ∧ r.At ≤ 9000000 ∧ -9000000 ≤ r.N ∧ r.N ≤ 9000000)) = true) (hb : b = w.heap.size) (hx : Ext (w.alloc (.cells cs 73)) W) : RunsV W (.slice (some ⟨b, 0, none⟩) n n) l :=
  (runs_lit l hb hcs hn hl (lit_nums h)).mono hx

end Go.Proofs.Ytfbcmifclaaacaa

/- The laws on runs: runsBegun is true. -/
set_option linter.unusedVariables false
namespace Go.Proofs.Ytfbcmifclaaacaa
open Go.RowKit

end Go.Proofs.Ytfbcmifclaaacaa

/- The laws on runs: walks of RunsTells, RunsBumps, RunsTwo. -/
set_option linter.unusedVariables false
namespace Go.Proofs.Ytfbcmifclaaacaa
open Go.RowKit

end Go.Proofs.Ytfbcmifclaaacaa
