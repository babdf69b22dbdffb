/- What comes in, opened: slices of queues. -/
import Derived.Test.YtchblkemofncoaaOpen
import Derived.Deep.Strs
import Derived.ChangeArms
set_option linter.unusedVariables false
namespace Go.Proofs.Ytchblkemofncoaa
open Go.RowKit Go.ChangeShapes Go.WideShapes Go.Deep

theorem cells42_is : Try.prog.cellsOf 42 = 3 := by kernel_rfl
theorem bytes42_is : 8 ≤ Try.prog.bytesOf 42 := of_decide_eq_true (by kernel_rfl)
theorem cells9_is : Try.prog.cellsOf 9 = 1 := by kernel_rfl
theorem cells40_is : Try.prog.cellsOf 40 = 1 := by kernel_rfl

section
variable {H : Type} {enc : TypeId × Value → H} {W : World} {base : Nat} {spare : Nat → Bool} {held : Bool}

set_option maxRecDepth 100000 in
theorem opens_queue : Opens Try.prog enc W base spare held 42 3 EQueue := by
  intro fuel cs x h hw b o hcell
  obtain ⟨y0, y1, y2, n, rfl, hl, h0, h1, h2⟩ := trod_struct3 Try.underlying42 h
  rw [cells42_is] at hl
  match cs, hl with
  | [c0, c1, c2], _ =>
    simp only [cells3_is, cells9_is, cells40_is, List.drop_zero, List.drop_succ_cons, List.take_succ_cons, List.take_zero] at h0 h1 h2
    obtain ⟨s, e0, _, w0⟩ := DataW.trod_string Try.underlying9 h0
    obtain ⟨n1, e1, _, w1⟩ := DataW.trod_int Try.underlying3 h1
    simp only [List.cons.injEq, and_true] at e0 e1
    subst e0 e1
    obtain ⟨xs, hxs⟩ := open_runs h2 (fun k hk => hw k (by
      simp only [DataW.weights, Try.underlying42, List.map_cons, List.map_nil, DataW.weightsEach, List.mem_append]
      exact .inr (.inr (.inl hk))))
    exact ⟨⟨s, n1, xs⟩, hcell 0 (by omega), w0, hcell 1 (by omega), I64.of_wf w1, _, hcell 2 (by omega), hxs⟩

set_option maxRecDepth 100000 in
theorem open_queues {fuel : Nat} {v : Value} {x : DataW H × List MemPlace} (h : DataW.trod enc Try.prog W base spare held fuel 22 [v] = some x) (hw : ∀ n ∈ x.1.weights Try.prog 22, n ≤ reachBytes) : ∃ xs, QueuesV W v xs :=
  open_sv Try.underlying22 cells42_is (by omega) bytes42_is opens_queue h hw
end

end Go.Proofs.Ytchblkemofncoaa
