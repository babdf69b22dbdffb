/- What comes in, opened: pieces, bites, requests, books. -/
import Derived.Test.YtchblkemofncoaaOpenB
set_option linter.unusedVariables false
namespace Go.Proofs.Ytchblkemofncoaa
open Go.RowKit Go.ChangeShapes Go.WideShapes Go.Deep

theorem cells89_is : Try.prog.cellsOf 89 = 2 := by kernel_rfl
theorem bytes89_is : 8 ≤ Try.prog.bytesOf 89 := of_decide_eq_true (by kernel_rfl)
theorem cells54_is : Try.prog.cellsOf 54 = 2 := by kernel_rfl
theorem bytes54_is : 8 ≤ Try.prog.bytesOf 54 := of_decide_eq_true (by kernel_rfl)
theorem cells46_is : Try.prog.cellsOf 46 = 5 := by kernel_rfl
theorem cells44_is : Try.prog.cellsOf 44 = 1 := by kernel_rfl

section
variable {H : Type} {P : Program} {enc : TypeId × Value → H} {w : World} {base : Nat} {spare : Nat → Bool} {held : Bool}
theorem trod_struct5 {t : TypeId} {f0 f1 f2 f3 f4 : Field} {fuel : Nat} {cs : List Value} {x : DataW H × List MemPlace} (ht : P.underlying t = some (.struct #[f0, f1, f2, f3, f4])) (h : DataW.trod enc P w base spare held fuel t cs = some x) :
    ∃ y0 y1 y2 y3 y4 n, x = (.agg [y0.1, y1.1, y2.1, y3.1, y4.1], y0.2 ++ (y1.2 ++ (y2.2 ++ (y3.2 ++ y4.2)))) ∧ cs.length = P.cellsOf t ∧ DataW.trod enc P w base spare held n f0.type ((cs.drop f0.offset).take (P.cellsOf f0.type)) = some y0 ∧
      DataW.trod enc P w base spare held n f1.type ((cs.drop f1.offset).take (P.cellsOf f1.type)) = some y1 ∧ DataW.trod enc P w base spare held n f2.type ((cs.drop f2.offset).take (P.cellsOf f2.type)) = some y2 ∧
      DataW.trod enc P w base spare held n f3.type ((cs.drop f3.offset).take (P.cellsOf f3.type)) = some y3 ∧ DataW.trod enc P w base spare held n f4.type ((cs.drop f4.offset).take (P.cellsOf f4.type)) = some y4 := by
  obtain ⟨xs, n, _, rfl, hl, hlen, hf⟩ := DataW.trod_struct ht h
  match xs, hlen with
  | [y0, y1, y2, y3, y4], _ => exact ⟨y0, y1, y2, y3, y4, n, by simp, hl, by simpa using hf 0 f0 rfl, by simpa using hf 1 f1 rfl, by simpa using hf 2 f2 rfl, by simpa using hf 3 f3 rfl, by simpa using hf 4 f4 rfl⟩
end

section
variable {H : Type} {enc : TypeId × Value → H} {W : World} {base : Nat} {spare : Nat → Bool} {held : Bool}

set_option maxRecDepth 100000 in
theorem opens_piece : Opens Try.prog enc W base spare held 89 2 EPiece := by
  intro fuel cs x h hw b o hcell
  obtain ⟨y0, y1, n, rfl, hl, h0, h1⟩ := trod_struct2 Try.underlying89 h
  rw [cells89_is] at hl
  match cs, hl with
  | [c0, c1], _ =>
    simp only [cells3_is, List.drop_zero, List.drop_succ_cons, List.take_succ_cons, List.take_zero] at h0 h1
    obtain ⟨n0, e0, _, w0⟩ := DataW.trod_int Try.underlying3 h0
    obtain ⟨n1, e1, _, w1⟩ := DataW.trod_int Try.underlying3 h1
    simp only [List.cons.injEq, and_true] at e0 e1
    subst e0 e1
    exact ⟨⟨n0, n1⟩, hcell 0 (by omega), hcell 1 (by omega), I64.of_wf w0, I64.of_wf w1⟩

set_option maxRecDepth 100000 in
theorem opens_bite : Opens Try.prog enc W base spare held 54 2 EBite := by
  intro fuel cs x h hw b o hcell
  obtain ⟨y0, y1, n, rfl, hl, h0, h1⟩ := trod_struct2 Try.underlying54 h
  rw [cells54_is] at hl
  match cs, hl with
  | [c0, c1], _ =>
    simp only [cells3_is, List.drop_zero, List.drop_succ_cons, List.take_succ_cons, List.take_zero] at h0 h1
    obtain ⟨n0, e0, _, w0⟩ := DataW.trod_int Try.underlying3 h0
    obtain ⟨n1, e1, _, w1⟩ := DataW.trod_int Try.underlying3 h1
    simp only [List.cons.injEq, and_true] at e0 e1
    subst e0 e1
    exact ⟨⟨n0, n1⟩, hcell 0 (by omega), hcell 1 (by omega), I64.of_wf w0, I64.of_wf w1⟩

set_option maxRecDepth 100000 in
theorem open_pieces {fuel : Nat} {v : Value} {x : DataW H × List MemPlace} (h : DataW.trod enc Try.prog W base spare held fuel 44 [v] = some x) (hw : ∀ n ∈ x.1.weights Try.prog 44, n ≤ reachBytes) : ∃ xs, PiecesV W v xs :=
  open_sv Try.underlying44 cells89_is (by omega) bytes89_is opens_piece h hw

set_option maxRecDepth 100000 in
theorem open_bites {fuel : Nat} {v : Value} {x : DataW H × List MemPlace} (h : DataW.trod enc Try.prog W base spare held fuel 47 [v] = some x) (hw : ∀ n ∈ x.1.weights Try.prog 47, n ≤ reachBytes) : ∃ xs, BitesV W v xs :=
  open_sv Try.underlying47 cells54_is (by omega) bytes54_is opens_bite h hw

set_option maxRecDepth 100000 in
theorem open_reqC {fuel : Nat} {cs : List Value} {x : DataW H × List MemPlace} (h : DataW.trod enc Try.prog W base spare held fuel 46 cs = some x) (hw : ∀ n ∈ x.1.weights Try.prog 46, n ≤ reachBytes) : ∃ r, ReqC W cs r := by
  obtain ⟨y0, y1, y2, y3, y4, n, rfl, hl, h0, h1, h2, h3, h4⟩ := trod_struct5 Try.underlying46 h
  rw [cells46_is] at hl
  match cs, hl with
  | [c0, c1, c2, c3, c4], _ =>
    simp only [cells3_is, cells44_is, List.drop_zero, List.drop_succ_cons, List.take_succ_cons, List.take_zero] at h0 h1 h2 h3 h4
    obtain ⟨n0, e0, _, w0⟩ := DataW.trod_int Try.underlying3 h0
    obtain ⟨n1, e1, _, w1⟩ := DataW.trod_int Try.underlying3 h1
    obtain ⟨n2, e2, _, w2⟩ := DataW.trod_int Try.underlying3 h2
    obtain ⟨n3, e3, _, w3⟩ := DataW.trod_int Try.underlying3 h3
    simp only [List.cons.injEq, and_true] at e0 e1 e2 e3
    subst e0 e1 e2 e3
    obtain ⟨xs, hxs⟩ := open_pieces h4 (fun k hk => hw k (by
      simp only [DataW.weights, Try.underlying46, List.map_cons, List.map_nil, DataW.weightsEach, List.mem_append]
      exact .inr (.inr (.inr (.inr (.inl hk))))))
    exact ⟨⟨n0, n1, n2, n3, xs⟩, _, rfl, hxs, I64.of_wf w0, I64.of_wf w1, I64.of_wf w2, I64.of_wf w3⟩

set_option maxRecDepth 100000 in
theorem open_req {r : Reach} {b0 : Nat} {v : Value} {d : DataW H} {p : List MemPlace} (hv : Value.okWide Try.prog W r b0 46 v) (h : DataW.Trod enc Try.prog W base spare held 46 v d p) (hw : ∀ n ∈ d.weights Try.prog 46, n ≤ reachBytes) : ∃ x, ReqV W v x := by
  obtain ⟨cs, rfl, hsz⟩ := okWide_struct Try.underlying46 hv
  obtain ⟨fuel, hf⟩ := h
  obtain ⟨x, hx⟩ := open_reqC (cs := cs.toList) (by simpa [Value.cells] using hf) hw
  exact ⟨x, cs.toList, by simp, hx⟩
end

end Go.Proofs.Ytchblkemofncoaa
