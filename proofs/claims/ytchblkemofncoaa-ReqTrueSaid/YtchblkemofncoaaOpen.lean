/- What comes in, opened: a datum that is read leads to slices of runs. -/
import Derived.Test.YtchblkemofncoaaProg
import Derived.Test.YtchblkemofncoaaBase
import Derived.Deep.Slices
import Derived.ChangeSame
import Derived.SizedLaws
set_option linter.unusedVariables false
namespace Go.Proofs.Ytchblkemofncoaa
open Go.RowKit Go.ChangeShapes Go.WideShapes Go.Deep

section
variable {H : Type} {P : Program} {enc : TypeId × Value → H} {W : World} {base : Nat} {spare : Nat → Bool} {held : Bool}

/-- what is read of type e is an E -/
def Opens {α : Type} (P : Program) (enc : TypeId × Value → H) (W : World) (base : Nat) (spare : Nat → Bool) (held : Bool) (e : TypeId) (sz : Nat) (E : World → Nat → Nat → α → Prop) : Prop :=
  ∀ (fuel : Nat) (cs : List Value) (x : DataW H × List MemPlace), DataW.trod enc P W base spare held fuel e cs = some x → (∀ n ∈ x.1.weights P e, n ≤ reachBytes) →
    ∀ b o, (∀ j, j < sz → W.cell? ⟨b, o + j, none⟩ = cs[j]?) → ∃ y : α, E W b o y

theorem addr_add (b o j : Nat) : (⟨b, o, none⟩ : Addr).add j = ⟨b, o + j, none⟩ := by
  unfold Addr.add
  split <;> simp_all

theorem weightsAll_mem {e : TypeId} : ∀ {l : List (DataW H)} {d : DataW H}, d ∈ l → ∀ n ∈ d.weights P e, n ∈ DataW.weightsAll P e l
  | a :: l, d, hd, n, hn => by
    simp only [DataW.weightsAll, List.mem_append]
    rcases List.mem_cons.1 hd with rfl | hd
    · exact .inl hn
    · exact .inr (weightsAll_mem hd n hn)

theorem open_sv {α : Type} [Inhabited α] {t e : TypeId} {sz : Nat} {E : World → Nat → Nat → α → Prop} (ht : P.underlying t = some (.slice e)) (hc : P.cellsOf e = sz) (hsz : 0 < sz) (hby : 8 ≤ P.bytesOf e)
    (hE : Opens P enc W base spare held e sz E) {fuel : Nat} {v : Value} {x : DataW H × List MemPlace} (h : DataW.trod enc P W base spare held fuel t [v] = some x) (hw : ∀ n ∈ x.1.weights P t, n ≤ reachBytes) :
    ∃ xs, SV sz E W v xs := by
  rcases open_slice ht h with ⟨hv, _⟩ | ⟨a, len, cap, m, n, D, Pl, hv, hb, hl, hm, hmm, rfl, hx⟩
  · obtain rfl : v = .slice none 0 0 := by simpa using hv
    exact ⟨[], SV.nil⟩
  · obtain rfl : v = .slice (some a) len cap := by simpa using hv
    by_cases h0 : len = 0
    · subst h0
      exact ⟨[], .inl ⟨rfl, some a, cap, rfl, by unfold maxLen at hm; omega⟩⟩
    · have hlm : len ≤ m := by rw [hmm]; split <;> omega
      have hbig : len * 8 ≤ reachBytes := by
        have h1 := hw ((len + (m - len)) * P.bytesOf e) (by simp [DataW.weights, ht])
        have h2 : len * 8 ≤ (len + (m - len)) * P.bytesOf e := Nat.mul_le_mul (by omega) hby
        omega
      have cells : ∀ i, i < m → ∃ cs', DataW.trod enc P W base spare held n e cs' = some (D i, Pl i) ∧ ∀ j, j < sz → W.cell? ((a.add (i * sz)).add j) = cs'[j]? ∧ cs'.length = sz := by
        intro i hi
        obtain ⟨cs', h1, h2⟩ := hx i hi
        rw [hc] at h1
        obtain ⟨_, h3, h4⟩ := World.cells?_some h1
        exact ⟨cs', h2, fun j hj => ⟨h4 j hj, h3⟩⟩
      obtain ⟨cs0, _, h1⟩ := cells 0 (by omega)
      obtain ⟨h2, h3⟩ := h1 0 hsz
      have h4 : W.cell? ((a.add (0 * sz)).add 0) = some (cs0[0]'(by omega)) := by rw [h2, List.getElem?_eq_getElem]
      have hspot := World.cell?_spot h4
      have hblk := World.block_lt_of_cell? W _ h4
      obtain ⟨b, off, spot⟩ := a
      obtain rfl : spot = none := by simpa [Addr.add] using hspot
      have hb2 : b < W.heap.size := by simpa [Addr.add] using hblk
      have each : ∀ i, i < len → ∃ y : α, E W b (off + i * sz) y := by
        intro i hi
        obtain ⟨cs', h5, h6⟩ := cells i (by omega)
        refine hE n cs' _ h5 (fun k hk => hw k ?_) b _ (fun j hj => by have := (h6 j hj).1; rw [addr_add, addr_add] at this; exact this)
        simp only [DataW.weights, ht, List.mem_cons, List.mem_append]
        exact .inr (.inl (weightsAll_mem (List.mem_map.2 ⟨i, List.mem_range.2 hi, rfl⟩) k hk))
      obtain ⟨f, hf⟩ := choose_lt (α := α) (p := fun i y => E W b (off + i * sz) y) each
      refine ⟨(List.range len).map f, .inr ⟨b, off, cap, by simp, by simpa using hl, by unfold maxLen at hm; omega, by simp; unfold reachBytes at hbig; omega, hb2, fun k y hk => ?_⟩⟩
      rw [List.getElem?_map] at hk
      by_cases hkl : k < len
      · rw [List.getElem?_range hkl] at hk
        simp at hk
        subst hk
        exact hf k hkl
      · rw [List.getElem?_eq_none (by simpa using hkl)] at hk
        cases hk
end

theorem cells79_is : Try.prog.cellsOf 79 = 2 := by kernel_rfl
theorem bytes79_is : 8 ≤ Try.prog.bytesOf 79 := of_decide_eq_true (by kernel_rfl)
theorem cells3_is : Try.prog.cellsOf 3 = 1 := by kernel_rfl

section
variable {H : Type} {enc : TypeId × Value → H} {W : World} {base : Nat} {spare : Nat → Bool} {held : Bool}

set_option maxRecDepth 100000 in
theorem opens_run : Opens Try.prog enc W base spare held 79 2 ERun := by
  intro fuel cs x h hw b o hcell
  obtain ⟨y0, y1, n, rfl, hl, h0, h1⟩ := trod_struct2 Try.underlying79 h
  rw [cells79_is] at hl
  match cs, hl with
  | [c0, c1], _ =>
    simp only [cells3_is, List.drop_zero, List.drop_succ_cons, List.take_succ_cons, List.take_zero] at h0 h1
    obtain ⟨n0, e0, _, w0⟩ := DataW.trod_int Try.underlying3 h0
    obtain ⟨n1, e1, _, w1⟩ := DataW.trod_int Try.underlying3 h1
    simp only [List.cons.injEq, and_true] at e0 e1
    subst e0 e1
    exact ⟨⟨n0, n1⟩, hcell 0 (by omega), hcell 1 (by omega), I64.of_wf w0, I64.of_wf w1⟩

set_option maxRecDepth 100000 in
theorem open_runs {fuel : Nat} {v : Value} {x : DataW H × List MemPlace} (h : DataW.trod enc Try.prog W base spare held fuel 40 [v] = some x) (hw : ∀ n ∈ x.1.weights Try.prog 40, n ≤ reachBytes) : ∃ xs, RunsV W v xs :=
  open_sv Try.underlying40 cells79_is (by omega) bytes79_is opens_run h hw
end

end Go.Proofs.Ytchblkemofncoaa
