/- What the row lists, read; what comes in, opened. -/
import Derived.Test.YtdcndkojmflhnaaDoorTextL
import Derived.Test.YtdcndkojmflhnaaDoorRows
import Derived.ProofKit
import Derived.OpenShut
import Derived.ShutString
import Derived.ChangeOld
import Derived.Below
import Derived.SizedLaws
import Derived.Deep.Slices
import Derived.ChangeSame
import Derived.Deep.Strs
import Derived.ChangeArms
import Derived.LaidMore
import Derived.LaidHandle
import Derived.Stop.LaidErr
import Derived.Stop.Joined
import Derived.Lib.LaidU8
import Derived.Lib.LaidTab
import Derived.Shelf.Vars
import Derived.HandedShaped
set_option linter.unusedVariables false
set_option linter.unusedSimpArgs false
set_option maxRecDepth 100000
set_option maxHeartbeats 4000000
namespace Go.Proofs.YtdcndkojmflhnaaDoor
open Go.RowKit Go.ChangeShapes Go.WideShapes Go.Deep
section
variable {H : Type} {P : Program} {enc : TypeId × Value → H} {W : World} {base : Nat} {spare : Nat → Bool} {held : Bool}
/-- what is read of type e is an E -/
def Opens {α : Type} (P : Program) (enc : TypeId × Value → H) (W : World) (base : Nat) (spare : Nat → Bool) (held : Bool) (e : TypeId) (sz : Nat) (E : World → Nat → Nat → α → Prop) : Prop :=
  ∀ (fuel : Nat) (cs : List Value) (x : DataW H × List MemPlace), DataW.trod enc P W base spare held fuel e cs = some x → (∀ n ∈ x.1.weights P e, n ≤ reachBytes) →
    ∀ b o, (∀ j, j < sz → W.cell? ⟨b, o + j, none⟩ = cs[j]?) → ∃ y : α, E W b o y

theorem addr_add (b o j : Nat) : (⟨b, o, none⟩ : Addr).add j = ⟨b, o + j, none⟩ := by
  unfold Addr.add
  split <;> simp_all

theorem weightsAll_mem {e : TypeId} : ∀ {l : List (DataW H)} {d : DataW H}, d ∈ l → ∀ n ∈ d.weights P e, n ∈ DataW.weightsAll P e l
  | a :: l, d, hd, n, hn => by
    simp only [DataW.weightsAll, List.mem_append]
    rcases List.mem_cons.1 hd with rfl | hd
    · exact .inl hn
    · exact .inr (weightsAll_mem hd n hn)

theorem open_sv {α : Type} [Inhabited α] {t e : TypeId} {sz : Nat} {E : World → Nat → Nat → α → Prop} (ht : P.underlying t = some (.slice e)) (hc : P.cellsOf e = sz) (hsz : 0 < sz) (hby : 8 ≤ P.bytesOf e)
    (hE : Opens P enc W base spare held e sz E) {fuel : Nat} {v : Value} {x : DataW H × List MemPlace} (h : DataW.trod enc P W base spare held fuel t [v] = some x) (hw : ∀ n ∈ x.1.weights P t, n ≤ reachBytes) :
    ∃ xs, SV sz E W v xs := by
  rcases open_slice ht h with ⟨hv, _⟩ | ⟨a, len, cap, m, n, D, Pl, hv, hb, hl, hm, hmm, rfl, hx⟩
  · obtain rfl : v = .slice none 0 0 := by simpa using hv
    exact ⟨[], SV.nil⟩
  · obtain rfl : v = .slice (some a) len cap := by simpa using hv
    by_cases h0 : len = 0
    · subst h0
      exact ⟨[], .inl ⟨rfl, some a, cap, rfl, by unfold maxLen at hm; omega⟩⟩
    · have hlm : len ≤ m := by rw [hmm]; split <;> omega
      have hbig : len * 8 ≤ reachBytes := by
        have h1 := hw ((len + (m - len)) * P.bytesOf e) (by simp [DataW.weights, ht])
        have h2 : len * 8 ≤ (len + (m - len)) * P.bytesOf e := Nat.mul_le_mul (by omega) hby
        omega
      have cells : ∀ i, i < m → ∃ cs', DataW.trod enc P W base spare held n e cs' = some (D i, Pl i) ∧ ∀ j, j < sz → W.cell? ((a.add (i * sz)).add j) = cs'[j]? ∧ cs'.length = sz := by
        intro i hi
        obtain ⟨cs', h1, h2⟩ := hx i hi
        rw [hc] at h1
        obtain ⟨_, h3, h4⟩ := World.cells?_some h1
        exact ⟨cs', h2, fun j hj => ⟨h4 j hj, h3⟩⟩
      obtain ⟨cs0, _, h1⟩ := cells 0 (by omega)
      obtain ⟨h2, h3⟩ := h1 0 hsz
      have h4 : W.cell? ((a.add (0 * sz)).add 0) = some (cs0[0]'(by omega)) := by rw [h2, List.getElem?_eq_getElem]
      have hspot := World.cell?_spot h4
      have hblk := World.block_lt_of_cell? W _ h4
      obtain ⟨b, off, spot⟩ := a
      obtain rfl : spot = none := by simpa [Addr.add] using hspot
      have hb2 : b < W.heap.size := by simpa [Addr.add] using hblk
      have each : ∀ i, i < len → ∃ y : α, E W b (off + i * sz) y := by
        intro i hi
        obtain ⟨cs', h5, h6⟩ := cells i (by omega)
        refine hE n cs' _ h5 (fun k hk => hw k ?_) b _ (fun j hj => by have := (h6 j hj).1; rw [addr_add, addr_add] at this; exact this)
        simp only [DataW.weights, ht, List.mem_cons, List.mem_append]
        exact .inr (.inl (weightsAll_mem (List.mem_map.2 ⟨i, List.mem_range.2 hi, rfl⟩) k hk))
      obtain ⟨f, hf⟩ := choose_lt (α := α) (p := fun i y => E W b (off + i * sz) y) each
      refine ⟨(List.range len).map f, .inr ⟨b, off, cap, by simp, by simpa using hl, by unfold maxLen at hm; omega, by simp; unfold reachBytes at hbig; omega, hb2, fun k y hk => ?_⟩⟩
      rw [List.getElem?_map] at hk
      by_cases hkl : k < len
      · rw [List.getElem?_range hkl] at hk
        simp at hk
        subst hk
        exact hf k hkl
      · rw [List.getElem?_eq_none (by simpa using hkl)] at hk
        cases hk
set_option maxRecDepth 100000 in
end
theorem cells3_is : Tryd.prog.cellsOf 3 = 1 := by kernel_rfl
theorem cells9_is : Tryd.prog.cellsOf 9 = 1 := by kernel_rfl
theorem cells39_is : Tryd.prog.cellsOf 39 = 1 := by kernel_rfl
theorem cells48_is : Tryd.prog.cellsOf 48 = 2 := by kernel_rfl
theorem bytes48_is : 8 ≤ Tryd.prog.bytesOf 48 := of_decide_eq_true (by kernel_rfl)
theorem cells41_is : Tryd.prog.cellsOf 41 = 3 := by kernel_rfl
theorem bytes41_is : 8 ≤ Tryd.prog.bytesOf 41 := of_decide_eq_true (by kernel_rfl)
section
variable {H : Type} {enc : TypeId × Value → H} {W : World} {base : Nat} {spare : Nat → Bool} {held : Bool}
theorem opens_run : Opens Tryd.prog enc W base spare held 48 2 ERun := by
  intro fuel cs x h hw b o hcell
  obtain ⟨y0, y1, n, rfl, hl, h0, h1⟩ := trod_struct2 Tryd.underlying48 h
  rw [cells48_is] at hl
  match cs, hl with
  | [c0, c1], _ =>
    simp only [cells3_is, List.drop_zero, List.drop_succ_cons, List.take_succ_cons, List.take_zero] at h0 h1
    obtain ⟨n0, e0, _, w0⟩ := DataW.trod_int Tryd.underlying3 h0
    obtain ⟨n1, e1, _, w1⟩ := DataW.trod_int Tryd.underlying3 h1
    simp only [List.cons.injEq, and_true] at e0 e1
    subst e0 e1
    exact ⟨⟨n0, n1⟩, hcell 0 (by omega), hcell 1 (by omega), I64.of_wf w0, I64.of_wf w1⟩

set_option maxRecDepth 100000 in
theorem open_runs {fuel : Nat} {v : Value} {x : DataW H × List MemPlace} (h : DataW.trod enc Tryd.prog W base spare held fuel 39 [v] = some x) (hw : ∀ n ∈ x.1.weights Tryd.prog 39, n ≤ reachBytes) : ∃ xs, RunsV W v xs :=
  open_sv Tryd.underlying39 cells48_is (by omega) bytes48_is opens_run h hw
set_option maxRecDepth 100000 in
theorem opens_queue : Opens Tryd.prog enc W base spare held 41 3 EQueue := by
  intro fuel cs x h hw b o hcell
  obtain ⟨y0, y1, y2, n, rfl, hl, h0, h1, h2⟩ := trod_struct3 Tryd.underlying41 h
  rw [cells41_is] at hl
  match cs, hl with
  | [c0, c1, c2], _ =>
    simp only [cells3_is, cells9_is, cells39_is, List.drop_zero, List.drop_succ_cons, List.take_succ_cons, List.take_zero] at h0 h1 h2
    obtain ⟨s, e0, _, w0⟩ := DataW.trod_string Tryd.underlying9 h0
    obtain ⟨n1, e1, _, w1⟩ := DataW.trod_int Tryd.underlying3 h1
    simp only [List.cons.injEq, and_true] at e0 e1
    subst e0 e1
    obtain ⟨xs, hxs⟩ := open_runs h2 (fun k hk => hw k (by
      simp only [DataW.weights, Tryd.underlying41, List.map_cons, List.map_nil, DataW.weightsEach, List.mem_append]
      exact .inr (.inr (.inl hk))))
    exact ⟨⟨s, n1, xs⟩, hcell 0 (by omega), w0, hcell 1 (by omega), I64.of_wf w1, _, hcell 2 (by omega), hxs⟩

set_option maxRecDepth 100000 in
theorem open_queues {fuel : Nat} {v : Value} {x : DataW H × List MemPlace} (h : DataW.trod enc Tryd.prog W base spare held fuel 22 [v] = some x) (hw : ∀ n ∈ x.1.weights Tryd.prog 22, n ≤ reachBytes) : ∃ xs, QueuesV W v xs :=
  open_sv Tryd.underlying22 cells41_is (by omega) bytes41_is opens_queue h hw
end
/-! ### what the listed variables hold -/
theorem gRange : Tryd.prog.globalNamed "strconv.ErrRange" = some 5 := by kernel_rfl
theorem gSyntax : Tryd.prog.globalNamed "strconv.ErrSyntax" = some 4 := by kernel_rfl
theorem gRangeT : (Tryd.prog.globals[5]?).map (·.type) = some 43 := by kernel_rfl
theorem gSyntaxT : (Tryd.prog.globals[4]?).map (·.type) = some 43 := by kernel_rfl
theorem starE : "*" ++ "errors.errorString" = "*errors.errorString" := by decide
theorem row_err (u : TypeId) (h : Tryd.prog.typeName? 3 u = some "*errors.errorString") : u = 142 :=
  typeName_ptr_named (nm := "errors.errorString") (by rw [starE]; kernel_rfl) (by kernel_rfl) (by decide) u (by rw [starE]; exact h)
theorem cells_err : Tryd.prog.cellsOf 144 = 1 := by kernel_rfl
theorem text_of_laid {W : World} {b32 b64 p10 : String × DataW Unit} {l : List (String × DataW Unit)} (h : laidMet Tryd.prog (b32 :: b64 :: p10 :: ("strconv.ErrRange", Rows.laid_strconv_ErrRange) :: ("strconv.ErrSyntax", Rows.laid_strconv_ErrSyntax) :: ("unicode.White_Space", Rows.laid_unicode_White_Space) :: ("strings.asciiSpace", Rows.laid_strings_asciiSpace) :: l) W)
    (hs : W.ShapedOpen Tryd.prog) : TextW W := by
  have h3 := h.tail.tail.tail
  obtain ⟨a0, s0, hv0, -, -, -⟩ := laid_sentinel h3 gRange gRangeT Tryd.underlying43 row_err Tryd.underlying142 Tryd.underlying144 rfl rfl Tryd.underlying9 cells_err cells9_is
  obtain ⟨a1, s1, hv1, -, -, -⟩ := laid_sentinel h3.tail gSyntax gSyntaxT Tryd.underlying43 row_err Tryd.underlying142 Tryd.underlying144 rfl rfl Tryd.underlying9 cells_err cells9_is
  have h5 := h3.tail.tail
  have hwh := Lib.laidMet.reads h5 (List.mem_cons_self ..)
  have c5 : W.cell? ⟨5, 0, none⟩ = some (.iface 142 (.pointer (some a0))) := by have h0 := World.var?_cell gRange hv0 0; simpa using h0
  refine ⟨?_, ?_, ?_, ?_, ⟨_, _, c5⟩, by have := cell_lt c5; omega⟩
  · exact cell_of_shapedOpen_int (t := 3) (zero := #[.int .i64 0]) hs (by decide) (by kernel_rfl) rfl (by kernel_rfl) (by kernel_rfl) Tryd.underlying3
  · exact Lib.tabIs_of_head (g := 0) (t := 85) (e := 5) (n := 256) space_at (by kernel_rfl) Tryd.underlying85 Tryd.underlying5 (by kernel_rfl) (by kernel_rfl) (show laidMet Tryd.prog (("strings.asciiSpace", Lib.tabData .u8 Lib.asciiSpaceTab) :: l) W from h5.tail)
  · exact whiteTab_of_reads (ρ := Tryd.lays157_ren) { Tryd.lays157 with } ⟨by kernel_rfl, by kernel_rfl, by kernel_rfl, by kernel_rfl, by kernel_rfl, by kernel_rfl, by kernel_rfl, by kernel_rfl⟩ hwh
  · exact ⟨_, _, by have h0 := World.var?_cell gSyntax hv1 0; simpa using h0⟩
/-- the plain wrap, the listed variables and the world's shape kept -/
theorem returns_laid {H : Type} {enc : TypeId × Value → H} {a : Assume} {C : Checked} {os : Os} {f : FuncId} {fn : Func} {s : ChangeSpec} {conds : List PathCond} {apart fresh handsOn again : Bool} {X : World → Array Value → Prop}
    (hX : ∀ (w w' : World) (args : Array Value), w.heap = w'.heap → X w args → X w' args)
    (own : ownKnob C.prog.godebug = none) (started : os.Started) (noInit : C.prog.inits.idxOf? f = none) (hfn : C.prog.funcs[f]? = some fn)
    (witness : ∃ (w : World) (tape : Tape) (i : Input), w.os = os ∧ (w.forCall tape i).Shaped C.prog ∧ i.vars = [] ∧ Input.okWide C.prog (w.forCall tape i) .any w.heap.size f i ∧
      ((s.pre enc C.prog fn conds apart (w.forCall tape i).memory i.args ∧ X (w.forCall tape i).memory i.args) ∧ sizedMet enc C.prog fn (OpenSpec.ofChange s) apart (w.forCall tape i).memory i.args) ∧ a.holds C.prog (lone (Frame.enter C.prog f i.args .normal) [] (w.forCall tape i)))
    (contract : ∀ (W : World) (base : Nat) (args : Array Value) (ds gs : List (DataW H)) (before : List MemPlace),
      (∀ (j : Nat) t v, fn.params[j]? = some t → args[j]? = some v → Value.okWide C.prog W .any base t v) →
      DataW.Whole enc C.prog fn.params.toList s.vars apart W args.toList ds gs before →
      (DataW.weightsEach C.prog (fn.params.toList ++ s.plain.varTypes C.prog) (ds ++ gs)).all (· ≤ reachBytes) = true → X W args → W.ShapedOpen C.prog →
      Calls C.prog f args W fun e W' => ∃ v, e = .returned v ∧ s.post enc C.prog fn apart fresh handsOn again W args v W') :
    ReturnsInHanded a C os f .any (fun w args => (s.pre enc C.prog fn conds apart w args ∧ X w args) ∧ sizedMet enc C.prog fn (OpenSpec.ofChange s) apart w args) (s.post enc C.prog fn apart fresh handsOn again) := by
  refine returnsInHanded_of_calls own started noInit witness ?_
  intro w tape i _ hsh _ hok hpre _
  obtain ⟨_, _, _, g, hg, _, _, _, _, hval⟩ := hok
  obtain rfl := Option.some.inj (hg.symm.trans hfn)
  obtain ⟨⟨⟨ds, gs, before, hw, _⟩, hx⟩, hz⟩ := hpre
  exact (contract (w.forCall tape i) w.heap.size i.args ds gs before hval (DataW.Whole.of_heap (w' := w.forCall tape i) (by rfl) hw) (hz.weights hw) (hX _ _ _ (by rfl) hx) hsh).mono fun e W' ⟨v, he, hp⟩ => (by subst he; exact ChangeSpec.post_blind hp)
end Go.Proofs.YtdcndkojmflhnaaDoor
