/- Walk of text.line. -/
import Derived.Test.YtdcndkojmflhnaaDoorTextG
import Derived.Lib.AtoiAllCases
set_option linter.unusedVariables false
set_option linter.unusedSimpArgs false
set_option maxRecDepth 100000
set_option maxHeartbeats 8000000
namespace Go.Proofs.YtdcndkojmflhnaaDoor
open Go.RowKit
/-- what line answers -/
def LineTo (w : World) (l : List Queue) (s : By) (e : Ending) (w' : World) : Prop := Ext w w' ∧ (match lineQ l s with
  | some q => ∃ cv, e = .returned (.agg #[.string q.Name, .int .i64 q.Parent, cv]) ∧ RunsV w' cv q.Cap ∧ NewT w.heap.size w' cv ∧ q.Name.size ≤ 4096 ∧ I64 q.Parent
  | none => e = .panicked brokenP)
theorem lineQ_none {l : List Queue} {s A B : By} (h : Lib.cut s [58] = (A, B, false)) : lineQ l s = none := by unfold lineQ; simp [h]
theorem lineQ_lost {l : List Queue} {s A B N P : By} (h : Lib.cut s [58] = (A, B, true)) (h2 : Lib.cut A [32, 60, 32] = (N, P, true)) (h3 : findN l P < 0) : lineQ l s = none := by
  unfold lineQ; simp [h, h2, h3]
theorem lineQ_is {l : List Queue} {s A B N P : By} {has : Bool} {p : Int} (h : Lib.cut s [58] = (A, B, true)) (h2 : Lib.cut A [32, 60, 32] = (N, P, has)) (h3 : p = if has = true then findN l P else -1) (h4 : has = true → 0 ≤ p) :
    lineQ l s = (runsR (Lib.fieldsD B)).map fun r => ⟨tx N, p, r⟩ := by
  unfold lineQ
  simp only [h, h2, ← h3, if_true]
  rw [if_neg (by rintro ⟨a, b⟩; have := h4 a; omega)]
  rfl
/-- the runs of the first fields -/
theorem runsR_app : ∀ (a b : List By), runsR (a ++ b) = (runsR a).bind (fun r => (runsR b).map (fun t => r ++ t))
  | [], b => by simp [runsR]
  | w :: a, b => by
    have ih := runsR_app a b
    simp only [List.cons_append, runsR, ih]
    split
    · split
      · cases runsR a with
        | none => rfl
        | some r => cases runsR b <;> simp
      · rfl
    · rfl
theorem runsR_one {a : List By} {r : List Run} {x A N : By} {m n : Int} (h : runsR a = some r) (hc : Lib.cut x [61] = (A, N, true)) (h1 : Lib.atoiAll A = .ok m) (h2 : Lib.atoiAll N = .ok n) : runsR (a ++ [x]) = some (r ++ [⟨m, n⟩]) := by
  rw [runsR_app, h]
  simp [runsR, hc, h1, h2]
theorem runsR_bad {a b : List By} {x A N : By} {is : Bool} (hc : Lib.cut x [61] = (A, N, is)) (h : is = true → (∀ m, Lib.atoiAll A ≠ .ok m) ∨ (∀ m, Lib.atoiAll N ≠ .ok m)) : runsR (a ++ x :: b) = none := by
  rw [runsR_app]
  have e : runsR (x :: b) = none := by
    simp only [runsR, hc]
    cases is with
    | false => simp
    | true =>
      rw [if_pos rfl]
      cases h1 : Lib.atoiAll A with
      | ok m =>
        cases h2 : Lib.atoiAll N with
        | ok n => rcases h rfl with h' | h'; exact absurd h1 (h' m); exact absurd h2 (h' n)
        | _ => rfl
      | _ => rfl
  rw [e]
  cases runsR a <;> rfl
theorem atoi_i64 {s : By} {n : Int} (h : Lib.atoiAll s = .ok n) : I64 n := by
  have := Lib.atoiAll_bounds h
  unfold I64; omega
theorem Cut_any (w : World) (hw : TextW w) (s p : By) (S P : ByteArray) (hS : S = tx s) (hP : P = tx p) (hs : s.length ≤ 4096) {a b : By} {c : Bool} (h : Lib.cut s p = (a, b, c)) :
    Calls Tryd.prog 43 #[.string S, .string P] w fun e w' => e = .returned (.tuple #[.string (tx a), .string (tx b), .bool c]) ∧ Ext w w' := by
  subst hS; subst hP
  obtain ⟨m, hm⟩ := hw.max
  refine (Tryd.strings_Cut (tx s) (tx p) m w (by rw [tx_size]; omega) hm).mono ?_
  rintro e w' ⟨rfl, n, rfl⟩
  refine ⟨?_, (Ext.rf w).dn n⟩
  have e1 : (tx s).data.toList = s := by simp [tx]
  have e2 : (tx p).data.toList = p := by simp [tx]
  rw [e1, e2, h]; rfl
theorem fieldsGoD_len : ∀ (f : Nat) (cur l : By), (Lib.fieldsGoD f cur l).length ≤ (if cur = [] then 0 else 1) + l.length
  | 0, cur, l => by unfold Lib.fieldsGoD; split <;> simp <;> omega
  | f + 1, cur, l => by
    unfold Lib.fieldsGoD
    split
    · split <;> simp <;> omega
    · rename_i hl
      have h1 := List.length_pos_iff.2 hl
      split
      · have ih := fieldsGoD_len f [] (l.drop (Lib.decodeL l).2)
        simp only [if_pos, List.length_drop] at ih
        rw [List.length_append]
        split <;> simp <;> omega
      · have ih := fieldsGoD_len f (cur ++ l.take (Lib.decodeL l).2) (l.drop (Lib.decodeL l).2)
        rw [List.length_drop] at ih
        by_cases hk : (Lib.decodeL l).2 = 0
        · rw [hk] at ih ⊢
          simp only [List.take_zero, List.append_nil, List.drop_zero] at ih ⊢
          omega
        · split at ih <;> omega
theorem fieldsGoD_mem : ∀ (f : Nat) (cur l : By), ∀ x ∈ Lib.fieldsGoD f cur l, x.length ≤ cur.length + l.length
  | 0, cur, l, x, h => by
    unfold Lib.fieldsGoD at h
    split at h
    · cases h
    · rw [List.mem_singleton.1 h]; omega
  | f + 1, cur, l, x, h => by
    unfold Lib.fieldsGoD at h
    split at h
    · split at h
      · cases h
      · rw [List.mem_singleton.1 h]; omega
    · split at h
      · rcases List.mem_append.1 h with h | h
        · split at h
          · cases h
          · rw [List.mem_singleton.1 h]; omega
        · have ih := fieldsGoD_mem f _ _ x h
          simp at ih; omega
      · have ih := fieldsGoD_mem f _ _ x h
        simp at ih; omega
theorem fieldsD_len (l : By) : (Lib.fieldsD l).length ≤ l.length := by
  have := fieldsGoD_len (l.length + 1) [] l
  unfold Lib.fieldsD
  simpa using this
theorem fieldsD_mem {l : By} : ∀ x ∈ Lib.fieldsD l, x.length ≤ l.length := fun x h => by
  unfold Lib.fieldsD at h
  have := fieldsGoD_mem (l.length + 1) [] l x h
  simpa using this
theorem grown_row (W : World) (b : Nat) (cs : Array Value) : W.grownBy (W.setRow b cs) (some b) :=
  ⟨rfl, rfl, rfl, by rw [size_setRow]; exact Nat.le_refl _, fun k _ hk => setRow_other W b k cs (fun e => hk (by rw [e]))⟩
theorem own_from {w : World} {base e z n : Nat} {v : Value} {xs : List Value} (h : w.ownsRow base e z v n xs) (a : Addr) (m c : Nat) (he : v = .slice (some a) m c) : base ≤ a.block := by
  rcases h.2 with ⟨h2, _⟩ | ⟨g, cap, cur, h2, hg, _⟩
  · rw [he] at h2; cases h2
  · rw [he] at h2; cases h2; exact hg
theorem Fields_any (w : World) (hw : TextW w) (B : By) (S : ByteArray) (hS : S = tx B) (hB : B.length ≤ 4096) :
    Calls Tryd.prog 46 #[.string S] w fun e w' => ∃ A, e = .returned (.slice (some ⟨A, 0, none⟩) (Lib.fieldsD B).length (Lib.fieldsD B).length) ∧ w.heap.size ≤ A ∧ (∀ (i : Nat) (x : By), (Lib.fieldsD B)[i]? = some x → w'.cell? ⟨A, i, none⟩ = some (.string (tx x))) ∧ Ext w w' := by
  subst hS
  refine (Tryd.strings_Fields_any (tx B) w (by rw [tx_size]; omega) hw.sp hw.wh).mono ?_
  have e1 : (tx B).data.toList = B := by simp [tx]
  rw [e1]
  rintro e w' ⟨A, rfl, hA, hown, hx⟩
  refine ⟨A, rfl, hA, fun i x hi => ?_, hx⟩
  have := hown.cells (g := A) rfl i (.string (tx x)) (by rw [List.getElem?_map, hi]; rfl)
  rwa [addT, Nat.zero_add] at this
/-- num, either way -/
def NumAt2 (w : World) (s : By) (e : Ending) (w' : World) : Prop := ((∃ n, Lib.atoiAll s = .ok n ∧ e = .returned (.int .i64 n)) ∨ ((∀ n, Lib.atoiAll s ≠ .ok n) ∧ e = .panicked brokenP)) ∧ Ext w w'
theorem num_two (w : World) (hw : TextW w) (s : By) (hs : s.length ≤ 4096) : Calls Tryd.prog 47 #[.string (tx s)] w (NumAt2 w s) := by
  refine (num_any w hw s hs).mono fun e w' hq => ⟨?_, hq.2⟩
  have h1 := hq.1
  cases h : Lib.atoiAll s with
  | ok n => rw [h] at h1; exact .inl ⟨n, rfl, h1⟩
  | _ => rw [h] at h1; exact .inr ⟨fun n hn => (by cases hn), h1⟩
theorem runs_none {l : List Queue} {s B : By} {g : List Run → Queue} (h : lineQ l s = (runsR (Lib.fieldsD B)).map g) {i : Nat} {x : By} (hx : (Lib.fieldsD B)[i]? = some x) {A1 N1 : By} {is : Bool} (hc : Lib.cut x [61] = (A1, N1, is)) (h2 : is = true → (∀ m, Lib.atoiAll A1 ≠ .ok m) ∨ (∀ m, Lib.atoiAll N1 ≠ .ok m)) : lineQ l s = none := by
  have hlt := (List.getElem?_eq_some_iff.1 hx).1
  have e : Lib.fieldsD B = (Lib.fieldsD B).take i ++ x :: (Lib.fieldsD B).drop (i + 1) := by
    have h3 := (List.getElem?_eq_some_iff.1 hx).2
    rw [← h3, ← List.drop_eq_getElem_cons hlt, List.take_append_drop]
  rw [h, e, runsR_bad hc h2]; rfl
theorem take_one {α : Type} {l : List α} {i : Nat} {x : α} (h : l[i]? = some x) : l.take (i + 1) = l.take i ++ [x] := by rw [List.take_add_one, h]; rfl
theorem line_any (w : World) (hw : TextW w) (v : Value) (l : List Queue) (hv : QueuesV w v l) (s : By) (hs : s.length ≤ 4096) (hl : l.length ≤ 4096) :
    Calls Tryd.prog 23 #[v, .string (tx s)] w (LineTo w l s) := by
  obtain ⟨A, hA⟩ : ∃ A, (Lib.cut s [58]).1 = A := ⟨_, rfl⟩
  obtain ⟨B, hB⟩ : ∃ B, (Lib.cut s [58]).2.1 = B := ⟨_, rfl⟩
  obtain ⟨is, hI⟩ : ∃ is, (Lib.cut s [58]).2.2 = is := ⟨_, rfl⟩
  have HC1 := hid (show Lib.cut s [58] = (A, B, is) from by rw [← hA, ← hB, ← hI])
  have lA : A.length ≤ s.length := by rw [← hA]; exact cut_len1 _ _
  have lB : B.length ≤ s.length := by rw [← hB]; exact cut_len3 _ _
  clear hA hB hI
  obtain ⟨N1, hA⟩ : ∃ N1, (Lib.cut A [32, 60, 32]).1 = N1 := ⟨_, rfl⟩
  obtain ⟨P1, hB⟩ : ∃ P1, (Lib.cut A [32, 60, 32]).2.1 = P1 := ⟨_, rfl⟩
  obtain ⟨has, hI⟩ : ∃ has, (Lib.cut A [32, 60, 32]).2.2 = has := ⟨_, rfl⟩
  have HC2 := hid (show Lib.cut A [32, 60, 32] = (N1, P1, has) from by rw [← hA, ← hB, ← hI])
  have lN : N1.length ≤ A.length := by rw [← hA]; exact cut_len1 _ _
  have lP : P1.length ≤ A.length := by rw [← hB]; exact cut_len3 _ _
  clear hA hB hI
  have CA := hid (fun (W : World) (h : Ext w W) => Cut_any W (hw.ext h) s [58] _ _ rfl rfl hs HC1.out)
  have CB := hid (fun (W : World) (h : Ext w W) => Cut_any W (hw.ext h) A [32, 60, 32] _ _ rfl rfl (by omega) HC2.out)
  have FI := hid (fun (W : World) (h : Ext w W) => Fields_any W (hw.ext h) B _ rfl (by omega))
  have HW := hid hw
  have HV := hid hv
  obtain ⟨va, vc, rfl, _⟩ := hv.form
  clear hv hw
  cases is with
  | false =>
    have HL := hid (lineQ_none (l := l) HC1.out)
    generalize l.length = n at *
    go_enter Tryd.func23, Tryd.ntmps23
    go_wp2_with fail
    refine (CA.out _ ((Ext.rf w).al _)).mono ?_
    rintro e w1 ⟨rfl, hx1⟩
    have HX1 := hid (((Ext.rf w).al _).tr hx1)
    clear hx1
    go_wp2_with fail
    refine (must_no _).mono ?_
    rintro e w2 ⟨rfl, rfl⟩
    refine ⟨rfl, HX1.out, ?_⟩
    rw [HL.out]
  | true =>
    generalize hn : l.length = n at *
    have Hn := hid hn
    clear hn
    go_enter Tryd.func23, Tryd.ntmps23
    go_wp2_with fail
    refine (CA.out _ ((Ext.rf w).al _)).mono ?_
    rintro e w1 ⟨rfl, hx1⟩
    have HR1 := hid (blk_extT (heap_alloc_new w _) hx1)
    have HX1 := hid (((Ext.rf w).al _).tr hx1)
    clear hx1
    go_wp2_with fail
    refine (must_yes _).mono ?_
    rintro e w2 ⟨rfl, rfl⟩
    go_wp2_with fail
    refine (CB.out _ HX1.out).mono ?_
    rintro e w3 ⟨rfl, hx3⟩
    have HR3 := hid (blk_extT HR1.out hx3)
    have HX3 := hid (HX1.out.tr hx3)
    have hs3 := HX3.out.size
    have hs3' : w.heap.size < w3.heap.size := (Array.getElem?_eq_some_iff.1 HR3.out).1
    clear hx3 HR1 HX1 CA CB
    obtain ⟨X, hX⟩ : ∃ X, w3.heap.size + 1 = X := ⟨_, rfl⟩
    obtain ⟨W4, hW4⟩ : ∃ W4, (w3.alloc (.cells #[.string (tx P1)] 9)).alloc (.cells #[.string (tx N1), .int .i64 (-1), .slice none 0 0] 41) = W4 := ⟨_, rfl⟩
    have hx34 : Ext w3 W4 := by rw [← hW4]; exact ((Ext.rf w3).al _).al _
    have HXn := hid (show W4.heap[X]? = some (.cells #[.string (tx N1), .int .i64 (-1), .slice none 0 0] 41 (0, 0)) from by
      rw [← hW4, ← hX]
      have := heap_alloc_new (w3.alloc (.cells #[.string (tx P1)] 9)) (.cells #[.string (tx N1), .int .i64 (-1), .slice none 0 0] 41)
      rwa [World.size_alloc] at this)
    have HPC := hid (show W4.cell? ⟨w3.heap.size, 0, none⟩ = some (.string (tx P1)) from by
      rw [← hW4]
      exact ((Ext.rf _).al _).ce' (cell_of_row _ _ 0 _ _ _ (heap_alloc_new w3 _)))
    have HR4 := hid (blk_extT HR3.out hx34)
    have HX4 := hid (HX3.out.tr hx34)
    have hXw : w.heap.size < X := by omega
    have HXE := hid hX
    have HWE := hid hW4
    clear hx34 HR3 hX hW4
    cases has with
    | true =>
      have hpr := findN_range l P1
      have IX := hid (IndexName_any W4 _ l (HV.out.mono HX4.out) w3.heap.size (tx P1) HPC.out)
      rw [bs_tx] at IX
      have HPV := hid (rfl : findN l P1 = findN l P1)
      obtain ⟨p, hp⟩ : ∃ p, findN l P1 = p := ⟨_, rfl⟩
      have HP := hid hp
      rw [hp] at hpr IX
      clear hp HPV
      go_wp2_with fail
      rw [HWE.out, HXE.out]
      refine IX.out.mono ?_
      rintro e W5 ⟨rfl, hx5⟩
      have HR5 := hid (blk_extT HR4.out hx5)
      have HXo := hid (blk_extT HXn.out hx5)
      have HX5 := hid (HX4.out.tr hx5)
      have hs5 := hx5.size
      clear hx5 HR4 HX4 HXn
      have x1 := cell_of_row W5 X 1 _ _ _ HXo.out
      have f1 := frozen_of_row W5 X 1 _ _ HXo.out
      have HXk := hid (heap_setCell_same W5 X 1 _ _ (.int .i64 p) HXo.out)
      have HX8 := hid (HX5.out.se (b := X) (o := 1) (by omega) (.int .i64 p))
      have HRk := hid ((heap_setCell_other W5 ⟨X, 1, none⟩ w.heap.size (.int .i64 p) (by show w.heap.size ≠ X; omega)).trans HR5.out)
      by_cases hp0 : 0 ≤ p
      · have HLQ := hid (lineQ_is (l := l) HC1.out HC2.out (p := p) (by rw [HP.out]; rfl) (fun _ => hp0))
        have hp1 : -1 ≤ p := by omega
        have hp2 : p < 5000 := by rw [Hn.out] at hpr; omega
        go_wp2_with fail
        refine (must_yes _).mono ?_
        rintro e W6 ⟨rfl, rfl⟩
        generalize W5.setCell ⟨X, 1, none⟩ (.int .i64 p) = W8 at *
        clear x1 f1 HXo HX5 HR5 hpr
        have hs8 := HX8.out.size
        have hXl := (Array.getElem?_eq_some_iff.1 HXk.out).1
        have hNz : (tx N1).size ≤ 4096 := by rw [tx_size]; omega
        go_wp2_with fail
        refine (FI.out _ HX8.out).mono ?_
        rintro e W9 ⟨Af, rfl, hAf, hcel, hx9⟩
        have HCE := hid hcel
        have HX9 := hid (HX8.out.tr hx9)
        have HX9k := hid (blk_extT HXk.out hx9)
        have HR9 := hid (blk_extT HRk.out hx9)
        have hs9 := hx9.size
        have hml := fieldsD_len B
        clear hcel hx9 HX8 HXk HRk FI
        generalize hm : (Lib.fieldsD B).length = m at *
        have HM := hid hm
        clear hm
        have hm4 : m ≤ 4096 := by omega
        go_wp2_with fail
        go_loopw [45] (fun c W => ∃ (i : Nat) (f : List Run) (cv : Value), c = .int .i64 i ∧ i ≤ m ∧ W9.heap.size ≤ W.heap.size ∧ Hid (f.length = i) ∧ Hid (runsR ((Lib.fieldsD B).take i) = some f) ∧ Hid (W.heap[X]? = some (.cells #[.string (tx N1), .int .i64 p, cv] 41 (0, 0))) ∧ Hid (W.ownsRow W9.heap.size 48 2 cv f.length (cells2 Run.At Run.N f)) ∧ Hid (∀ y ∈ f, I64 y.At ∧ I64 y.N) ∧ Hid (∀ j, j < W9.heap.size → j ≠ X → W.heap[j]? = W9.heap[j]?) ∧ Hid (Ext w W)) (fun c _ => m - (intOf c).toNat)
        case atStart => exact ⟨0, [], .slice none 0 0, rfl, by omega, Nat.le_refl _, hid rfl, hid (by simp [runsR]), HX9k, hid (World.ownsRow_nil _ _ _ _), hid (by simp), hid (fun _ _ _ => rfl), HX9⟩
        case round =>
          obtain ⟨i, f, cv, rfl, hi, hsz, HFI, HRU, HXk, HOR, HI, HK, HXW⟩ := hrel
          by_cases hlt : i < m
          · have hlt' : (i : Int) < (m : Int) := by omega
            obtain ⟨x, hx⟩ := getA (f := Lib.fieldsD B) (k := i) (by rw [HM.out]; exact hlt)
            have hxl : x.length ≤ 4096 := by have := fieldsD_mem x (List.mem_of_getElem? hx); omega
            obtain ⟨A1, hA1⟩ : ∃ A1, (Lib.cut x [61]).1 = A1 := ⟨_, rfl⟩
            obtain ⟨N2, hN2⟩ : ∃ N2, (Lib.cut x [61]).2.1 = N2 := ⟨_, rfl⟩
            obtain ⟨is2, hI2⟩ : ∃ is2, (Lib.cut x [61]).2.2 = is2 := ⟨_, rfl⟩
            have HC3 := hid (show Lib.cut x [61] = (A1, N2, is2) from by rw [← hA1, ← hN2, ← hI2])
            have lA1 : A1.length ≤ x.length := by rw [← hA1]; exact cut_len1 _ _
            have lN2 : N2.length ≤ x.length := by rw [← hN2]; exact cut_len3 _ _
            have c9 := HCE.out i x hx
            have hAl := cell_lt c9
            have c0 : wr.cell? ⟨Af, i, none⟩ = some (.string (tx x)) := (World.cell?_of_block (a := ⟨Af, i, none⟩) (HK.out Af hAl (by omega))).trans c9
            have CX := hid (Cut_any wr (HW.out.ext HXW.out) x [61] _ _ rfl rfl hxl HC3.out)
            have t1 := deF (show ¬ (i : Int) < 0 by omega)
            have t2 := deF (show ¬ (m : Int) ≤ (i : Int) by omega)
            have t3 := deF (show ¬ m ≤ i by omega)
            have HLT := hid hlt
            have HXI := hid hx
            clear hA1 hN2 hI2 c9 hx
            cases is2 with
            | false =>
              have HL := hid (runs_none HLQ.out HXI.out HC3.out (fun h => (by cases h)))
              go_wp2_with fail
              refine CX.out.mono ?_
              rintro e w5 ⟨rfl, hx5⟩
              have HX5 := hid (HXW.out.tr hx5)
              clear hx5
              go_wp2_with fail
              refine (must_no _).mono ?_
              rintro e w6 ⟨rfl, rfl⟩
              go_wp2_with fail
              refine ⟨rfl, HX5.out, ?_⟩
              rw [HL.out]
            | true =>
              have SA := hid (fun (W : World) (h : Ext w W) => num_two W (HW.out.ext h) A1 (by omega))
              have SB := hid (fun (W : World) (h : Ext w W) => num_two W (HW.out.ext h) N2 (by omega))
              go_wp2_with fail
              refine CX.out.mono ?_
              rintro e w5 ⟨rfl, hx5⟩
              have HX5 := hid hx5
              clear hx5 CX c0
              go_wp2_with fail
              refine (must_yes _).mono ?_
              rintro e w6 ⟨rfl, rfl⟩
              have hxq : Ext wr w6 := HX5.out
              have hxw := HXW.out.tr hxq
              have hX0 := HXk.out
              have k2 := cell_of_row _ X 2 _ _ _ hX0
              have hXwr := (Array.getElem?_eq_some_iff.1 hX0).1
              obtain ⟨ir, ir1, ir2, ir3, ir4⟩ := info_parts Tryd.info48
              obtain ⟨fa, fcp, rfl⟩ := ownsRow_slice HOR.out
              clear hX0
              go_wp2_with fail
              refine wp_region_tail 10 (fun W => W.cell? ⟨X, 2, none⟩ = some (.slice fa f.length fcp)) (by kernel_rfl) (hxq.dr.ce' k2) (fun hHeld => ?_)
              refine wpAnyT_take (i := 0) (v := ?_) rfl (by kernel_rfl) (fun _ _ _ h => h) (Or.inl ⟨by rfl, ?_⟩) (by assumption) ?_
              rotate_left
              · intro W hSW
                simp only [List.getElem_toArray, List.getElem_cons_zero]
                (try dsimp only at hSW)
                go_simp
                (try with_reducible rfl)
              simp only [List.getElem_toArray, List.getElem_cons_zero, Act.put, List.setIfInBounds_toArray, List.set_cons_zero, List.set_cons_succ]
              refine wpAnyT_take (i := 1) (v := ?_) rfl (by kernel_rfl) (fun _ _ _ h => h) (Or.inl ⟨by rfl, ?_⟩) (by assumption) ?_
              rotate_left
              · intro W hSW
                simp only [List.getElem_toArray, List.getElem_cons_zero, List.getElem_cons_succ]
                (try dsimp only at hSW)
                go_simp
                (try with_reducible rfl)
              simp only [List.getElem_toArray, List.getElem_cons_zero, List.getElem_cons_succ, Act.put, List.setIfInBounds_toArray, List.set_cons_zero, List.set_cons_succ]
              refine wpAnyT_take (i := 2) (v := ?_) rfl (by kernel_rfl) (fun _ _ _ h => h) (Or.inl ⟨by rfl, ?_⟩) (by assumption) ?_
              rotate_left
              · intro W hSW
                simp only [List.getElem_toArray, List.getElem_cons_zero, List.getElem_cons_succ]
                (try dsimp only at hSW)
                go_simp
                (try with_reducible rfl)
              simp only [List.getElem_toArray, List.getElem_cons_zero, List.getElem_cons_succ, Act.put, List.setIfInBounds_toArray, List.set_cons_zero, List.set_cons_succ]
              refine wpAnyT_take (i := 4) (v := ?_) rfl (by kernel_rfl) (fun _ _ _ h => h) (Or.inl ⟨by rfl, ?_⟩) (by assumption) ?_
              rotate_left
              · intro W hSW
                simp only [List.getElem_toArray, List.getElem_cons_zero, List.getElem_cons_succ]
                (try dsimp only at hSW)
                go_simp
                (try with_reducible rfl)
              simp only [List.getElem_toArray, List.getElem_cons_zero, List.getElem_cons_succ, Act.put, List.setIfInBounds_toArray, List.set_cons_zero, List.set_cons_succ]
              refine wpAnyT_go (i := 3) (by kernel_rfl) rfl (fun K hK => ?_)
              simp only [List.getElem_toArray, List.getElem_cons_zero, List.getElem_cons_succ]
              go_simp
              refine (SA.out _ hxw.dr).mono ?_
              rintro e W1 ⟨he, hx1⟩
              rcases he with ⟨n1, hn1, rfl⟩ | ⟨hbad, rfl⟩
              rotate_left
              · have HL := hid (runs_none HLQ.out HXI.out HC3.out (fun _ => .inl hbad))
                have HE := hid (hxw.dr.tr hx1)

                go_wp2_with fail
                refine ⟨rfl, HE.out, ?_⟩
                rw [HL.out]
              have hxa1 : Ext wr W1 := hxq.dr.tr hx1
              have hxw1 : Ext w W1 := hxw.dr.tr hx1
              go_wp2_with fail
              refine hK.out _ _ ?_ (fun hHeld => ?_)
              · (exact hxa1.ce' k2)
              clear hK K
              refine wpAnyT_go (i := 5) (by kernel_rfl) rfl (fun K hK => ?_)
              simp only [List.getElem_toArray, List.getElem_cons_zero, List.getElem_cons_succ]
              go_simp
              refine (SB.out _ hxw1).mono ?_
              rintro e W2 ⟨he, hx2⟩
              rcases he with ⟨n2, hn2, rfl⟩ | ⟨hbad, rfl⟩
              rotate_left
              · have HL := hid (runs_none HLQ.out HXI.out HC3.out (fun _ => .inr hbad))
                have HE := hid (hxw1.tr hx2)

                go_wp2_with fail
                refine ⟨rfl, HE.out, ?_⟩
                rw [HL.out]
              have hxa2 : Ext wr W2 := hxa1.tr hx2
              go_wp2_with fail
              refine hK.out _ _ ?_ (fun hHeld => ?_)
              · (exact hxa2.ce' k2)
              clear hK K
              refine wpAnyT_take (i := 6) (v := ?_) rfl (by kernel_rfl) (fun _ _ _ h => h) (Or.inl ⟨by rfl, ?_⟩) (by assumption) ?_
              rotate_left
              · intro W hSW
                simp only [List.getElem_toArray, List.getElem_cons_zero, List.getElem_cons_succ]
                (try dsimp only at hSW)
                go_simp
                (try with_reducible rfl)
              simp only [List.getElem_toArray, List.getElem_cons_zero, List.getElem_cons_succ, Act.put, List.setIfInBounds_toArray, List.set_cons_zero, List.set_cons_succ]
              refine wpAnyT_go (i := 7) (by kernel_rfl) rfl (fun K hK => ?_)
              simp only [List.getElem_toArray, List.getElem_cons_zero, List.getElem_cons_succ]
              go_simp
              have HRU2 := hid (runsR_one HRU.out HC3.out hn1 hn2)
              have hi1 := atoi_i64 hn1
              have hi2 := atoi_i64 hn2
              have HI2 := hid (show ∀ y ∈ f ++ [(⟨n1, n2⟩ : Run)], I64 y.At ∧ I64 y.N from fun y hy => by
                rcases List.mem_append.1 hy with h | h
                · exact HI.out y h
                · rw [List.mem_singleton.1 h]; exact ⟨hi1, hi2⟩)
              obtain ⟨W3, hW3⟩ : ∃ W3, W2.alloc (.cells #[.int .i64 n1, .int .i64 n2] 48) = W3 := ⟨_, rfl⟩
              have hxa3 : Ext wr W3 := hW3 ▸ hxa2.al _
              have hne2 := new2 W2 rfl (.int .i64 n1) (.int .i64 n2) 48
              rw [hW3] at hne2 ⊢
              have hf5 : f.length ≤ 5000 := by rw [HFI.out]; omega
              have hsz3 := hxa3.size
              clear hn1 hn2 hi1 hi2
              refine hK.out _ _ ?_ (fun hHeld => ?_)
              · (exact hxa3.ce' k2)
              clear hK K
              refine wpAnyT_go (i := 8) (by kernel_rfl) rfl (fun K hK => ?_)
              simp only [List.getElem_toArray, List.getElem_cons_zero, List.getElem_cons_succ]
              refine wp_append_own _ _ _ _ (by rfl) W9.heap.size 48 ir _ 2 16 Tryd.underlying39 ir1 ir2 ir3 ir4 rfl (by decide) (.slice fa f.length fcp) f.length (cells2 Run.At Run.N f) (by rfl) (ownsRow_ext HOR.out hxa3) ⟨W2.heap.size, 0, none⟩ 1 1 [.int .i64 n1, .int .i64 n2] (by rfl) (by rfl) hne2 (one2 _ _ _ _) (by unfold maxLen; omega) (by omega) (by omega) (fun v5 W5 hown5 hgrow5 hnil5 => ?_)
              obtain ⟨g5, c5, rfl⟩ := own_someT hown5 (by omega)
              have hX5 : W5.heap[X]? = some (.cells #[.string (tx N1), .int .i64 p, .slice fa f.length fcp] 41 (0, 0)) := (hgrow5.block _ (by omega) (fun e => by have := own_lt HOR.out _ e.symm; omega)).trans (blk_extT HXk.out hxa3)
              have hx5 : Ext w W5 := (HXW.out.tr hxa3).gr hgrow5 (fun g hg => by have := own_lt HOR.out g hg; omega)
              have hk5 : ∀ j, j < W9.heap.size → j ≠ X → W5.heap[j]? = W9.heap[j]? := fun j hj hjX => (hgrow5.block j (by omega) (fun e => by have := own_lt HOR.out _ e.symm; omega)).trans ((hxa3.block j (by omega)).trans (HK.out j hj hjX))
              have hs5g := hgrow5.size
              have k25 := cell_of_row _ _ 2 _ _ _ hX5
              have f25 := frozen_of_row _ _ 2 _ _ hX5
              refine hK.out _ _ ?_ (fun hHeld => ?_)
              · (exact k25)
              clear hK K
              refine wpAnyT_take (i := 9) (v := ?_) rfl (by kernel_rfl) (fun _ _ _ h => h) (Or.inl ⟨by rfl, ?_⟩) (by assumption) ?_
              rotate_left
              · intro W hSW
                simp only [List.getElem_toArray, List.getElem_cons_zero, List.getElem_cons_succ]
                (try dsimp only at hSW)
                go_simp
                (try with_reducible rfl)
              simp only [List.getElem_toArray, List.getElem_cons_zero, List.getElem_cons_succ, Act.put, List.setIfInBounds_toArray, List.set_cons_zero, List.set_cons_succ]
              refine wpAnyT_last (t := 10) (by kernel_rfl) rfl (by kernel_rfl) (fun K hK => ?_)
              simp only [List.getElem_toArray, List.getElem_cons_zero, List.getElem_cons_succ]
              go_simp
              refine hK.out _ _ ?_
              clear hK K
              have HX6 := hid (heap_setCell_same W5 X 2 _ _ (.slice (some ⟨g5, 0, none⟩) (f.length + 1) c5) hX5)
              have HO6 := hid (ownsRow_setCell (c := X) (o := 2) (u := .slice (some ⟨g5, 0, none⟩) (f.length + 1) c5) hown5 (by omega))
              have HXX := hid (hx5.se (b := X) (o := 2) (by omega) (.slice (some ⟨g5, 0, none⟩) (f.length + 1) c5))
              have HK6 := hid (fun j (hj : j < W9.heap.size) (hjX : j ≠ X) => (heap_setCell_other W5 ⟨X, 2, none⟩ j (.slice (some ⟨g5, 0, none⟩) (f.length + 1) c5) hjX).trans (hk5 j hj hjX))
              have HS6 := hid (show W9.heap.size ≤ (W5.setCell ⟨X, 2, none⟩ (.slice (some ⟨g5, 0, none⟩) (f.length + 1) c5)).heap.size from by simp [World.setCell]; omega)
              generalize W5.setCell ⟨X, 2, none⟩ (.slice (some ⟨g5, 0, none⟩) (f.length + 1) c5) = W6 at *
              clear hHeld k2 k25 f25 hX5 hx5 hown5 hgrow5 hnil5 hW3 hxa1 hxa2 hxa3 hx1 hx2 hne2 HOR HXk
              go_wp2_with fail
              go_roundw
              case rel =>
                refine ⟨i + 1, f ++ [⟨n1, n2⟩], _, by go_num, HLT.out, HS6.out, hid (by simp [HFI.out]), hid (by rw [take_one HXI.out]; exact HRU2.out), HX6, hid ?_, HI2, HK6, HXX⟩
                have := HO6.out
                simpa [cells2] using this
              case measure => have := HLT.out; simp [intOf]; omega
          · obtain rfl : i = m := by omega
            have hlt' : ¬ (i : Int) < (i : Int) := by omega
            have HL := hid (show lineQ l s = some ⟨tx N1, p, f⟩ from by
              have e := HRU.out
              rw [List.take_of_length_le (by rw [HM.out]; exact Nat.le_refl _)] at e
              rw [HLQ.out, e]; rfl)
            obtain ⟨fa, fcp, rfl⟩ := ownsRow_slice HOR.out
            have hX0 := HXk.out
            have k0 := cell_of_row _ X 0 _ _ _ hX0
            have k1 := cell_of_row _ X 1 _ _ _ hX0
            have k2 := cell_of_row _ X 2 _ _ _ hX0
            have hf5 : f.length ≤ 5000 := by rw [HFI.out]; omega
            have HR := hid ((HK.out w.heap.size (by omega) (by omega)).trans HR9.out)
            have HRV := hid (show RunsV wr (.slice fa f.length fcp) f from sv_of_owns2 HOR.out HI.out (by omega))
            have HNW := hid (show NewT w.heap.size wr (.slice fa f.length fcp) from fun a n c e => by
              have h2 := HOR.out.2
              rcases h2 with ⟨h2, _⟩ | ⟨g, cap, cur, h2, hg, hh, _⟩
              · rw [e] at h2; cases h2
              · rw [e] at h2; cases h2
                exact ⟨by show w.heap.size ≤ g; omega, (Array.getElem?_eq_some_iff.1 hh).1⟩)
            have HBF := hid (setRow_heap wr w.heap.size _ #[.string (tx N1), .int .i64 p, .slice fa f.length fcp] _ _ HR.out)
            have HXF := hid (HXW.out.sr (b := w.heap.size) (Nat.le_refl _) #[.string (tx N1), .int .i64 p, .slice fa f.length fcp])
            clear hX0
            go_wp2_with (refine wpList_store_row rfl 41 _ _ rfl w.heap.size #[.string (tx N1), .int .i64 p, .slice fa f.length fcp] rfl rfl 41 _ HR.out queue_size rfl (by simp [Value.oneCell']) ?_)
            refine bodyPost_ret (results_cell_row rfl _ _ w.heap.size 41 #[.string (tx N1), .int .i64 p, .slice fa f.length fcp] (0, 0) _ rfl HBF.out Tryd.underlying41 rfl queue_size) rfl ?_
            refine ⟨HXF.out, ?_⟩
            rw [HL.out]
            refine ⟨_, rfl, svT_apart HRV.out (grown_row wr w.heap.size _) (fun a n c e he => ?_), fun a n c e => ?_, hNz, by show I64 p; unfold I64; omega⟩
            · have := own_from HOR.out a n c e
              have h2 := Option.some.inj he
              omega
            · have := HNW.out a n c e
              rw [size_setRow]; exact this
      · have hd0 := deF hp0
        have HL := hid (lineQ_lost (l := l) HC1.out HC2.out (by rw [HP.out]; omega))
        go_wp2_with fail
        refine (must_no _).mono ?_
        rintro e W6 ⟨rfl, rfl⟩
        refine ⟨rfl, HX8.out, ?_⟩
        rw [HL.out]
    | false =>
      have HLQ := hid (lineQ_is (l := l) HC1.out HC2.out (p := -1) rfl (fun h => (by cases h)))
      have HXk := HXn
      have HRk := HR4
      have HX8 := HX4
      have hs5 := HX4.out.size
      clear HXn HR4 HX4 HPC
      have hs8 := HX8.out.size
      have hXl := (Array.getElem?_eq_some_iff.1 HXk.out).1
      have hNz : (tx N1).size ≤ 4096 := by rw [tx_size]; omega
      go_wp2_with fail
      rw [HWE.out, HXE.out]
      refine (FI.out _ HX8.out).mono ?_
      rintro e W9 ⟨Af, rfl, hAf, hcel, hx9⟩
      have HCE := hid hcel
      have HX9 := hid (HX8.out.tr hx9)
      have HX9k := hid (blk_extT HXk.out hx9)
      have HR9 := hid (blk_extT HRk.out hx9)
      have hs9 := hx9.size
      have hml := fieldsD_len B
      clear hcel hx9 HX8 HXk HRk FI
      generalize hm : (Lib.fieldsD B).length = m at *
      have HM := hid hm
      clear hm
      have hm4 : m ≤ 4096 := by omega
      go_wp2_with fail
      go_loopw [45] (fun c W => ∃ (i : Nat) (f : List Run) (cv : Value), c = .int .i64 i ∧ i ≤ m ∧ W9.heap.size ≤ W.heap.size ∧ Hid (f.length = i) ∧ Hid (runsR ((Lib.fieldsD B).take i) = some f) ∧ Hid (W.heap[X]? = some (.cells #[.string (tx N1), .int .i64 (-1), cv] 41 (0, 0))) ∧ Hid (W.ownsRow W9.heap.size 48 2 cv f.length (cells2 Run.At Run.N f)) ∧ Hid (∀ y ∈ f, I64 y.At ∧ I64 y.N) ∧ Hid (∀ j, j < W9.heap.size → j ≠ X → W.heap[j]? = W9.heap[j]?) ∧ Hid (Ext w W)) (fun c _ => m - (intOf c).toNat)
      case atStart => exact ⟨0, [], .slice none 0 0, rfl, by omega, Nat.le_refl _, hid rfl, hid (by simp [runsR]), HX9k, hid (World.ownsRow_nil _ _ _ _), hid (by simp), hid (fun _ _ _ => rfl), HX9⟩
      case round =>
        obtain ⟨i, f, cv, rfl, hi, hsz, HFI, HRU, HXk, HOR, HI, HK, HXW⟩ := hrel
        by_cases hlt : i < m
        · have hlt' : (i : Int) < (m : Int) := by omega
          obtain ⟨x, hx⟩ := getA (f := Lib.fieldsD B) (k := i) (by rw [HM.out]; exact hlt)
          have hxl : x.length ≤ 4096 := by have := fieldsD_mem x (List.mem_of_getElem? hx); omega
          obtain ⟨A1, hA1⟩ : ∃ A1, (Lib.cut x [61]).1 = A1 := ⟨_, rfl⟩
          obtain ⟨N2, hN2⟩ : ∃ N2, (Lib.cut x [61]).2.1 = N2 := ⟨_, rfl⟩
          obtain ⟨is2, hI2⟩ : ∃ is2, (Lib.cut x [61]).2.2 = is2 := ⟨_, rfl⟩
          have HC3 := hid (show Lib.cut x [61] = (A1, N2, is2) from by rw [← hA1, ← hN2, ← hI2])
          have lA1 : A1.length ≤ x.length := by rw [← hA1]; exact cut_len1 _ _
          have lN2 : N2.length ≤ x.length := by rw [← hN2]; exact cut_len3 _ _
          have c9 := HCE.out i x hx
          have hAl := cell_lt c9
          have c0 : wr.cell? ⟨Af, i, none⟩ = some (.string (tx x)) := (World.cell?_of_block (a := ⟨Af, i, none⟩) (HK.out Af hAl (by omega))).trans c9
          have CX := hid (Cut_any wr (HW.out.ext HXW.out) x [61] _ _ rfl rfl hxl HC3.out)
          have t1 := deF (show ¬ (i : Int) < 0 by omega)
          have t2 := deF (show ¬ (m : Int) ≤ (i : Int) by omega)
          have t3 := deF (show ¬ m ≤ i by omega)
          have HLT := hid hlt
          have HXI := hid hx
          clear hA1 hN2 hI2 c9 hx
          cases is2 with
          | false =>
            have HL := hid (runs_none HLQ.out HXI.out HC3.out (fun h => (by cases h)))
            go_wp2_with fail
            refine CX.out.mono ?_
            rintro e w5 ⟨rfl, hx5⟩
            have HX5 := hid (HXW.out.tr hx5)
            clear hx5
            go_wp2_with fail
            refine (must_no _).mono ?_
            rintro e w6 ⟨rfl, rfl⟩
            go_wp2_with fail
            refine ⟨rfl, HX5.out, ?_⟩
            rw [HL.out]
          | true =>
            have SA := hid (fun (W : World) (h : Ext w W) => num_two W (HW.out.ext h) A1 (by omega))
            have SB := hid (fun (W : World) (h : Ext w W) => num_two W (HW.out.ext h) N2 (by omega))
            go_wp2_with fail
            refine CX.out.mono ?_
            rintro e w5 ⟨rfl, hx5⟩
            have HX5 := hid hx5
            clear hx5 CX c0
            go_wp2_with fail
            refine (must_yes _).mono ?_
            rintro e w6 ⟨rfl, rfl⟩
            have hxq : Ext wr w6 := HX5.out
            have hxw := HXW.out.tr hxq
            have hX0 := HXk.out
            have k2 := cell_of_row _ X 2 _ _ _ hX0
            have hXwr := (Array.getElem?_eq_some_iff.1 hX0).1
            obtain ⟨ir, ir1, ir2, ir3, ir4⟩ := info_parts Tryd.info48
            obtain ⟨fa, fcp, rfl⟩ := ownsRow_slice HOR.out
            clear hX0
            go_wp2_with fail
            refine wp_region_tail 10 (fun W => W.cell? ⟨X, 2, none⟩ = some (.slice fa f.length fcp)) (by kernel_rfl) (hxq.dr.ce' k2) (fun hHeld => ?_)
            refine wpAnyT_take (i := 0) (v := ?_) rfl (by kernel_rfl) (fun _ _ _ h => h) (Or.inl ⟨by rfl, ?_⟩) (by assumption) ?_
            rotate_left
            · intro W hSW
              simp only [List.getElem_toArray, List.getElem_cons_zero]
              (try dsimp only at hSW)
              go_simp
              (try with_reducible rfl)
            simp only [List.getElem_toArray, List.getElem_cons_zero, Act.put, List.setIfInBounds_toArray, List.set_cons_zero, List.set_cons_succ]
            refine wpAnyT_take (i := 1) (v := ?_) rfl (by kernel_rfl) (fun _ _ _ h => h) (Or.inl ⟨by rfl, ?_⟩) (by assumption) ?_
            rotate_left
            · intro W hSW
              simp only [List.getElem_toArray, List.getElem_cons_zero, List.getElem_cons_succ]
              (try dsimp only at hSW)
              go_simp
              (try with_reducible rfl)
            simp only [List.getElem_toArray, List.getElem_cons_zero, List.getElem_cons_succ, Act.put, List.setIfInBounds_toArray, List.set_cons_zero, List.set_cons_succ]
            refine wpAnyT_take (i := 2) (v := ?_) rfl (by kernel_rfl) (fun _ _ _ h => h) (Or.inl ⟨by rfl, ?_⟩) (by assumption) ?_
            rotate_left
            · intro W hSW
              simp only [List.getElem_toArray, List.getElem_cons_zero, List.getElem_cons_succ]
              (try dsimp only at hSW)
              go_simp
              (try with_reducible rfl)
            simp only [List.getElem_toArray, List.getElem_cons_zero, List.getElem_cons_succ, Act.put, List.setIfInBounds_toArray, List.set_cons_zero, List.set_cons_succ]
            refine wpAnyT_take (i := 4) (v := ?_) rfl (by kernel_rfl) (fun _ _ _ h => h) (Or.inl ⟨by rfl, ?_⟩) (by assumption) ?_
            rotate_left
            · intro W hSW
              simp only [List.getElem_toArray, List.getElem_cons_zero, List.getElem_cons_succ]
              (try dsimp only at hSW)
              go_simp
              (try with_reducible rfl)
            simp only [List.getElem_toArray, List.getElem_cons_zero, List.getElem_cons_succ, Act.put, List.setIfInBounds_toArray, List.set_cons_zero, List.set_cons_succ]
            refine wpAnyT_go (i := 3) (by kernel_rfl) rfl (fun K hK => ?_)
            simp only [List.getElem_toArray, List.getElem_cons_zero, List.getElem_cons_succ]
            go_simp
            refine (SA.out _ hxw.dr).mono ?_
            rintro e W1 ⟨he, hx1⟩
            rcases he with ⟨n1, hn1, rfl⟩ | ⟨hbad, rfl⟩
            rotate_left
            · have HL := hid (runs_none HLQ.out HXI.out HC3.out (fun _ => .inl hbad))
              have HE := hid (hxw.dr.tr hx1)

              go_wp2_with fail
              refine ⟨rfl, HE.out, ?_⟩
              rw [HL.out]
            have hxa1 : Ext wr W1 := hxq.dr.tr hx1
            have hxw1 : Ext w W1 := hxw.dr.tr hx1
            go_wp2_with fail
            refine hK.out _ _ ?_ (fun hHeld => ?_)
            · (exact hxa1.ce' k2)
            clear hK K
            refine wpAnyT_go (i := 5) (by kernel_rfl) rfl (fun K hK => ?_)
            simp only [List.getElem_toArray, List.getElem_cons_zero, List.getElem_cons_succ]
            go_simp
            refine (SB.out _ hxw1).mono ?_
            rintro e W2 ⟨he, hx2⟩
            rcases he with ⟨n2, hn2, rfl⟩ | ⟨hbad, rfl⟩
            rotate_left
            · have HL := hid (runs_none HLQ.out HXI.out HC3.out (fun _ => .inr hbad))
              have HE := hid (hxw1.tr hx2)

              go_wp2_with fail
              refine ⟨rfl, HE.out, ?_⟩
              rw [HL.out]
            have hxa2 : Ext wr W2 := hxa1.tr hx2
            go_wp2_with fail
            refine hK.out _ _ ?_ (fun hHeld => ?_)
            · (exact hxa2.ce' k2)
            clear hK K
            refine wpAnyT_take (i := 6) (v := ?_) rfl (by kernel_rfl) (fun _ _ _ h => h) (Or.inl ⟨by rfl, ?_⟩) (by assumption) ?_
            rotate_left
            · intro W hSW
              simp only [List.getElem_toArray, List.getElem_cons_zero, List.getElem_cons_succ]
              (try dsimp only at hSW)
              go_simp
              (try with_reducible rfl)
            simp only [List.getElem_toArray, List.getElem_cons_zero, List.getElem_cons_succ, Act.put, List.setIfInBounds_toArray, List.set_cons_zero, List.set_cons_succ]
            refine wpAnyT_go (i := 7) (by kernel_rfl) rfl (fun K hK => ?_)
            simp only [List.getElem_toArray, List.getElem_cons_zero, List.getElem_cons_succ]
            go_simp
            have HRU2 := hid (runsR_one HRU.out HC3.out hn1 hn2)
            have hi1 := atoi_i64 hn1
            have hi2 := atoi_i64 hn2
            have HI2 := hid (show ∀ y ∈ f ++ [(⟨n1, n2⟩ : Run)], I64 y.At ∧ I64 y.N from fun y hy => by
              rcases List.mem_append.1 hy with h | h
              · exact HI.out y h
              · rw [List.mem_singleton.1 h]; exact ⟨hi1, hi2⟩)
            obtain ⟨W3, hW3⟩ : ∃ W3, W2.alloc (.cells #[.int .i64 n1, .int .i64 n2] 48) = W3 := ⟨_, rfl⟩
            have hxa3 : Ext wr W3 := hW3 ▸ hxa2.al _
            have hne2 := new2 W2 rfl (.int .i64 n1) (.int .i64 n2) 48
            rw [hW3] at hne2 ⊢
            have hf5 : f.length ≤ 5000 := by rw [HFI.out]; omega
            have hsz3 := hxa3.size
            clear hn1 hn2 hi1 hi2
            refine hK.out _ _ ?_ (fun hHeld => ?_)
            · (exact hxa3.ce' k2)
            clear hK K
            refine wpAnyT_go (i := 8) (by kernel_rfl) rfl (fun K hK => ?_)
            simp only [List.getElem_toArray, List.getElem_cons_zero, List.getElem_cons_succ]
            refine wp_append_own _ _ _ _ (by rfl) W9.heap.size 48 ir _ 2 16 Tryd.underlying39 ir1 ir2 ir3 ir4 rfl (by decide) (.slice fa f.length fcp) f.length (cells2 Run.At Run.N f) (by rfl) (ownsRow_ext HOR.out hxa3) ⟨W2.heap.size, 0, none⟩ 1 1 [.int .i64 n1, .int .i64 n2] (by rfl) (by rfl) hne2 (one2 _ _ _ _) (by unfold maxLen; omega) (by omega) (by omega) (fun v5 W5 hown5 hgrow5 hnil5 => ?_)
            obtain ⟨g5, c5, rfl⟩ := own_someT hown5 (by omega)
            have hX5 : W5.heap[X]? = some (.cells #[.string (tx N1), .int .i64 (-1), .slice fa f.length fcp] 41 (0, 0)) := (hgrow5.block _ (by omega) (fun e => by have := own_lt HOR.out _ e.symm; omega)).trans (blk_extT HXk.out hxa3)
            have hx5 : Ext w W5 := (HXW.out.tr hxa3).gr hgrow5 (fun g hg => by have := own_lt HOR.out g hg; omega)
            have hk5 : ∀ j, j < W9.heap.size → j ≠ X → W5.heap[j]? = W9.heap[j]? := fun j hj hjX => (hgrow5.block j (by omega) (fun e => by have := own_lt HOR.out _ e.symm; omega)).trans ((hxa3.block j (by omega)).trans (HK.out j hj hjX))
            have hs5g := hgrow5.size
            have k25 := cell_of_row _ _ 2 _ _ _ hX5
            have f25 := frozen_of_row _ _ 2 _ _ hX5
            refine hK.out _ _ ?_ (fun hHeld => ?_)
            · (exact k25)
            clear hK K
            refine wpAnyT_take (i := 9) (v := ?_) rfl (by kernel_rfl) (fun _ _ _ h => h) (Or.inl ⟨by rfl, ?_⟩) (by assumption) ?_
            rotate_left
            · intro W hSW
              simp only [List.getElem_toArray, List.getElem_cons_zero, List.getElem_cons_succ]
              (try dsimp only at hSW)
              go_simp
              (try with_reducible rfl)
            simp only [List.getElem_toArray, List.getElem_cons_zero, List.getElem_cons_succ, Act.put, List.setIfInBounds_toArray, List.set_cons_zero, List.set_cons_succ]
            refine wpAnyT_last (t := 10) (by kernel_rfl) rfl (by kernel_rfl) (fun K hK => ?_)
            simp only [List.getElem_toArray, List.getElem_cons_zero, List.getElem_cons_succ]
            go_simp
            refine hK.out _ _ ?_
            clear hK K
            have HX6 := hid (heap_setCell_same W5 X 2 _ _ (.slice (some ⟨g5, 0, none⟩) (f.length + 1) c5) hX5)
            have HO6 := hid (ownsRow_setCell (c := X) (o := 2) (u := .slice (some ⟨g5, 0, none⟩) (f.length + 1) c5) hown5 (by omega))
            have HXX := hid (hx5.se (b := X) (o := 2) (by omega) (.slice (some ⟨g5, 0, none⟩) (f.length + 1) c5))
            have HK6 := hid (fun j (hj : j < W9.heap.size) (hjX : j ≠ X) => (heap_setCell_other W5 ⟨X, 2, none⟩ j (.slice (some ⟨g5, 0, none⟩) (f.length + 1) c5) hjX).trans (hk5 j hj hjX))
            have HS6 := hid (show W9.heap.size ≤ (W5.setCell ⟨X, 2, none⟩ (.slice (some ⟨g5, 0, none⟩) (f.length + 1) c5)).heap.size from by simp [World.setCell]; omega)
            generalize W5.setCell ⟨X, 2, none⟩ (.slice (some ⟨g5, 0, none⟩) (f.length + 1) c5) = W6 at *
            clear hHeld k2 k25 f25 hX5 hx5 hown5 hgrow5 hnil5 hW3 hxa1 hxa2 hxa3 hx1 hx2 hne2 HOR HXk
            go_wp2_with fail
            go_roundw
            case rel =>
              refine ⟨i + 1, f ++ [⟨n1, n2⟩], _, by go_num, HLT.out, HS6.out, hid (by simp [HFI.out]), hid (by rw [take_one HXI.out]; exact HRU2.out), HX6, hid ?_, HI2, HK6, HXX⟩
              have := HO6.out
              simpa [cells2] using this
            case measure => have := HLT.out; simp [intOf]; omega
        · obtain rfl : i = m := by omega
          have hlt' : ¬ (i : Int) < (i : Int) := by omega
          have HL := hid (show lineQ l s = some ⟨tx N1, (-1), f⟩ from by
            have e := HRU.out
            rw [List.take_of_length_le (by rw [HM.out]; exact Nat.le_refl _)] at e
            rw [HLQ.out, e]; rfl)
          obtain ⟨fa, fcp, rfl⟩ := ownsRow_slice HOR.out
          have hX0 := HXk.out
          have k0 := cell_of_row _ X 0 _ _ _ hX0
          have k1 := cell_of_row _ X 1 _ _ _ hX0
          have k2 := cell_of_row _ X 2 _ _ _ hX0
          have hf5 : f.length ≤ 5000 := by rw [HFI.out]; omega
          have HR := hid ((HK.out w.heap.size (by omega) (by omega)).trans HR9.out)
          have HRV := hid (show RunsV wr (.slice fa f.length fcp) f from sv_of_owns2 HOR.out HI.out (by omega))
          have HNW := hid (show NewT w.heap.size wr (.slice fa f.length fcp) from fun a n c e => by
            have h2 := HOR.out.2
            rcases h2 with ⟨h2, _⟩ | ⟨g, cap, cur, h2, hg, hh, _⟩
            · rw [e] at h2; cases h2
            · rw [e] at h2; cases h2
              exact ⟨by show w.heap.size ≤ g; omega, (Array.getElem?_eq_some_iff.1 hh).1⟩)
          have HBF := hid (setRow_heap wr w.heap.size _ #[.string (tx N1), .int .i64 (-1), .slice fa f.length fcp] _ _ HR.out)
          have HXF := hid (HXW.out.sr (b := w.heap.size) (Nat.le_refl _) #[.string (tx N1), .int .i64 (-1), .slice fa f.length fcp])
          clear hX0
          go_wp2_with (refine wpList_store_row rfl 41 _ _ rfl w.heap.size #[.string (tx N1), .int .i64 (-1), .slice fa f.length fcp] rfl rfl 41 _ HR.out queue_size rfl (by simp [Value.oneCell']) ?_)
          refine bodyPost_ret (results_cell_row rfl _ _ w.heap.size 41 #[.string (tx N1), .int .i64 (-1), .slice fa f.length fcp] (0, 0) _ rfl HBF.out Tryd.underlying41 rfl queue_size) rfl ?_
          refine ⟨HXF.out, ?_⟩
          rw [HL.out]
          refine ⟨_, rfl, svT_apart HRV.out (grown_row wr w.heap.size _) (fun a n c e he => ?_), fun a n c e => ?_, hNz, by show I64 (-1); unfold I64; omega⟩
          · have := own_from HOR.out a n c e
            have h2 := Option.some.inj he
            omega
          · have := HNW.out a n c e
            rw [size_setRow]; exact this
end Go.Proofs.YtdcndkojmflhnaaDoor
