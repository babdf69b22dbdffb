/- Walks of strings.Builder, as this program has it. -/
import Derived.Test.YtdcndkojmflhnaaDoorTextE
import Derived.Test.YtdcndkojmflhnaaDoorTextS
import Derived.Lib.FrozenHead2
import Derived.Lib.OthersKept
import Derived.Lib.Builder
set_option linter.unusedVariables false
set_option linter.unusedSimpArgs false
set_option maxRecDepth 100000
set_option maxHeartbeats 8000000
namespace Go.Proofs.YtdcndkojmflhnaaDoor
open Go.RowKit
theorem byte_info : (Tryd.prog.info? 5).map (fun i => (i.zero, i.size, i.bytes)) = some (some (.int .u8 0), 1, 1) := by kernel_rfl
theorem builder_info : (Tryd.prog.info? 38).map (·.size) = some 2 := by kernel_rfl
theorem copy_used (b : Nat) (w : World) (h0 : w.cell? ⟨b, 0, none⟩ = some (.pointer (some ⟨b, 0, none⟩))) :
    Calls Tryd.prog 38 #[.pointer (some ⟨b, 0, none⟩)] w fun e w' => e = .returned (.tuple #[]) ∧ w' = w := by
  obtain ⟨j, hj, _⟩ := Option.map_eq_some_iff.1 builder_info
  have hne := Lib.run_neq_ptr_same w ⟨b, 0, none⟩ Tryd.underlying35 hj
  go_enter Tryd.func38, Tryd.ntmps38
  go_wp2_with fail
  try rw [hne]
  go_wp2_with fail
  go_end0
  exact ⟨rfl, rfl⟩
theorem copy_fresh (b : Nat) (w : World) (h0 : w.cell? ⟨b, 0, none⟩ = some (.pointer none)) (hsh : w.shape? b = some (38, 2)) (hfz : w.frozen? ⟨b, 0, none⟩ = false) :
    Calls Tryd.prog 38 #[.pointer (some ⟨b, 0, none⟩)] w fun e w' => e = .returned (.tuple #[]) ∧ w' = w.setCell ⟨b, 0, none⟩ (.pointer (some ⟨b, 0, none⟩)) := by
  obtain ⟨j, hj, hjs⟩ := Option.map_eq_some_iff.1 builder_info
  have hto := Lib.run_to_unsafe w ⟨b, 0, none⟩ Tryd.underlying35 Tryd.underlying81 hj (by rw [hjs]; decide) hsh (Nat.zero_lt_succ 1)
  have hfrom := Lib.run_from_unsafe w ⟨b, 0, none⟩ Tryd.underlying81 Tryd.underlying35 hj hsh (by kernel_rfl)
  go_enter Tryd.func38, Tryd.ntmps38
  go_wp2_with fail
  rw [run_callFunc_extern Tryd.func54 (by kernel_rfl) (by kernel_rfl) (by kernel_rfl) (e := Extern.AbiNoEscape.same) (by kernel_rfl), Lib.run_noEscape]
  simp only [Result.andThen]
  rw [Oper.upon_value]
  go_wp2_with fail
  go_end0
  exact ⟨rfl, rfl⟩
/-- a builder that holds these bytes -/
def BIs (B b : Nat) (l : By) (w : World) : Prop := Lib.IsBuilderF 38 5 B b (Lib.byteCells l) w
/-- what a writer of the builder leaves -/
def BTo (B b : Nat) (l : By) (w w' : World) : Prop := BIs B b l w' ∧ Below B w w' ∧ Lib.OthersKept 5 (some b) w w'
theorem copy_any (B b : Nat) (bs : List Value) (w : World) (h : Lib.IsBuilderF 38 5 B b bs w) :
    Calls Tryd.prog 38 #[.pointer (some ⟨b, 0, none⟩)] w fun e w' => e = .returned (.tuple #[]) ∧ (Lib.BuilderAtF 38 5 B b (.pointer (some ⟨b, 0, none⟩)) bs w' ∧ Below B w w' ∧ Lib.OthersKept 5 (some b) w w') := by
  rcases h with h | h
  · refine (copy_fresh b w h.cell0 h.shape h.frozen0).mono ?_
    rintro e w' ⟨rfl, rfl⟩
    exact ⟨rfl, h.used _, (Below.refl B w).setCell (p := ⟨b, 0, none⟩) h.1 _, (Lib.OthersKept.refl _ _ w).setCell ⟨b, 0, none⟩ rfl _⟩
  · refine (copy_used b w h.cell0).mono ?_
    rintro e w' ⟨rfl, rfl⟩
    exact ⟨rfl, h, Below.refl B _, Lib.OthersKept.refl _ _ _⟩
theorem bytes_snoc (l : By) (c : UInt8) : Lib.byteCells (l ++ [c]) = Lib.byteCells l ++ [.int .u8 c.toNat] := by simp [Lib.byteCells]
theorem bytes_app (l m : By) : Lib.byteCells (l ++ m) = Lib.byteCells l ++ Lib.strCells (tx m) := by
  simp [Lib.byteCells, Lib.strCells, tx]
theorem builder_new (B : Nat) (w : World) (hB : B ≤ w.heap.size) : BIs B w.heap.size [] (w.alloc (.cells #[.pointer none, .slice none 0 0] 38)) :=
  .inl ⟨hB, .slice none 0 0, heap_alloc_new w _, World.ownsRowF_nil _ _ _ _, by simp [Value.ownBlock]⟩
theorem BIs.alloc {B b : Nat} {l : By} {w : World} (h : BIs B b l w) (o : Obj) : BIs B b l (w.alloc o) := Lib.IsBuilderF.alloc h o
theorem WriteByte_any (B b : Nat) (l : By) (c : UInt8) (w : World) (h : BIs B b l w) (hlen : l.length ≤ 1000000) (hBw : B ≤ w.heap.size) :
    Calls Tryd.prog 14 #[.pointer (some ⟨b, 0, none⟩), .int .u8 c.toNat] w fun e w' => e = .returned .nilIface ∧ BTo B b (l ++ [c]) w w' := by
  obtain ⟨i0, hi, hz0, hz1, hz2⟩ := info_parts byte_info
  have hbl := Lib.byteCells_length l
  have C := hid (copy_any B b (Lib.byteCells l) w h)
  clear h
  go_enter Tryd.func14, Tryd.ntmps14
  go_wp2_with fail
  refine C.out.mono ?_
  rintro e w1 ⟨rfl, h1, hb1, hk1⟩
  obtain ⟨hB, v, hbk, hown, hne⟩ := h1
  have c0 : w1.cell? ⟨b, 0, none⟩ = some (.pointer (some ⟨b, 0, none⟩)) := by rw [Lib.cell_of_heap hbk]; rfl
  have c1 : w1.cell? ⟨b, 1, none⟩ = some v := by rw [Lib.cell_of_heap hbk]; rfl
  rw [hbl] at hown
  have HB1 := hid hb1
  have HK1 := hid hk1
  have HOW := hid hown
  have HBK := hid hbk
  have HNE := hid hne
  clear hb1 hk1 hown hbk hne C
  have hsz := HB1.out.size
  have hlt : b < w1.heap.size := (Array.getElem?_eq_some_iff.1 HBK.out).1
  generalize hcn : (c.toNat : Int) = cn at *
  have HC := hid hcn
  clear hcn
  generalize hn : l.length = n at *
  have Hn := hid hn
  clear hn
  go_wp2_with (at_builtin; refine wpList_append_ownF _ rfl _ _ 36 rfl B 5 i0 (.int .u8 0) 1 1 Tryd.underlying36 hi hz0 hz1 hz2 rfl (by decide) _ _ _ rfl (HOW.out.alloc _) ⟨w1.heap.size, 0, none⟩ 1 1 [.int .u8 cn] rfl rfl ?c1 ?c2 ?c3 ?c4 ?c5 ?_)
  case c1 =>
    intro j u hj
    match j, hj with
    | 0, hj => simp at hj; subst hj; simp [Addr.add]
  case c2 => intro u hu; simp at hu; subst hu; rfl
  case c3 => unfold maxLen; omega
  case c4 => omega
  case c5 => simp; omega
  intro v' w2 hown' hgrow _
  have hb2 : w2.heap[b]? = some (.cells #[.pointer (some ⟨b, 0, none⟩), v] 38 (0, 0)) := by
    rw [hgrow.block b (by simp; omega) (fun e => HNE.out e.symm), Lib.alloc_old w1 _ b hlt]
    exact HBK.out
  have d0 : w2.cell? ⟨b, 0, none⟩ = some (.pointer (some ⟨b, 0, none⟩)) := by rw [Lib.cell_of_heap hb2]; rfl
  have d1 : w2.cell? ⟨b, 1, none⟩ = some v := by rw [Lib.cell_of_heap hb2]; rfl
  have f1 : w2.frozen? ⟨b, 1, none⟩ = false := Lib.frozen_of_heap hb2 1
  obtain ⟨g, cap, rfl⟩ : ∃ g cap, v' = .slice (some ⟨g, 0, none⟩) (n + 1) cap := by
    rcases hown'.2 with ⟨_, h0⟩ | ⟨g, cap, cur, fz, hv, _⟩
    · omega
    · exact ⟨g, cap, hv⟩
  have R1 := hid (((HK1.out.alloc _).grown hgrow (Lib.ownsRowF_kind (HOW.out.alloc _))).setCell ⟨b, 1, none⟩ rfl (.slice (some ⟨g, 0, none⟩) (n + 1) cap))
  have R2 := hid (((HB1.out.alloc (by omega) _).grown hgrow (by simp; omega) (fun k hk => (HOW.out.lt k hk).1)).setCell (p := ⟨b, 1, none⟩) hB (.slice (some ⟨g, 0, none⟩) (n + 1) cap))
  have R3 := hid (Lib.BuilderAtF.put (T := 38) (e := 5) hB hb2 (bs' := Lib.byteCells l ++ [.int .u8 cn]) (by simpa [hbl] using hown') (by decide))
  have HH := hid hb2
  clear hown' hgrow hb2
  go_wp2_with fail
  go_ret
  refine ⟨rfl, .inr ?_, R2.out, R1.out⟩
  rw [bytes_snoc, HC.out]
  exact R3.out
theorem WriteString_any (B b : Nat) (l m : By) (S : ByteArray) (hS : S = tx m) (w : World) (h : BIs B b l w) (hlen : l.length ≤ 1000000) (hm : m.length ≤ 1000000) (hBw : B ≤ w.heap.size) :
    Calls Tryd.prog 13 #[.pointer (some ⟨b, 0, none⟩), .string S] w fun e w' => (∃ k, e = .returned (.tuple #[.int .i64 k, .nilIface])) ∧ BTo B b (l ++ m) w w' := by
  obtain ⟨i0, hi, hz0, hz1, hz2⟩ := info_parts byte_info
  have hbl := Lib.byteCells_length l
  have C := hid (copy_any B b (Lib.byteCells l) w h)
  have hSz : S.size ≤ 1000000 := by rw [hS, tx_size]; exact hm
  have HS := hid hS
  clear h hS
  go_enter Tryd.func13, Tryd.ntmps13
  go_wp2_with fail
  refine C.out.mono ?_
  rintro e w1 ⟨rfl, h1, hb1, hk1⟩
  obtain ⟨hB, v, hbk, hown, hne⟩ := h1
  have c0 : w1.cell? ⟨b, 0, none⟩ = some (.pointer (some ⟨b, 0, none⟩)) := by rw [Lib.cell_of_heap hbk]; rfl
  have c1 : w1.cell? ⟨b, 1, none⟩ = some v := by rw [Lib.cell_of_heap hbk]; rfl
  rw [hbl] at hown
  have HB1 := hid hb1
  have HK1 := hid hk1
  have HOW := hid hown
  have HBK := hid hbk
  have HNE := hid hne
  clear hb1 hk1 hown hbk hne C
  have hsz := HB1.out.size
  have hlt : b < w1.heap.size := (Array.getElem?_eq_some_iff.1 HBK.out).1
  generalize hn : l.length = n at *
  have Hn := hid hn
  clear hn
  go_wp2_with (at_builtin; refine Lib.wpList_append_own_stringF _ rfl _ _ 36 9 rfl B 5 i0 Tryd.underlying36 Tryd.underlying9 hi hz0 hz1 hz2 _ _ _ rfl HOW.out S rfl ?c3 ?c4 ?c5 ?_)
  case c3 => unfold maxLen; omega
  case c4 => omega
  case c5 => omega
  intro v' w2 hown' hgrow _
  have hb2 : w2.heap[b]? = some (.cells #[.pointer (some ⟨b, 0, none⟩), v] 38 (0, 0)) := by
    rw [hgrow.block b hlt (fun e => HNE.out e.symm)]
    exact HBK.out
  have d0 : w2.cell? ⟨b, 0, none⟩ = some (.pointer (some ⟨b, 0, none⟩)) := by rw [Lib.cell_of_heap hb2]; rfl
  have d1 : w2.cell? ⟨b, 1, none⟩ = some v := by rw [Lib.cell_of_heap hb2]; rfl
  have f1 : w2.frozen? ⟨b, 1, none⟩ = false := Lib.frozen_of_heap hb2 1
  obtain ⟨ao, n', cap, rfl⟩ : ∃ ao n' cap, v' = .slice ao n' cap := by
    rcases hown'.2 with ⟨hv, _⟩ | ⟨g, cap, cur, fz, hv, _⟩
    · exact ⟨_, _, _, hv⟩
    · exact ⟨_, _, _, hv⟩
  have R1 := hid ((HK1.out.grown hgrow (Lib.ownsRowF_kind HOW.out)).setCell ⟨b, 1, none⟩ rfl (.slice ao n' cap))
  have R2 := hid ((HB1.out.grown hgrow (by omega) (fun k hk => (HOW.out.lt k hk).1)).setCell (p := ⟨b, 1, none⟩) hB (.slice ao n' cap))
  have R3 := hid (Lib.BuilderAtF.put (T := 38) (e := 5) hB hb2 (bs' := Lib.byteCells l ++ Lib.strCells S) (by simpa [hbl, Lib.strCells_length] using hown') (by decide))
  have HH := hid hb2
  clear hown' hgrow hb2
  go_wp2_with fail
  go_ret2
  refine ⟨⟨_, rfl⟩, .inr ?_, R2.out, R1.out⟩
  rw [bytes_app, ← HS.out]
  exact R3.out
/-! ### Show -/
def RetShow (w : World) (q : By × Int) (e : Ending) (w' : World) : Prop := e = .returned (.tuple #[.string (tx q.1), .int .i64 q.2]) ∧ Ext w w'
theorem kept_cells {b q : Nat} {w w' : World} {cs : Array Value} {t : TypeId} {fz : Nat × Nat} (h : Lib.OthersKept 5 (some b) w w') (hq : w.heap[q]? = some (.cells cs t fz)) (hqb : q ≠ b) (ht : t ≠ 5) : w'.heap[q]? = some (.cells cs t fz) :=
  h q _ hq (fun e => hqb (Option.some.inj e)) (fun c f e => ht (Obj.cells.inj e).2.1)
theorem BIs.dn {B b : Nat} {l : By} {w : World} (h : BIs B b l w) (n : Nat) : BIs B b l (w.drewN n) := h
theorem BIs.lt {B b : Nat} {l : By} {w : World} (h : BIs B b l w) : b < w.heap.size := h.elim (fun x => x.lt) (fun x => x.lt)
theorem BIs.base {B b : Nat} {l : By} {w : World} (h : BIs B b l w) : B ≤ b := h.elim (fun x => x.1) (fun x => x.1)
theorem cap_mem' {f : List Run} (h : CapOk f) {y : Run} {i : Nat} (hy : f[i]? = some y) : ∃ ya yn : Nat, y.At = ya ∧ y.N = yn ∧ ya < 100 ∧ yn < 100 := by
  have := cap_mem h y (List.mem_of_getElem? hy)
  exact ⟨y.At.toNat, y.N.toNat, by omega, by omega, by omega, by omega⟩
theorem Itoa_small (n : Nat) (h : n < 100) (w : World) : Calls Tryd.prog 15 #[.int .i64 n] w fun e w' => e = .returned (.string (tx (dig n))) ∧ w' = w := by
  rw [← dig_dec h]
  exact Tryd.strconv_Itoa_small n h w
theorem Show_bad (w : World) (v : Value) (l : List Queue) (hv : QueuesV w v l) (h : ¬ checkT l = 0) : Calls Tryd.prog 5 #[v] w (RetShow w (showR l)) := by
  have C := hid (treeCheck_any w v l hv)
  have HR := hid (show showR l = ([], checkT l) from by unfold showR; rw [if_neg h])
  obtain ⟨a, c, rfl, _⟩ := hv.form
  clear hv
  generalize checkT l = t at *
  generalize l.length = n at *
  go_enter Tryd.func5, Tryd.ntmps5
  go_wp2_with fail
  refine C.out.mono ?_
  rintro e w1 ⟨rfl, hx⟩
  go_wp2_with fail
  go_ret2
  rw [HR.out]
  exact ⟨rfl, hx⟩
theorem Show_ok (w : World) (v : Value) (l : List Queue) (hv : QueuesV w v l) (h : checkT l = 0) : Calls Tryd.prog 5 #[v] w (RetShow w (showR l)) := by
  have C := hid (treeCheck_any w v l hv)
  have HOK := hid (checkT_ok h)
  have HR := hid (show showR l = (treeB l, 0) from by unfold showR; rw [if_pos h])
  obtain ⟨fa, fc, rfl, _, _, _, hfE⟩ := svAt hv
  have HF := hid hfE
  rw [h] at C
  clear hv hfE h
  generalize hn : l.length = n at *
  have Hn := hid hn
  clear hn
  go_enter Tryd.func5, Tryd.ntmps5
  go_wp2_with fail
  refine C.out.mono ?_
  rintro e w1 ⟨rfl, hx1⟩
  have HX1 := hid hx1
  have HB0 := hid (builder_new w.heap.size w1 hx1.size)
  clear C hx1
  generalize hb : w1.heap.size = b at *
  go_wp2_with fail
  go_loopw [17] (fun c wr => ∃ k : Nat, c = .int .i64 k ∧ k ≤ n ∧ Hid (BIs w.heap.size b (partB l k) wr) ∧ Hid (Ext w wr)) (fun c _ => n - (intOf c).toNat)
  case atStart => exact ⟨0, rfl, by omega, hid (by rw [partB_zero]; exact HB0.out), hid (HX1.out.al _)⟩
  case round =>
    obtain ⟨k, rfl, hk, HB, HX⟩ := hrel
    have hsw := HX.out.size
    have hbw := HB.out.lt
    by_cases hlt : k < n
    · have hlt' : (k : Int) < (n : Int) := by omega
      obtain ⟨x, hxk⟩ := getA (f := l) (k := k) (by rw [Hn.out]; exact hlt)
      have hkl : k < l.length := by rw [Hn.out]; exact hlt
      have hnm : nm l k = x.Name := by unfold nm; rw [List.getD_eq_getElem?_getD, hxk]; rfl
      have hpar : par l k = x.Parent := by unfold par; rw [List.getD_eq_getElem?_getD, hxk]; rfl
      have hcp : cp l k = x.Cap := by unfold cp; rw [List.getD_eq_getElem?_getD, hxk]; rfl
      have hcap : CapOk x.Cap := by have := HOK.out.caps k hkl; rwa [hcp] at this
      have hnl := (HOK.out.names k hkl).1.2; rw [hnm] at hnl
      have hpp := HOK.out.pars k hkl; rw [hpar] at hpp
      have hpl := partB_len HOK.out k
      obtain ⟨fb, fo, rfl, hfb, hfe⟩ := HF.out (by omega)
      obtain ⟨c0, _, c1, _, cv, c2, hu⟩ := EQueue.mono w wr fb _ x HX.out (hfe k x hxk)
      obtain ⟨_, _, _, _, cv0, c20, hu0⟩ := hfe k x hxk
      obtain rfl : cv0 = cv := by have := HX.out.ce' c20; rw [this] at c2; exact Option.some.inj c2
      obtain ⟨m, hm⟩ : ∃ m, x.Cap.length = m := ⟨_, rfl⟩
      have HM := hid hm
      have hm48 : m ≤ 48 := by rw [← hm]; exact cap_len hcap
      obtain ⟨ua, uc, rfl, _, _, _⟩ := hu0.form
      rw [hm] at c2
      have HU := hid (show RunsV w (.slice ua m uc) x.Cap from by rw [← hm]; exact hu0)
      have HLT := hid hlt
      have HFE := hid (show ∀ k x, l[k]? = some x → EQueue w fb (fo + k * 3) x from hfe)
      have HXK := hid hxk
      have HCAP := hid hcap
      have t1 := deF (show ¬ (k : Int) < 0 by omega)
      have t2 := deF (show ¬ (n : Int) ≤ (k : Int) by omega)
      have t3 := deF (show ¬ n ≤ k by omega)
      have hnb : (bs x.Name).length ≤ 8 := by rw [bs_len]; exact hnl
      generalize hN : x.Name = N at *
      have HN := hid hN
      have HTX := hid (tx_bs N)
      generalize hq : wr.heap.size = q at *
      have hqb : q ≠ b := by omega
      clear hfe hcap hnm hpar hcp hN hu hu0 c20 hm
      go_wp2_with fail
      refine (WriteString_any w.heap.size b (partB l k) (bs N) N HTX.out.symm _ (HB.out.alloc _) (by omega) (by omega) (by simp only [World.size_alloc]; omega)).mono ?_
      rintro e W2 ⟨⟨j, rfl⟩, hb2, hx2, hk2⟩
      have HB2 := hid hb2
      have HX2 := hid (Below.trans (HX.out.al _) hx2)
      have HQ2 := hid (kept_cells hk2 (by rw [← hq]; exact heap_alloc_new wr _) hqb (by decide))
      have hs2 := HX2.out.size
      clear hb2 hx2 hk2 c0 c1 c2
      have q1 : W2.cell? ⟨q, 1, none⟩ = some (.int .i64 x.Parent) := cell_of_row W2 q 1 _ _ _ HQ2.out
      by_cases h0 : 0 ≤ x.Parent
      · obtain ⟨p, hp⟩ : ∃ p : Nat, x.Parent = p := ⟨x.Parent.toNat, by omega⟩
        have hpk : p < k := by have := hpp.2; omega
        obtain ⟨y, hyp⟩ := getA (f := l) (k := p) (by rw [Hn.out]; omega)
        have hpl2 : p < l.length := by rw [Hn.out]; omega
        have hynm : nm l p = y.Name := by unfold nm; rw [List.getD_eq_getElem?_getD, hyp]; rfl
        have hyl := (HOK.out.names p hpl2).1.2; rw [hynm] at hyl
        obtain ⟨d0, _⟩ := EQueue.mono w W2 fb _ y HX2.out (HFE.out p y hyp)
        have HH := hid (show headB l x = bs N ++ ([32, 60, 32] ++ bs y.Name) from by unfold headB; rw [if_pos h0, hp, Int.toNat_natCast, hynm, HN.out])
        rw [hp] at q1 h0 HQ2
        have u1 := deF (show ¬ (p : Int) < 0 by omega)
        have u2 := deF (show ¬ (n : Int) ≤ (p : Int) by omega)
        have u3 := deF (show ¬ n ≤ p by omega)
        have hyb : (bs y.Name).length ≤ 8 := by rw [bs_len]; exact hyl
        have hhl : (headB l x).length ≤ 30 := by rw [HH.out]; simp only [List.length_append, List.length_cons, List.length_nil]; omega
        generalize hM : y.Name = M at *
        have HTM := hid (show ((⟨#[32, 60, 32]⟩ : ByteArray) ++ M) = tx ([32, 60, 32] ++ bs M) from by rw [← tx_app, tx_bs]; rfl)
        have hMs : M.size ≤ 8 := hyl
        clear hynm hpl2 hyp hM
        go_wp2_with fail
        refine (WriteString_any w.heap.size b (partB l k ++ bs N) ([32, 60, 32] ++ bs M) _ HTM.out _ HB2.out (by simp only [List.length_append]; omega) (by simp only [List.length_append, List.length_cons, List.length_nil]; omega) (by omega)).mono ?_
        rintro e W3 ⟨⟨j3, rfl⟩, hb3, hx3, hk3⟩
        have hbh : BIs w.heap.size b (partB l k ++ headB l x) W3 := by rw [HH.out, ← List.append_assoc]; exact hb3
        have HXW := hid (Below.trans HX2.out hx3)
        have HQ := hid (kept_cells hk3 HQ2.out hqb (by decide))
        have hs3 := HXW.out.size
        clear hb3 hx3 hk3 q1
        have HBH := hid hbh
        clear hbh
        go_wp2_with fail
        refine (WriteByte_any w.heap.size b (partB l k ++ headB l x) 58 _ HBH.out (by simp only [List.length_append]; omega) (by omega)).mono ?_
        rintro e W4 ⟨rfl, hb4, hx4, hk4⟩
        have HB4 := hid hb4
        have HX4 := hid (Below.trans HXW.out hx4)
        have HQ4 := hid (kept_cells hk4 HQ.out hqb (by decide))
        clear hb4 hx4 hk4
        have q2 : W4.cell? ⟨q, 2, none⟩ = some (.slice ua m uc) := cell_of_row W4 q 2 _ _ _ HQ4.out
        go_wp2_with fail
        go_loopw [39] (fun c wr => ∃ i : Nat, c = .int .i64 i ∧ i ≤ m ∧ Hid (BIs w.heap.size b (partB l k ++ (headB l x ++ 58 :: capK x.Cap i)) wr) ∧ Hid (Ext w wr)) (fun c _ => m - (intOf c).toNat)
        case atStart => exact ⟨0, rfl, by omega, hid (by have := HB4.out; simpa [capK, capB] using this), HX4⟩
        case round =>
          obtain ⟨i, rfl, hi, HBi, HXi⟩ := hrel
          have hsi := HXi.out.size
          have hbi := HBi.out.lt
          by_cases hil : i < m
          · have hil' : (i : Int) < (m : Int) := by omega
            obtain ⟨y, hyi⟩ := getA (f := x.Cap) (k := i) (by rw [HM.out]; exact hil)
            obtain ⟨_, _, hcv2, _, _, _, hrE⟩ := svAt (HU.out.mono HXi.out)
            rw [HM.out] at hcv2 hrE
            cases hcv2
            obtain ⟨rb, ro, rfl, hrb, hre⟩ := hrE (by omega)
            obtain ⟨e0, e1, _⟩ := hre i y hyi
            obtain ⟨ya, yn, hya, hyn, la, ln⟩ := cap_mem' HCAP.out hyi
            have HY := hid (show capK x.Cap (i + 1) = capK x.Cap i ++ (32 :: (dig ya ++ 61 :: dig yn)) from by rw [capK_step hyi]; unfold runB; rw [hya, hyn]; rfl)
            rw [hya] at e0
            rw [hyn] at e1
            have s1 : (tx (dig ya)).size ≤ 2 := by rw [tx_size]; exact (dig_len ya la).2
            have s2 : (tx (dig yn)).size ≤ 2 := by rw [tx_size]; exact (dig_len yn ln).2
            have v1 := deF (show ¬ (i : Int) < 0 by omega)
            have v2 := deF (show ¬ (m : Int) ≤ (i : Int) by omega)
            have v3 := deF (show ¬ m ≤ i by omega)
            have M1 := hid (fun W : World => Itoa_small ya la W)
            have M2 := hid (fun W : World => Itoa_small yn ln W)
            have hlk := capK_len HCAP.out i
            have l1 := (dig_len ya la).2
            have l2 := (dig_len yn ln).2
            have HBJ := hid (fun o => HBi.out.alloc o)
            have HXJ := hid (fun o => HXi.out.al o)
            clear hre hrE hyi hya hyn
            obtain ⟨da, hda⟩ : ∃ da, tx (dig ya) = da := ⟨_, rfl⟩
            obtain ⟨dn, hdn⟩ : ∃ dn, tx (dig yn) = dn := ⟨_, rfl⟩
            rw [hda] at M1 s1
            rw [hdn] at M2 s2
            have HDA := hid hda
            have HDN := hid hdn
            clear hda hdn
            have HIL := hid hil
            have HSTR := hid (show (⟨#[32]⟩ : ByteArray) ++ da ++ ⟨#[61]⟩ ++ dn = tx (32 :: (dig ya ++ 61 :: dig yn)) from by rw [← HDA.out, ← HDN.out]; simp only [cTx, tx_app, List.append_assoc, List.cons_append, List.nil_append])
            go_wp2_with fail
            have k0 : (wr.alloc (.cells #[.int .i64 ya, .int .i64 yn] 48)).cell? ⟨wr.heap.size, 0, none⟩ = some (.int .i64 ya) := cell_of_row _ _ 0 _ _ _ (heap_alloc_new wr _)
            have k1 : (wr.alloc (.cells #[.int .i64 ya, .int .i64 yn] 48)).cell? ⟨wr.heap.size, 1, none⟩ = some (.int .i64 yn) := cell_of_row _ _ 1 _ _ _ (heap_alloc_new wr _)
            have HBK := hid (HBJ.out (.cells #[.int .i64 ya, .int .i64 yn] 48))
            have HXK2 := hid (HXJ.out (.cells #[.int .i64 ya, .int .i64 yn] 48))
            generalize wr.alloc (.cells #[.int .i64 ya, .int .i64 yn] 48) = Wb at *
            refine region_quiet_tail (C := fun w' => ∃ n, w' = Wb.drewN n) 9 (by kernel_rfl) (by kernel_rfl) ⟨1, rfl⟩ ?_
            simp only [List.take_succ_cons, List.take_zero, List.drop_succ_cons, List.drop_zero]
            repeat (go_big_quiet_step (first | exact Calls.quiet_of_same (M1.out _) | exact Calls.quiet_of_same (M2.out _)))
            refine wpQuiet_nil ?_
            rintro w' ⟨nq, rfl⟩
            go_wp2_with fail
            refine (WriteString_any w.heap.size b _ (32 :: (dig ya ++ 61 :: dig yn)) _ HSTR.out _ (HBK.out.dn nq) (by simp only [List.length_append, List.length_cons]; omega) (by simp only [List.length_append, List.length_cons]; omega) (HXK2.out.dn nq).size).mono ?_
            rintro e W5 ⟨⟨j5, rfl⟩, hb5, hx5, hk5⟩
            have HB5 := hid hb5
            have HX5 := hid (Below.trans (HXK2.out.dn nq) hx5)
            clear hb5 hx5 hk5
            go_wp2_with fail
            go_roundw
            case rel =>
              refine ⟨i + 1, by go_num, HIL.out, hid ?_, HX5⟩
              have := HB5.out
              rw [HY.out]
              simpa only [List.append_assoc, List.cons_append, List.nil_append] using this
            case measure => have := HIL.out; simp [intOf]; omega
          · obtain rfl : i = m := by omega
            have hil' : ¬ (i : Int) < (i : Int) := by omega
            have hKF : capK x.Cap i = capB x.Cap := by unfold capK; rw [List.take_of_length_le (by rw [HM.out]; exact Nat.le_refl _)]
            rw [hKF] at HBi
            have hlk := capB_le x.Cap (cap_mem HCAP.out)
            rw [HM.out] at hlk
            go_wp2_with fail
            refine (WriteByte_any w.heap.size b _ 10 _ HBi.out (by simp only [List.length_append, List.length_cons]; omega) (by omega)).mono ?_
            rintro e W5 ⟨rfl, hb5, hx5, hk5⟩
            have HB5 := hid hb5
            have HX5 := hid (Below.trans HXi.out hx5)
            clear hb5 hx5 hk5
            go_wp2_with fail
            go_roundw
            case rel =>
              refine ⟨k + 1, by go_num, HLT.out, hid ?_, HX5⟩
              rw [partB_step HXK.out]
              have := HB5.out
              simpa only [List.append_assoc, List.cons_append, List.nil_append] using this
            case measure => have := HLT.out; simp [intOf]; omega
      · have HH := hid (show headB l x = bs N from by unfold headB; rw [if_neg h0, HN.out]; simp)
        have hhl : (headB l x).length ≤ 30 := by rw [HH.out]; omega
        have hbh : BIs w.heap.size b (partB l k ++ headB l x) W2 := by rw [HH.out]; exact HB2.out
        have HXW := HX2
        have HQ := HQ2
        have h0' : x.Parent < 0 := by omega
        have HBH := hid hbh
        clear hbh
        go_wp2_with fail
        refine (WriteByte_any w.heap.size b (partB l k ++ headB l x) 58 _ HBH.out (by simp only [List.length_append]; omega) (by omega)).mono ?_
        rintro e W4 ⟨rfl, hb4, hx4, hk4⟩
        have HB4 := hid hb4
        have HX4 := hid (Below.trans HXW.out hx4)
        have HQ4 := hid (kept_cells hk4 HQ.out hqb (by decide))
        clear hb4 hx4 hk4
        have q2 : W4.cell? ⟨q, 2, none⟩ = some (.slice ua m uc) := cell_of_row W4 q 2 _ _ _ HQ4.out
        go_wp2_with fail
        go_loopw [39] (fun c wr => ∃ i : Nat, c = .int .i64 i ∧ i ≤ m ∧ Hid (BIs w.heap.size b (partB l k ++ (headB l x ++ 58 :: capK x.Cap i)) wr) ∧ Hid (Ext w wr)) (fun c _ => m - (intOf c).toNat)
        case atStart => exact ⟨0, rfl, by omega, hid (by have := HB4.out; simpa [capK, capB] using this), HX4⟩
        case round =>
          obtain ⟨i, rfl, hi, HBi, HXi⟩ := hrel
          have hsi := HXi.out.size
          have hbi := HBi.out.lt
          by_cases hil : i < m
          · have hil' : (i : Int) < (m : Int) := by omega
            obtain ⟨y, hyi⟩ := getA (f := x.Cap) (k := i) (by rw [HM.out]; exact hil)
            obtain ⟨_, _, hcv2, _, _, _, hrE⟩ := svAt (HU.out.mono HXi.out)
            rw [HM.out] at hcv2 hrE
            cases hcv2
            obtain ⟨rb, ro, rfl, hrb, hre⟩ := hrE (by omega)
            obtain ⟨e0, e1, _⟩ := hre i y hyi
            obtain ⟨ya, yn, hya, hyn, la, ln⟩ := cap_mem' HCAP.out hyi
            have HY := hid (show capK x.Cap (i + 1) = capK x.Cap i ++ (32 :: (dig ya ++ 61 :: dig yn)) from by rw [capK_step hyi]; unfold runB; rw [hya, hyn]; rfl)
            rw [hya] at e0
            rw [hyn] at e1
            have s1 : (tx (dig ya)).size ≤ 2 := by rw [tx_size]; exact (dig_len ya la).2
            have s2 : (tx (dig yn)).size ≤ 2 := by rw [tx_size]; exact (dig_len yn ln).2
            have v1 := deF (show ¬ (i : Int) < 0 by omega)
            have v2 := deF (show ¬ (m : Int) ≤ (i : Int) by omega)
            have v3 := deF (show ¬ m ≤ i by omega)
            have M1 := hid (fun W : World => Itoa_small ya la W)
            have M2 := hid (fun W : World => Itoa_small yn ln W)
            have hlk := capK_len HCAP.out i
            have l1 := (dig_len ya la).2
            have l2 := (dig_len yn ln).2
            have HBJ := hid (fun o => HBi.out.alloc o)
            have HXJ := hid (fun o => HXi.out.al o)
            clear hre hrE hyi hya hyn
            obtain ⟨da, hda⟩ : ∃ da, tx (dig ya) = da := ⟨_, rfl⟩
            obtain ⟨dn, hdn⟩ : ∃ dn, tx (dig yn) = dn := ⟨_, rfl⟩
            rw [hda] at M1 s1
            rw [hdn] at M2 s2
            have HDA := hid hda
            have HDN := hid hdn
            clear hda hdn
            have HIL := hid hil
            have HSTR := hid (show (⟨#[32]⟩ : ByteArray) ++ da ++ ⟨#[61]⟩ ++ dn = tx (32 :: (dig ya ++ 61 :: dig yn)) from by rw [← HDA.out, ← HDN.out]; simp only [cTx, tx_app, List.append_assoc, List.cons_append, List.nil_append])
            go_wp2_with fail
            have k0 : (wr.alloc (.cells #[.int .i64 ya, .int .i64 yn] 48)).cell? ⟨wr.heap.size, 0, none⟩ = some (.int .i64 ya) := cell_of_row _ _ 0 _ _ _ (heap_alloc_new wr _)
            have k1 : (wr.alloc (.cells #[.int .i64 ya, .int .i64 yn] 48)).cell? ⟨wr.heap.size, 1, none⟩ = some (.int .i64 yn) := cell_of_row _ _ 1 _ _ _ (heap_alloc_new wr _)
            have HBK := hid (HBJ.out (.cells #[.int .i64 ya, .int .i64 yn] 48))
            have HXK2 := hid (HXJ.out (.cells #[.int .i64 ya, .int .i64 yn] 48))
            generalize wr.alloc (.cells #[.int .i64 ya, .int .i64 yn] 48) = Wb at *
            refine region_quiet_tail (C := fun w' => ∃ n, w' = Wb.drewN n) 9 (by kernel_rfl) (by kernel_rfl) ⟨1, rfl⟩ ?_
            simp only [List.take_succ_cons, List.take_zero, List.drop_succ_cons, List.drop_zero]
            repeat (go_big_quiet_step (first | exact Calls.quiet_of_same (M1.out _) | exact Calls.quiet_of_same (M2.out _)))
            refine wpQuiet_nil ?_
            rintro w' ⟨nq, rfl⟩
            go_wp2_with fail
            refine (WriteString_any w.heap.size b _ (32 :: (dig ya ++ 61 :: dig yn)) _ HSTR.out _ (HBK.out.dn nq) (by simp only [List.length_append, List.length_cons]; omega) (by simp only [List.length_append, List.length_cons]; omega) (HXK2.out.dn nq).size).mono ?_
            rintro e W5 ⟨⟨j5, rfl⟩, hb5, hx5, hk5⟩
            have HB5 := hid hb5
            have HX5 := hid (Below.trans (HXK2.out.dn nq) hx5)
            clear hb5 hx5 hk5
            go_wp2_with fail
            go_roundw
            case rel =>
              refine ⟨i + 1, by go_num, HIL.out, hid ?_, HX5⟩
              have := HB5.out
              rw [HY.out]
              simpa only [List.append_assoc, List.cons_append, List.nil_append] using this
            case measure => have := HIL.out; simp [intOf]; omega
          · obtain rfl : i = m := by omega
            have hil' : ¬ (i : Int) < (i : Int) := by omega
            have hKF : capK x.Cap i = capB x.Cap := by unfold capK; rw [List.take_of_length_le (by rw [HM.out]; exact Nat.le_refl _)]
            rw [hKF] at HBi
            have hlk := capB_le x.Cap (cap_mem HCAP.out)
            rw [HM.out] at hlk
            go_wp2_with fail
            refine (WriteByte_any w.heap.size b _ 10 _ HBi.out (by simp only [List.length_append, List.length_cons]; omega) (by omega)).mono ?_
            rintro e W5 ⟨rfl, hb5, hx5, hk5⟩
            have HB5 := hid hb5
            have HX5 := hid (Below.trans HXi.out hx5)
            clear hb5 hx5 hk5
            go_wp2_with fail
            go_roundw
            case rel =>
              refine ⟨k + 1, by go_num, HLT.out, hid ?_, HX5⟩
              rw [partB_step HXK.out]
              have := HB5.out
              simpa only [List.append_assoc, List.cons_append, List.nil_append] using this
            case measure => have := HLT.out; simp [intOf]; omega
    · obtain rfl : k = n := by omega
      have hlt' : ¬ (k : Int) < (k : Int) := by omega
      have HSE := hid (partB_all (l := l) (k := k) (by rw [Hn.out]; exact Nat.le_refl _))
      rw [HSE.out] at HB
      go_wp2_with fail
      refine (Tryd.Builder_String_any_k w.heap.size b (treeB l) _ HB.out (by omega)).mono ?_
      rintro e W6 ⟨rfl, _, hx6, _⟩
      have HX6 := hid (Below.trans HX.out hx6)
      clear hx6
      go_wp2_with fail
      go_ret2
      rw [HR.out]
      exact ⟨rfl, HX6.out⟩
theorem Show_any (w : World) (v : Value) (l : List Queue) (hv : QueuesV w v l) : Calls Tryd.prog 5 #[v] w (RetShow w (showR l)) := by
  by_cases h : checkT l = 0
  · exact Show_ok w v l hv h
  · exact Show_bad w v l hv h
end Go.Proofs.YtdcndkojmflhnaaDoor
