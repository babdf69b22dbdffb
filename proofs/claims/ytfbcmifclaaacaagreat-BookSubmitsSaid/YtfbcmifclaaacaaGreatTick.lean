/- Tick, TickOf -/
import Derived.Test.YtfbcmifclaaacaaGreatCan

/- Walks of book.Tick and of the reference's TickOf. -/
set_option linter.unusedVariables false
namespace Go.Proofs.YtfbcmifclaaacaaGreat
open Go.RowKit

/-- those that are not over by t -/
noncomputable def stayB (t : Int) (b : List Book) : List Book := b.filter fun x => !lateB t x
noncomputable def laterS (s : State) (t : Int) : State := ⟨t, s.Next, s.Tree, stayB t s.Books⟩
/-- what Tick tells -/
@[irreducible] noncomputable def tickR (s : State) (t : Int) : State × Int × Int :=
  if stateE s ≠ 0 then (noneS, 0, stateE s) else if ¬ (0 ≤ t ∧ t ≤ 48) then (noneS, 0, 3) else if t < s.Clock then (noneS, 0, 9) else (laterS s t, (s.Books.length : Int) - ((stayB t s.Books).length : Int), 0)
theorem tickR_bad {s : State} {t : Int} (h : stateE s ≠ 0) : tickR s t = (noneS, 0, stateE s) := by unfold tickR; rw [if_pos h]
theorem tickR_range {s : State} {t : Int} (h : stateE s = 0) (h2 : ¬ (0 ≤ t ∧ t ≤ 48)) : tickR s t = (noneS, 0, 3) := by unfold tickR; rw [if_neg (by simp [h]), if_pos h2]
theorem tickR_late {s : State} {t : Int} (h : stateE s = 0) (h2 : 0 ≤ t ∧ t ≤ 48) (h3 : t < s.Clock) : tickR s t = (noneS, 0, 9) := by unfold tickR; rw [if_neg (by simp [h]), if_neg (by simp [h2]), if_pos h3]
theorem tickR_ok {s : State} {t : Int} (h : stateE s = 0) (h2 : 0 ≤ t ∧ t ≤ 48) (h3 : ¬ t < s.Clock) : tickR s t = (laterS s t, (s.Books.length : Int) - ((stayB t s.Books).length : Int), 0) := by unfold tickR; rw [if_neg (by simp [h]), if_neg (by simp [h2]), if_neg h3]

set_option maxRecDepth 100000 in
theorem Tick1_any (w : World) (pv bv : Value) (x : Book) (t : Int) (B : Nat) (hp : PiecesV w pv x.Req.Pieces) (hb : BitesV w bv x.Bites) (hc : w.cell? ⟨B, 0, none⟩ = some (.int .i64 t)) :
    Calls Tryz.prog 47 #[.agg #[.int .i64 x.Id, .int .i64 x.Req.Queue, .int .i64 x.Req.From, .int .i64 x.Req.Until, .int .i64 x.Req.Kind, pv, bv], .pointer (some ⟨B, 0, none⟩)] w fun e w' => e = .returned (.bool (lateB t x)) ∧ Ext w w' := by
  have O := hid (fun (W : World) (h : Ext w W) => Ended_any W pv bv x t (hp.mono h) (hb.mono h))
  have hBl := World.block_lt_of_cell? w _ hc
  have hB : B < w.heap.size := hBl
  clear hBl
  obtain ⟨pa, pc, rfl, _, _, _⟩ := hp.form
  obtain ⟨ba, bc, rfl, _, _, _⟩ := hb.form
  clear hp hb
  generalize lateB t x = lt at *
  generalize x.Req.Pieces.length = pn at *
  generalize x.Bites.length = bn at *
  go_enter Tryz.func47, Tryz.ntmps47
  go_wp2_with fail
  refine (O.out _ ((Ext.rf w).al _)).mono ?_
  rintro e w1 ⟨rfl, hx⟩
  go_wp2_with fail
  go_ret
  exact ⟨rfl, ((Ext.rf w).al _).tr hx⟩

theorem tick_boxes (w : World) (s : State) (t : Int) (tv bv : Value) : ∃ w1 : World, ((w.alloc (.cells #[.int .i64 s.Clock, .int .i64 s.Next, tv, bv] 25)).alloc (.cells #[.int .i64 t] 3)).alloc (.cells #[.int .i64 0, .int .i64 0, .slice none 0 0, .slice none 0 0] 25) = w1 ∧ Ext w w1 ∧ (∀ W, Ext w1 W → (W.cell? ⟨w.heap.size, 0, none⟩ = some (.int .i64 s.Clock) ∧ W.cell? ⟨w.heap.size, 1, none⟩ = some (.int .i64 s.Next) ∧ W.cell? ⟨w.heap.size, 2, none⟩ = some tv ∧ W.cell? ⟨w.heap.size, 3, none⟩ = some bv)) ∧
    (∀ W, Ext w1 W → W.cell? ⟨w.heap.size + 1, 0, none⟩ = some (.int .i64 t)) ∧
    (∀ W, Ext w1 W → W.heap[w.heap.size + 1 + 1]? = some (.cells #[.int .i64 0, .int .i64 0, .slice none 0 0, .slice none 0 0] 25 (0, 0))) ∧ w1.heap.size = w.heap.size + 3 := by
  refine ⟨_, rfl, (((Ext.rf w).al _).al _).al _, fun W h => stateCells ((((Ext.rf _).al _).al _).tr h), fun W h => ?_, fun W h => ?_, by simp⟩
  · have e := heap_alloc_new (w.alloc (.cells #[.int .i64 s.Clock, .int .i64 s.Next, tv, bv] 25)) (.cells #[.int .i64 t] 3)
    simp only [World.size_alloc] at e
    exact cell_of_row W _ 0 _ _ _ ((h.block _ (by simp)).trans ((((Ext.rf _).al _).block _ (by simp)).trans e))
  · have e := heap_alloc_new ((w.alloc (.cells #[.int .i64 s.Clock, .int .i64 s.Next, tv, bv] 25)).alloc (.cells #[.int .i64 t] 3)) (.cells #[.int .i64 0, .int .i64 0, .slice none 0 0, .slice none 0 0] 25)
    simp only [World.size_alloc] at e
    exact (h.block _ (by simp)).trans e

set_option maxRecDepth 100000 in
set_option maxHeartbeats 4000000 in
theorem Tick_bad (w : World) (tv bv : Value) (s : State) (t : Int) (hl : QueuesV w tv s.Tree) (hb : BooksV w bv s.Books) (h0 : stateE s ≠ 0) :
    Calls Tryz.prog 19 #[.agg #[.int .i64 s.Clock, .int .i64 s.Next, tv, bv], .int .i64 t] w (RetState3 w (tickR s t)) := by
  have F := hid (fun (W : World) (h : Ext w W) => planCheck_any W tv bv s (hl.mono h) (hb.mono h))
  obtain ⟨wb, hwb, HX, HSS, HTT, HZZ, hszb⟩ := tick_boxes w s t tv bv
  have HX0 := hid HX
  have HS0 := hid HSS
  have HT0 := hid HTT
  have HZ0 := hid HZZ
  have HWB := hid hwb
  have HSB := hid hszb
  clear HX HSS HTT HZZ hwb hszb
  have HR := hid (tickR_bad (t := t) h0)
  have hne := neT h0
  obtain ⟨qa, qc, rfl, _, _, _⟩ := hl.form
  obtain ⟨ba, bc, rfl, _, _, _⟩ := hb.form
  clear hl hb
  clear h0
  generalize stateE s = se at *
  generalize s.Tree.length = n at *
  generalize s.Books.length = z at *
  go_enter Tryz.func19, Tryz.ntmps19
  go_wp2_with fail
  rw [HWB.out]
  refine (F.out _ HX0.out).mono ?_
  rintro e w2 ⟨rfl, hx2⟩
  have HB := hid (HZ0.out w2 (hx2))
  have HX2 := hid ((HX0.out.tr (hx2)).sr (b := w.heap.size + 1 + 1) (by omega) #[.int .i64 0, .int .i64 0, .slice none 0 0, .slice none 0 0])
  have HB2 := hid (setRow_heap w2 (w.heap.size + 1 + 1) _ #[.int .i64 0, .int .i64 0, .slice none 0 0, .slice none 0 0] _ _ HB.out)
  go_wp2_with (refine wpList_store_row rfl 25 _ _ rfl (w.heap.size + 1 + 1) #[.int .i64 0, .int .i64 0, .slice none 0 0, .slice none 0 0] rfl rfl 25 _ HB.out Tryz.size25 rfl (by simp [Value.oneCell']) ?_)
  exact bodyPost_ret (results_row_two (u1 := 5) (u2 := 6) rfl _ _ (w.heap.size + 1 + 1) 25 #[.int .i64 0, .int .i64 0, .slice none 0 0, .slice none 0 0] (0, 0) _ rfl HB2.out Tryz.underlying25 rfl Tryz.size25) rfl (retState3_none HR.out HX2.out)

set_option maxRecDepth 100000 in
set_option maxHeartbeats 4000000 in
theorem Tick_range (w : World) (tv bv : Value) (s : State) (t : Int) (hl : QueuesV w tv s.Tree) (hb : BooksV w bv s.Books) (h0 : stateE s = 0) (h1 : ¬ (0 ≤ t ∧ t ≤ 48)) :
    Calls Tryz.prog 19 #[.agg #[.int .i64 s.Clock, .int .i64 s.Next, tv, bv], .int .i64 t] w (RetState3 w (tickR s t)) := by
  have F := hid (fun (W : World) (h : Ext w W) => planCheck_any W tv bv s (hl.mono h) (hb.mono h))
  obtain ⟨wb, hwb, HX, HSS, HTT, HZZ, hszb⟩ := tick_boxes w s t tv bv
  have HX0 := hid HX
  have HS0 := hid HSS
  have HT0 := hid HTT
  have HZ0 := hid HZZ
  have HWB := hid hwb
  have HSB := hid hszb
  clear HX HSS HTT HZZ hwb hszb
  have HR := hid (tickR_range h0 h1)
  rw [h0] at F
  obtain ⟨qa, qc, rfl, _, _, _⟩ := hl.form
  obtain ⟨ba, bc, rfl, _, _, _⟩ := hb.form
  clear hl hb
  clear h0
  generalize s.Tree.length = n at *
  generalize s.Books.length = z at *
  go_enter Tryz.func19, Tryz.ntmps19
  go_wp2_with fail
  rw [HWB.out]
  refine (F.out _ HX0.out).mono ?_
  rintro e w2 ⟨rfl, hx2⟩
  obtain ⟨a0, a1, a2, a3⟩ := HS0.out w2 hx2
  have ct := HT0.out w2 hx2
  by_cases hlo : t < 0
  · have t1 := deT hlo
    have HB := hid (HZ0.out w2 (hx2))
    have HX2 := hid ((HX0.out.tr (hx2)).sr (b := w.heap.size + 1 + 1) (by omega) #[.int .i64 0, .int .i64 0, .slice none 0 0, .slice none 0 0])
    have HB2 := hid (setRow_heap w2 (w.heap.size + 1 + 1) _ #[.int .i64 0, .int .i64 0, .slice none 0 0, .slice none 0 0] _ _ HB.out)
    go_wp2_with (refine wpList_store_row rfl 25 _ _ rfl (w.heap.size + 1 + 1) #[.int .i64 0, .int .i64 0, .slice none 0 0, .slice none 0 0] rfl rfl 25 _ HB.out Tryz.size25 rfl (by simp [Value.oneCell']) ?_)
    exact bodyPost_ret (results_row_two (u1 := 5) (u2 := 6) rfl _ _ (w.heap.size + 1 + 1) 25 #[.int .i64 0, .int .i64 0, .slice none 0 0, .slice none 0 0] (0, 0) _ rfl HB2.out Tryz.underlying25 rfl Tryz.size25) rfl (retState3_none HR.out HX2.out)
  · have hhi : 48 < t := by omega
    have t1 := deF hlo
    have t2 := deT hhi
    have HB := hid (HZ0.out w2 (hx2))
    have HX2 := hid ((HX0.out.tr (hx2)).sr (b := w.heap.size + 1 + 1) (by omega) #[.int .i64 0, .int .i64 0, .slice none 0 0, .slice none 0 0])
    have HB2 := hid (setRow_heap w2 (w.heap.size + 1 + 1) _ #[.int .i64 0, .int .i64 0, .slice none 0 0, .slice none 0 0] _ _ HB.out)
    go_wp2_with (refine wpList_store_row rfl 25 _ _ rfl (w.heap.size + 1 + 1) #[.int .i64 0, .int .i64 0, .slice none 0 0, .slice none 0 0] rfl rfl 25 _ HB.out Tryz.size25 rfl (by simp [Value.oneCell']) ?_)
    exact bodyPost_ret (results_row_two (u1 := 5) (u2 := 6) rfl _ _ (w.heap.size + 1 + 1) 25 #[.int .i64 0, .int .i64 0, .slice none 0 0, .slice none 0 0] (0, 0) _ rfl HB2.out Tryz.underlying25 rfl Tryz.size25) rfl (retState3_none HR.out HX2.out)

set_option maxRecDepth 100000 in
set_option maxHeartbeats 4000000 in
theorem Tick_late (w : World) (tv bv : Value) (s : State) (t : Int) (hl : QueuesV w tv s.Tree) (hb : BooksV w bv s.Books) (h0 : stateE s = 0) (h1 : 0 ≤ t ∧ t ≤ 48) (h2 : t < s.Clock) :
    Calls Tryz.prog 19 #[.agg #[.int .i64 s.Clock, .int .i64 s.Next, tv, bv], .int .i64 t] w (RetState3 w (tickR s t)) := by
  have F := hid (fun (W : World) (h : Ext w W) => planCheck_any W tv bv s (hl.mono h) (hb.mono h))
  obtain ⟨wb, hwb, HX, HSS, HTT, HZZ, hszb⟩ := tick_boxes w s t tv bv
  have HX0 := hid HX
  have HS0 := hid HSS
  have HT0 := hid HTT
  have HZ0 := hid HZZ
  have HWB := hid hwb
  have HSB := hid hszb
  clear HX HSS HTT HZZ hwb hszb
  have HR := hid (tickR_late h0 h1 h2)
  rw [h0] at F
  obtain ⟨qa, qc, rfl, _, _, _⟩ := hl.form
  obtain ⟨ba, bc, rfl, _, _, _⟩ := hb.form
  clear hl hb
  clear h0
  obtain ⟨g1, g2⟩ := h1
  generalize s.Tree.length = n at *
  generalize s.Books.length = z at *
  go_enter Tryz.func19, Tryz.ntmps19
  go_wp2_with fail
  rw [HWB.out]
  refine (F.out _ HX0.out).mono ?_
  rintro e w2 ⟨rfl, hx2⟩
  obtain ⟨a0, a1, a2, a3⟩ := HS0.out w2 hx2
  have ct := HT0.out w2 hx2
  have t1 := deF (show ¬ t < 0 by omega)
  have t2 := deF (show ¬ 48 < t by omega)
  have t3 := deT h2
  have HB := hid (HZ0.out w2 (hx2))
  have HX2 := hid ((HX0.out.tr (hx2)).sr (b := w.heap.size + 1 + 1) (by omega) #[.int .i64 0, .int .i64 0, .slice none 0 0, .slice none 0 0])
  have HB2 := hid (setRow_heap w2 (w.heap.size + 1 + 1) _ #[.int .i64 0, .int .i64 0, .slice none 0 0, .slice none 0 0] _ _ HB.out)
  go_wp2_with (refine wpList_store_row rfl 25 _ _ rfl (w.heap.size + 1 + 1) #[.int .i64 0, .int .i64 0, .slice none 0 0, .slice none 0 0] rfl rfl 25 _ HB.out Tryz.size25 rfl (by simp [Value.oneCell']) ?_)
  exact bodyPost_ret (results_row_two (u1 := 5) (u2 := 6) rfl _ _ (w.heap.size + 1 + 1) 25 #[.int .i64 0, .int .i64 0, .slice none 0 0, .slice none 0 0] (0, 0) _ rfl HB2.out Tryz.underlying25 rfl Tryz.size25) rfl (retState3_none HR.out HX2.out)

set_option maxRecDepth 100000 in
set_option maxHeartbeats 4000000 in
theorem Tick_rest (w : World) (tv bv : Value) (s : State) (t : Int) (hl : QueuesV w tv s.Tree) (hb : BooksV w bv s.Books) (h0 : stateE s = 0) (h1 : 0 ≤ t ∧ t ≤ 48) (h2 : ¬ t < s.Clock) :
    Calls Tryz.prog 19 #[.agg #[.int .i64 s.Clock, .int .i64 s.Next, tv, bv], .int .i64 t] w (RetState3 w (tickR s t)) := by
  have F := hid (fun (W : World) (h : Ext w W) => planCheck_any W tv bv s (hl.mono h) (hb.mono h))
  obtain ⟨wb, hwb, HX, HSS, HTT, HZZ, hszb⟩ := tick_boxes w s t tv bv
  have HX0 := hid HX
  have HS0 := hid HSS
  have HT0 := hid HTT
  have HZ0 := hid HZZ
  have HWB := hid hwb
  have HSB := hid hszb
  clear HX HSS HTT HZZ hwb hszb
  have HR := hid (tickR_ok h0 h1 h2)
  rw [h0] at F
  obtain ⟨ok, h12, hbok⟩ := right_of h0
  have OW := hid (fun (W : World) (h : Ext w W) => Own_S W tv bv s (hl.mono h) (hb.mono h) ok h12 hbok)
  obtain ⟨qa, qc, rfl, _, _, _⟩ := hl.form
  obtain ⟨ba, bc, rfl, _, _, _⟩ := hb.form
  clear hl hb
  clear h0 ok hbok
  obtain ⟨g1, g2⟩ := h1
  generalize hqn : s.Tree.length = n at *
  generalize hbz : s.Books.length = z at *
  have HQN := hid hqn
  have HBZ := hid hbz
  clear hqn hbz
  go_enter Tryz.func19, Tryz.ntmps19
  go_wp2_with fail
  rw [HWB.out]
  refine (F.out _ HX0.out).mono ?_
  rintro e w2 ⟨rfl, hx2⟩
  obtain ⟨a0, a1, a2, a3⟩ := HS0.out w2 hx2
  have ct := HT0.out w2 hx2
  have t1 := deF (show ¬ t < 0 by omega)
  have t2 := deF (show ¬ 48 < t by omega)
  have t3 := deF (show ¬ t < s.Clock by omega)
  have HX2 := hid (HX0.out.tr hx2)
  have HXB2 := hid hx2
  clear hx2
  go_wp2_with fail
  refine (OW.out _ HX2.out).mono ?_
  rintro e w7 ⟨u7, v7, rfl, hO7, hx7⟩
  clear a0 a1 a2 a3 ct
  obtain ⟨gq, qcp, rfl, hgB, hgs⟩ := hO7.uform
  obtain ⟨ra, rc, rfl, hrw⟩ := hO7.vform
  rw [HBZ.out] at hO7 hrw ⊢
  rw [HQN.out] at hO7 ⊢
  have HX7 := hid (HX2.out.tr hx7)
  have HXB7 := hid (HXB2.out.tr hx7)
  have HSZ := hid (And.intro HXB2.out.size hx7.size)
  have HROW := hid hrw
  obtain ⟨W8, hW8⟩ : ∃ W8, (w7.alloc (.cells #[.int .i64 0, .int .i64 0, .slice none 0 0, .slice none 0 0] 25)).setRow w7.heap.size #[.int .i64 s.Clock, .int .i64 s.Next, .slice (some ⟨gq, 0, none⟩) n qcp, .slice ra z rc] = W8 := ⟨_, rfl⟩
  have hx8 : Ext w7 W8 := hW8 ▸ ((Ext.rf w7).al _).sr (b := w7.heap.size) (Nat.le_refl _) _
  have hb8 : W8.heap[w7.heap.size]? = some (.cells #[.int .i64 s.Clock, .int .i64 s.Next, .slice (some ⟨gq, 0, none⟩) n qcp, .slice ra z rc] 25 (0, 0)) := hW8 ▸ setRow_heap (w7.alloc _) w7.heap.size _ _ _ _ (heap_alloc_new w7 _)
  have hO8 := (((hO7.under (r := w.heap.size + 1 + 1) (by have := HXB2.out.size; have := HSB.out; omega)).low (B2 := w.heap.size) HX2.out.size (fun r hr => hr)).box (Nat.le_refl _)).ext hx8
  obtain ⟨W9, hW9⟩ : ∃ W9, W8.setCell ⟨w7.heap.size, 0, none⟩ (.int .i64 t) = W9 := ⟨_, rfl⟩
  have hO9 := hW9 ▸ hO8.kept (grown_set W8 w7.heap.size 0 (.int .i64 t)) (List.mem_cons_self ..)
  have hb9 : W9.heap[w7.heap.size]? = some (.cells #[.int .i64 t, .int .i64 s.Next, .slice (some ⟨gq, 0, none⟩) n qcp, .slice ra z rc] 25 (0, 0)) := hW9 ▸ heap_setCell_same W8 w7.heap.size 0 _ _ _ hb8
  have HXB8 := hid (HXB7.out.tr hx8)
  have hxb9 : Ext wb W9 := hW9 ▸ HXB8.out.se (b := w7.heap.size) (o := 0) HXB7.out.size _
  have DE := hid (DeleteFunc_any [w7.heap.size, w.heap.size + 1 + 1] w.heap.size W9 _ _ _ s.Books 47 #[.pointer (some ⟨w.heap.size + 1, 0, none⟩)] (lateB t) hO9 (enters_of Tryz.func47 (by kernel_rfl) rfl) (fun k x hk W pv bv hg hp hb => Tick1_any W pv bv x t (w.heap.size + 1) hp hb (grown_cell hg (HT0.out W9 hxb9) (fun r hr => by have := HROW.out r hr; have := HSZ.out; have := HSB.out; omega))))
  have HW8 := hid hW8
  have HW9 := hid hW9
  have HX8 := hid (HX7.out.tr hx8)
  have HXB9 := hid hxb9
  have HX9 := hid (HX0.out.tr hxb9)
  have HB8 := hid hb8
  have HB9 := hid hb9
  have HS9 := hid (show w7.heap.size < W9.heap.size from (Array.getElem?_eq_some_iff.1 hb9).1)
  have f8 := frozen_of_row W8 w7.heap.size 0 _ _ hb8
  have e8 : W8.cell? ⟨w7.heap.size, 0, none⟩ = some (.int .i64 s.Clock) := cell_of_row _ _ 0 _ _ _ hb8
  have e3 : W8.cell? ⟨w7.heap.size, 3, none⟩ = some (.slice ra z rc) := cell_of_row _ _ 3 _ _ _ hb8
  have ct := HT0.out W8 HXB8.out
  clear hx7 hx8 hb8 hW8 hO7 hO8 hO9 hb9 hxb9 hW9 hgB hgs hrw
  go_wp2_with (refine wpList_store_row rfl 25 _ _ rfl w7.heap.size #[.int .i64 s.Clock, .int .i64 s.Next, .slice (some ⟨gq, 0, none⟩) n qcp, .slice ra z rc] rfl rfl 25 _ (heap_alloc_new w7 _) Tryz.size25 rfl (by simp [Value.oneCell']) ?_; rw [HW8.out])
  rw [HW9.out]
  refine DE.out.mono ?_
  rintro e W10 ⟨v', rfl, hO10, hg10, hvb⟩
  obtain ⟨ra2, rc2, rfl, hrw2⟩ := hO10.vform
  obtain ⟨m, hm⟩ : ∃ m, (s.Books.filter fun x => !lateB t x).length = m := ⟨_, rfl⟩
  rw [hm] at hO10 hvb hrw2 ⊢
  have hmz : m ≤ z := by rw [← hm, ← HBZ.out]; exact List.length_filter_le _ _
  have hsz := HSZ.out
  have hsb := HSB.out
  have hs9 := HS9.out
  have hrow := HROW.out
  have hb10 : W10.heap[w7.heap.size]? = some (.cells #[.int .i64 t, .int .i64 s.Next, .slice (some ⟨gq, 0, none⟩) n qcp, .slice ra z rc] 25 (0, 0)) := (hg10.block _ HS9.out (fun e => by have := hrow _ e.symm; omega)).trans HB9.out
  have f3 := frozen_of_row W10 w7.heap.size 3 _ _ hb10
  have k3 : W10.cell? ⟨w7.heap.size, 3, none⟩ = some (.slice ra z rc) := cell_of_row _ _ 3 _ _ _ hb10
  obtain ⟨W11, hW11⟩ : ∃ W11, W10.setCell ⟨w7.heap.size, 3, none⟩ (.slice ra2 m rc2) = W11 := ⟨_, rfl⟩
  have hb11 : W11.heap[w7.heap.size]? = some (.cells #[.int .i64 t, .int .i64 s.Next, .slice (some ⟨gq, 0, none⟩) n qcp, .slice ra2 m rc2] 25 (0, 0)) := hW11 ▸ heap_setCell_same W10 w7.heap.size 3 _ _ _ hb10
  have HO11 := hid (hW11 ▸ hO10.kept (grown_set W10 w7.heap.size 3 (.slice ra2 m rc2)) (List.mem_cons_self ..))
  have HX11 := hid (show Ext w W11 from hW11 ▸ (HX9.out.gr hg10 (fun k hk => by have := hrow k hk; have := HX2.out.size; omega)).se (b := w7.heap.size) (o := 3) HX7.out.size _)
  have hold : ∀ b, b ≤ w.heap.size + 1 + 1 → W11.heap[b]? = wb.heap[b]? := fun b hb => by
    rw [← hW11, heap_setCell_other W10 ⟨w7.heap.size, 3, none⟩ b _ (by show b ≠ w7.heap.size; omega), hg10.block b (by have := HXB9.out.size; omega) (fun e => by have := hrow b e.symm; omega), HXB9.out.block b (by omega)]
  have hzz := (hold (w.heap.size + 1 + 1) (Nat.le_refl _)).trans (HZ0.out wb (Ext.rf wb))
  have a3 : W11.cell? ⟨w.heap.size, 3, none⟩ = some (.slice ba z bc) := by
    obtain ⟨_, _, _, h1⟩ := HS0.out wb (Ext.rf wb)
    rw [← h1]
    exact World.cell?_of_block (a := ⟨w.heap.size, 3, none⟩) (hold w.heap.size (by omega))
  have d0 : W11.cell? ⟨w7.heap.size, 0, none⟩ = some (.int .i64 t) := cell_of_row _ _ 0 _ _ _ hb11
  have d1 : W11.cell? ⟨w7.heap.size, 1, none⟩ = some (.int .i64 s.Next) := cell_of_row _ _ 1 _ _ _ hb11
  have d2 : W11.cell? ⟨w7.heap.size, 2, none⟩ = some (.slice (some ⟨gq, 0, none⟩) n qcp) := cell_of_row _ _ 2 _ _ _ hb11
  have d3 : W11.cell? ⟨w7.heap.size, 3, none⟩ = some (.slice ra2 m rc2) := cell_of_row _ _ 3 _ _ _ hb11
  have z0 : W11.cell? ⟨w.heap.size + 1 + 1, 0, none⟩ = some (.int .i64 0) := cell_of_row _ _ 0 _ _ _ hzz
  have z1 : W11.cell? ⟨w.heap.size + 1 + 1, 1, none⟩ = some (.int .i64 0) := cell_of_row _ _ 1 _ _ _ hzz
  have z2 : W11.cell? ⟨w.heap.size + 1 + 1, 2, none⟩ = some (.slice none 0 0) := cell_of_row _ _ 2 _ _ _ hzz
  have z3 : W11.cell? ⟨w.heap.size + 1 + 1, 3, none⟩ = some (.slice none 0 0) := cell_of_row _ _ 3 _ _ _ hzz
  have y0 := frozen_of_row W11 (w.heap.size + 1 + 1) 0 _ _ hzz
  have y1 := frozen_of_row W11 (w.heap.size + 1 + 1) 1 _ _ hzz
  have y2 := frozen_of_row W11 (w.heap.size + 1 + 1) 2 _ _ hzz
  have y3 := frozen_of_row W11 (w.heap.size + 1 + 1) 3 _ _ hzz
  have n1 : w.heap.size + 1 + 1 ≠ w7.heap.size := by omega
  have n2 : w.heap.size + 1 + 1 ≠ w.heap.size := by omega
  have hwr : IntKind.i64.wrap ((z : Int) - (m : Int)) = (z : Int) - (m : Int) := by rw [IntKind.wrap_i64]; omega
  have HW11 := hid hW11
  have HZ11 := hid hzz
  have HM := hid hm
  clear hW11 hb11 hzz hold hb10 hO10 hg10 hvb hrw2 hm hrow hsb
  go_wp2_with fail
  rw [HW11.out]
  clear k3 f3
  go_region_held3 (fun w' => (w'.cell? ⟨w7.heap.size, 0, none⟩ = some (.int .i64 t) ∧ w'.cell? ⟨w7.heap.size, 1, none⟩ = some (.int .i64 s.Next) ∧ w'.cell? ⟨w7.heap.size, 2, none⟩ = some (.slice (some ⟨gq, 0, none⟩) n qcp) ∧ w'.cell? ⟨w7.heap.size, 3, none⟩ = some (.slice ra2 m rc2) ∧ w'.cell? ⟨w.heap.size, 3, none⟩ = some (.slice ba z bc)))
    (go_keep) (fail)
  have hO13 := HO11.out.kept (grown_set4 W11 (w.heap.size + 1 + 1) (.int .i64 t) (.int .i64 s.Next) (.slice (some ⟨gq, 0, none⟩) n qcp) (.slice ra2 m rc2)) (List.mem_cons_of_mem _ (List.mem_cons_self ..))
  have hX13 := (((HX11.out.se (b := w.heap.size + 1 + 1) (o := 0) (by omega) (.int .i64 t)).se (b := w.heap.size + 1 + 1) (o := 1) (by omega) (.int .i64 s.Next)).se (b := w.heap.size + 1 + 1) (o := 2) (by omega) (.slice (some ⟨gq, 0, none⟩) n qcp)).se (b := w.heap.size + 1 + 1) (o := 3) (by omega) (.slice ra2 m rc2)
  have HO13 := hid (hO13.ext (Ext.rf _).dr)
  have HX13 := hid hX13.dr
  have HB13 := hid (row4_set (a0 := .int .i64 t) (a1 := .int .i64 s.Next) (a2 := .slice (some ⟨gq, 0, none⟩) n qcp) (a3 := (.slice ra2 m rc2)) HZ11.out)
  have HR2 := hid (show tickR s t = (laterS s t, (z : Int) - (m : Int), 0) from by rw [HR.out]; unfold stayB; rw [HM.out])
  clear hO13 hX13
  go_wp2_with fail
  exact bodyPost_ret (results_row_two (u1 := 5) (u2 := 6) rfl _ _ (w.heap.size + 1 + 1) 25 #[.int .i64 t, .int .i64 s.Next, .slice (some ⟨gq, 0, none⟩) n qcp, .slice ra2 m rc2] (0, 0) _ rfl HB13.out Tryz.underlying25 rfl Tryz.size25) rfl (retState3_of (s := laterS s t) HR2.out (.inl (HO13.out.low (Nat.le_refl _) (fun r hr => by cases hr))) HX13.out)

theorem Tick_any (w : World) (tv bv : Value) (s : State) (t : Int) (hl : QueuesV w tv s.Tree) (hb : BooksV w bv s.Books) :
    Calls Tryz.prog 19 #[.agg #[.int .i64 s.Clock, .int .i64 s.Next, tv, bv], .int .i64 t] w (RetState3 w (tickR s t)) := by
  by_cases h0 : stateE s = 0
  · by_cases h1 : 0 ≤ t ∧ t ≤ 48
    · by_cases h2 : t < s.Clock
      · exact Tick_late w tv bv s t hl hb h0 h1 h2
      · exact Tick_rest w tv bv s t hl hb h0 h1 h2
    · exact Tick_range w tv bv s t hl hb h0 h1
  · exact Tick_bad w tv bv s t hl hb h0

end Go.Proofs.YtfbcmifclaaacaaGreat

/- Walk of the reference's TickOf. -/
set_option linter.unusedVariables false
namespace Go.Proofs.YtfbcmifclaaacaaGreat
open Go.RowKit

theorem OwnS.clear {ex : List Nat} {B : Nat} {W : World} {u v : Value} {l : List Queue} {b : List Book} (h : OwnS ex B W u v l b) : OwnS ex B W u (.slice none 0 0) l [] := by
  obtain ⟨g, cap, rfl, h1, h2, h5, h12, hg, hs, he, hl, hc, ho, hne, hq⟩ := h
  exact ⟨g, cap, rfl, h1, h2, h5, by simp, hg, hs, he, fun x h => (by cases h), hc, ⟨[], World.ownsRow_nil _ _ _ _, ⟨rfl, fun k cs x h => (by simp at h)⟩, fun cs h => (by cases h), fun g h => (by cases h)⟩, fun r h => (by cases h), hq.less (fun r hr => List.mem_append_right _ hr)⟩
theorem stay_snoc {t : Int} {b : List Book} {k : Nat} {x : Book} (h : b[k]? = some x) : stayB t (b.take (k + 1)) = if lateB t x = true then stayB t (b.take k) else stayB t (b.take k) ++ [x] := by
  unfold stayB
  rw [List.take_add_one, h, List.filter_append]
  by_cases hp : lateB t x = true
  · rw [if_pos hp]; simp [hp]
  · rw [if_neg hp]; simp [hp]

set_option maxRecDepth 100000 in
set_option maxHeartbeats 4000000 in
theorem TickOf_bad (w : World) (tv bv : Value) (s : State) (t : Int) (hl : QueuesV w tv s.Tree) (hb : BooksV w bv s.Books) (h0 : stateE s ≠ 0) :
    Calls Tryz.prog 21 #[.agg #[.int .i64 s.Clock, .int .i64 s.Next, tv, bv], .int .i64 t] w (RetState3 w (tickR s t)) := by
  have F := hid (fun (W : World) (h : Ext w W) => CheckState_any W tv bv s (hl.mono h) (hb.mono h))
  obtain ⟨wb, hwb, HX, HSS, HZZ, hszb⟩ := two_boxes2 w s tv bv
  have HX0 := hid HX
  have HS0 := hid HSS
  have HZ0 := hid HZZ
  have HWB := hid hwb
  have HSB := hid hszb
  clear HX HSS HZZ hwb hszb
  have HR := hid (tickR_bad (t := t) h0)
  have hne := neT h0
  obtain ⟨qa, qc, rfl, _, _, _⟩ := hl.form
  obtain ⟨ba, bc, rfl, _, _, _⟩ := hb.form
  clear hl hb
  clear h0
  generalize stateE s = se at *
  generalize s.Tree.length = n at *
  generalize s.Books.length = z at *
  go_enter Tryz.func21, Tryz.ntmps21
  go_wp2_with fail
  rw [HWB.out]
  refine (F.out _ HX0.out).mono ?_
  rintro e w2 ⟨rfl, hx2⟩
  have HB := hid (HZ0.out w2 (hx2))
  have HX2 := hid ((HX0.out.tr (hx2)).sr (b := w.heap.size + 1) (by omega) #[.int .i64 0, .int .i64 0, .slice none 0 0, .slice none 0 0])
  have HB2 := hid (setRow_heap w2 (w.heap.size + 1) _ #[.int .i64 0, .int .i64 0, .slice none 0 0, .slice none 0 0] _ _ HB.out)
  go_wp2_with (refine wpList_store_row rfl 25 _ _ rfl (w.heap.size + 1) #[.int .i64 0, .int .i64 0, .slice none 0 0, .slice none 0 0] rfl rfl 25 _ HB.out Tryz.size25 rfl (by simp [Value.oneCell']) ?_)
  exact bodyPost_ret (results_row_two (u1 := 5) (u2 := 6) rfl _ _ (w.heap.size + 1) 25 #[.int .i64 0, .int .i64 0, .slice none 0 0, .slice none 0 0] (0, 0) _ rfl HB2.out Tryz.underlying25 rfl Tryz.size25) rfl (retState3_none HR.out HX2.out)

set_option maxRecDepth 100000 in
set_option maxHeartbeats 4000000 in
theorem TickOf_range (w : World) (tv bv : Value) (s : State) (t : Int) (hl : QueuesV w tv s.Tree) (hb : BooksV w bv s.Books) (h0 : stateE s = 0) (h1 : ¬ (0 ≤ t ∧ t ≤ 48)) :
    Calls Tryz.prog 21 #[.agg #[.int .i64 s.Clock, .int .i64 s.Next, tv, bv], .int .i64 t] w (RetState3 w (tickR s t)) := by
  have F := hid (fun (W : World) (h : Ext w W) => CheckState_any W tv bv s (hl.mono h) (hb.mono h))
  obtain ⟨wb, hwb, HX, HSS, HZZ, hszb⟩ := two_boxes2 w s tv bv
  have HX0 := hid HX
  have HS0 := hid HSS
  have HZ0 := hid HZZ
  have HWB := hid hwb
  have HSB := hid hszb
  clear HX HSS HZZ hwb hszb
  have HR := hid (tickR_range h0 h1)
  have WI := hid (fun (W : World) => within_no t 0 48 W (by omega))
  rw [h0] at F
  obtain ⟨qa, qc, rfl, _, _, _⟩ := hl.form
  obtain ⟨ba, bc, rfl, _, _, _⟩ := hb.form
  clear hl hb
  clear h0
  generalize s.Tree.length = n at *
  generalize s.Books.length = z at *
  go_enter Tryz.func21, Tryz.ntmps21
  go_wp2_with fail
  rw [HWB.out]
  refine (F.out _ HX0.out).mono ?_
  rintro e w2 ⟨rfl, hx2⟩
  obtain ⟨a0, a1, a2, a3⟩ := HS0.out w2 hx2
  have hx20 := hid hx2
  clear hx2
  go_wp2_with fail
  refine (WI.out _).mono ?_
  rintro e w3 ⟨rfl, hw⟩
  obtain rfl := hw.symm
  have HB := hid (HZ0.out w2 (hx20.out))
  have HX2 := hid ((HX0.out.tr (hx20.out)).sr (b := w.heap.size + 1) (by omega) #[.int .i64 0, .int .i64 0, .slice none 0 0, .slice none 0 0])
  have HB2 := hid (setRow_heap w2 (w.heap.size + 1) _ #[.int .i64 0, .int .i64 0, .slice none 0 0, .slice none 0 0] _ _ HB.out)
  go_wp2_with (refine wpList_store_row rfl 25 _ _ rfl (w.heap.size + 1) #[.int .i64 0, .int .i64 0, .slice none 0 0, .slice none 0 0] rfl rfl 25 _ HB.out Tryz.size25 rfl (by simp [Value.oneCell']) ?_)
  exact bodyPost_ret (results_row_two (u1 := 5) (u2 := 6) rfl _ _ (w.heap.size + 1) 25 #[.int .i64 0, .int .i64 0, .slice none 0 0, .slice none 0 0] (0, 0) _ rfl HB2.out Tryz.underlying25 rfl Tryz.size25) rfl (retState3_none HR.out HX2.out)

set_option maxRecDepth 100000 in
set_option maxHeartbeats 4000000 in
theorem TickOf_late (w : World) (tv bv : Value) (s : State) (t : Int) (hl : QueuesV w tv s.Tree) (hb : BooksV w bv s.Books) (h0 : stateE s = 0) (h1 : 0 ≤ t ∧ t ≤ 48) (h2 : t < s.Clock) :
    Calls Tryz.prog 21 #[.agg #[.int .i64 s.Clock, .int .i64 s.Next, tv, bv], .int .i64 t] w (RetState3 w (tickR s t)) := by
  have F := hid (fun (W : World) (h : Ext w W) => CheckState_any W tv bv s (hl.mono h) (hb.mono h))
  obtain ⟨wb, hwb, HX, HSS, HZZ, hszb⟩ := two_boxes2 w s tv bv
  have HX0 := hid HX
  have HS0 := hid HSS
  have HZ0 := hid HZZ
  have HWB := hid hwb
  have HSB := hid hszb
  clear HX HSS HZZ hwb hszb
  have HR := hid (tickR_late h0 h1 h2)
  have WI := hid (fun (W : World) => within_yes t 0 48 W h1.1 h1.2)
  rw [h0] at F
  obtain ⟨qa, qc, rfl, _, _, _⟩ := hl.form
  obtain ⟨ba, bc, rfl, _, _, _⟩ := hb.form
  clear hl hb
  clear h0
  generalize s.Tree.length = n at *
  generalize s.Books.length = z at *
  go_enter Tryz.func21, Tryz.ntmps21
  go_wp2_with fail
  rw [HWB.out]
  refine (F.out _ HX0.out).mono ?_
  rintro e w2 ⟨rfl, hx2⟩
  obtain ⟨a0, a1, a2, a3⟩ := HS0.out w2 hx2
  have t3 := deT h2
  have hx20 := hid hx2
  clear hx2
  go_wp2_with fail
  refine (WI.out _).mono ?_
  rintro e w3 ⟨rfl, hw⟩
  obtain rfl := hw.symm
  have HB := hid (HZ0.out w2 (hx20.out))
  have HX2 := hid ((HX0.out.tr (hx20.out)).sr (b := w.heap.size + 1) (by omega) #[.int .i64 0, .int .i64 0, .slice none 0 0, .slice none 0 0])
  have HB2 := hid (setRow_heap w2 (w.heap.size + 1) _ #[.int .i64 0, .int .i64 0, .slice none 0 0, .slice none 0 0] _ _ HB.out)
  go_wp2_with (refine wpList_store_row rfl 25 _ _ rfl (w.heap.size + 1) #[.int .i64 0, .int .i64 0, .slice none 0 0, .slice none 0 0] rfl rfl 25 _ HB.out Tryz.size25 rfl (by simp [Value.oneCell']) ?_)
  exact bodyPost_ret (results_row_two (u1 := 5) (u2 := 6) rfl _ _ (w.heap.size + 1) 25 #[.int .i64 0, .int .i64 0, .slice none 0 0, .slice none 0 0] (0, 0) _ rfl HB2.out Tryz.underlying25 rfl Tryz.size25) rfl (retState3_none HR.out HX2.out)

set_option maxRecDepth 100000 in
set_option maxHeartbeats 4000000 in
theorem TickOf_rest (w : World) (tv bv : Value) (s : State) (t : Int) (hl : QueuesV w tv s.Tree) (hb : BooksV w bv s.Books) (h0 : stateE s = 0) (h1 : 0 ≤ t ∧ t ≤ 48) (h2 : ¬ t < s.Clock) :
    Calls Tryz.prog 21 #[.agg #[.int .i64 s.Clock, .int .i64 s.Next, tv, bv], .int .i64 t] w (RetState3 w (tickR s t)) := by
  have F := hid (fun (W : World) (h : Ext w W) => CheckState_any W tv bv s (hl.mono h) (hb.mono h))
  obtain ⟨wb, hwb, HX, HSS, HZZ, hszb⟩ := two_boxes2 w s tv bv
  have HX0 := hid HX
  have HS0 := hid HSS
  have HZ0 := hid HZZ
  have HWB := hid hwb
  have HSB := hid hszb
  clear HX HSS HZZ hwb hszb
  have HR := hid (tickR_ok h0 h1 h2)
  have WI := hid (fun (W : World) => within_yes t 0 48 W h1.1 h1.2)
  rw [h0] at F
  obtain ⟨ok, h12, hbok⟩ := right_of h0
  have OW := hid (fun (W : World) (h : Ext w W) => OwnState_any W tv bv s (hl.mono h) (hb.mono h) ok h12 hbok)
  have HLV := hid (liveB_of hbok)
  have HBV := hid hb
  obtain ⟨qa, qc, rfl, _, _, _⟩ := hl.form
  obtain ⟨ba, bc, rfl, _, _, _⟩ := hb.form
  clear hl hb
  clear h0 ok hbok
  go_enter Tryz.func21, Tryz.ntmps21
  go_wp2_with fail
  rw [HWB.out]
  refine (F.out _ HX0.out).mono ?_
  rintro e w2 ⟨rfl, hx2⟩
  obtain ⟨a0, a1, a2, a3⟩ := HS0.out w2 hx2
  have t3 := deF (show ¬ t < s.Clock by omega)
  have HX2 := hid (HX0.out.tr hx2)
  have HXB2 := hid hx2
  clear hx2
  go_wp2_with fail
  refine (WI.out _).mono ?_
  rintro e w3 ⟨rfl, hw⟩
  obtain rfl := hw.symm
  go_wp2_with fail
  refine (OW.out _ HX2.out).mono ?_
  rintro e w7 ⟨u7, v7, rfl, hO7, hx7⟩
  clear a0 a1 a2 a3
  obtain ⟨gq, qcp, rfl, hgB, hgs⟩ := hO7.uform
  obtain ⟨ra, rc, rfl, hrw⟩ := hO7.vform
  obtain ⟨W8, hW8⟩ : ∃ W8, (w7.alloc (.cells #[.int .i64 0, .int .i64 0, .slice none 0 0, .slice none 0 0] 25)).setRow w7.heap.size #[.int .i64 s.Clock, .int .i64 s.Next, .slice (some ⟨gq, 0, none⟩) s.Tree.length qcp, .slice ra s.Books.length rc] = W8 := ⟨_, rfl⟩
  have hx8 : Ext w7 W8 := hW8 ▸ ((Ext.rf w7).al _).sr (b := w7.heap.size) (Nat.le_refl _) _
  have hb8 : W8.heap[w7.heap.size]? = some (.cells #[.int .i64 s.Clock, .int .i64 s.Next, .slice (some ⟨gq, 0, none⟩) s.Tree.length qcp, .slice ra s.Books.length rc] 25 (0, 0)) := hW8 ▸ setRow_heap (w7.alloc _) w7.heap.size _ _ _ _ (heap_alloc_new w7 _)
  have hO8 := ((((hO7.under (r := w.heap.size) (by have := HX2.out.size; have := HXB2.out.size; have := HSB.out; omega)).under (r := w.heap.size + 1) (by have := HXB2.out.size; have := HSB.out; omega)).low (B2 := w.heap.size) HX2.out.size (fun r hr => hr)).box (Nat.le_refl _)).ext hx8
  obtain ⟨W9, hW9⟩ : ∃ W9, (W8.setCell ⟨w7.heap.size, 0, none⟩ (.int .i64 t)).setCell ⟨w7.heap.size, 3, none⟩ (.slice none 0 0) = W9 := ⟨_, rfl⟩
  have hO9 := hW9 ▸ ((hO8.kept (grown_set W8 w7.heap.size 0 (.int .i64 t)) (List.mem_cons_self ..)).kept (grown_set _ w7.heap.size 3 (.slice none 0 0)) (List.mem_cons_self ..)).clear
  have hb9 : W9.heap[w7.heap.size]? = some (.cells #[.int .i64 t, .int .i64 s.Next, .slice (some ⟨gq, 0, none⟩) s.Tree.length qcp, .slice none 0 0] 25 (0, 0)) := hW9 ▸ heap_setCell_same _ w7.heap.size 3 _ _ _ (heap_setCell_same W8 w7.heap.size 0 _ _ _ hb8)
  have hXB7 := HXB2.out.tr hx7
  have hxb9 : Ext wb W9 := hW9 ▸ ((hXB7.tr hx8).se (b := w7.heap.size) (o := 0) hXB7.size _).se (b := w7.heap.size) (o := 3) hXB7.size _
  obtain ⟨sT, hT0, hT1, hT2⟩ : ∃ sT : State, sT.Clock = t ∧ sT.Next = s.Next ∧ sT.Tree = s.Tree := ⟨⟨t, s.Next, s.Tree, []⟩, rfl, rfl, rfl⟩
  have HR0 : Hid (RefAt w wb w7.heap.size (.slice (some ⟨gq, 0, none⟩) sT.Tree.length qcp) sT (stayB t (s.Books.take 0)) (.slice none 0 0) W9) := hid ⟨by rw [hT0, hT1, hT2]; exact hb9, by rw [hT2]; exact hO9, hxb9, hXB7.size⟩
  have f8 := frozen_of_row W8 w7.heap.size 0 _ _ hb8
  have f83 := frozen_of_row W8 w7.heap.size 3 _ _ hb8
  have e8 : W8.cell? ⟨w7.heap.size, 0, none⟩ = some (.int .i64 s.Clock) := cell_of_row _ _ 0 _ _ _ hb8
  have e3 : W8.cell? ⟨w7.heap.size, 3, none⟩ = some (.slice ra s.Books.length rc) := cell_of_row _ _ 3 _ _ _ hb8
  have HW8 := hid hW8
  have HW9 := hid hW9
  have HT := hid (And.intro hT0 (And.intro hT1 hT2))
  clear hx7 hx8 hb8 hW8 hO7 hO8 hO9 hb9 hxb9 hW9 hgB hgs hrw hXB7 hT0 hT1 hT2
  obtain ⟨ib, ib1, ib2, ib3, ib4⟩ := info_parts Tryz.info72
  obtain ⟨ba', bc', hbe, _, _, _, hbE⟩ := books_at HBV.out
  cases hbe
  have HBE := hid hbE
  clear hbE
  generalize hbz : s.Books.length = z at *
  have HZB := hid hbz
  clear hbz
  go_wp2_with (refine wpList_store_row rfl 25 _ _ rfl w7.heap.size #[.int .i64 s.Clock, .int .i64 s.Next, .slice (some ⟨gq, 0, none⟩) s.Tree.length qcp, .slice ra z rc] rfl rfl 25 _ (heap_alloc_new w7 _) Tryz.size25 rfl (by simp [Value.oneCell']) ?_; rw [HW8.out])
  rw [HW9.out]
  clear f8 f83 e8 e3
  generalize hX : w7.heap.size = X at *
  clear hX HW8 HW9
  go_loopw [9] (fun c wr => ∃ (k : Nat) (v : Value), c = .int .i64 k ∧ k ≤ z ∧ Hid (RefAt w wb X (.slice (some ⟨gq, 0, none⟩) sT.Tree.length qcp) sT (stayB t (s.Books.take k)) v wr)) (fun c _ => z - (intOf c).toNat)
  case atStart => exact ⟨0, _, rfl, by omega, HR0⟩
  case round =>
    obtain ⟨k, v, rfl, hk, HA⟩ := hrel
    obtain ⟨_, _, _, k3⟩ := HS0.out wr HA.out.ext
    have hXw : X < wr.heap.size := (Array.getElem?_eq_some_iff.1 HA.out.box).1
    have hXB := HA.out.low
    by_cases hlt : k < z
    · have hlt' : (k : Int) < (z : Int) := by omega
      obtain ⟨m, hlen⟩ : ∃ m, (stayB t (s.Books.take k)).length = m := ⟨_, rfl⟩
      have hmk : m ≤ k := by rw [← hlen]; exact Nat.le_trans (List.length_filter_le _ _) (by rw [List.length_take]; omega)
      obtain ⟨va, vcc, rfl, hrow⟩ := HA.out.own.vform
      rw [hlen] at hrow HA
      have HROW := hid hrow
      obtain ⟨css, o1, hmore⟩ := HA.out.own.more (by rw [hlen]; omega)
      rw [hlen] at o1
      have HO1 := hid o1
      have HMORE := hid hmore
      obtain ⟨_, _, he, hgB, hgs⟩ := HA.out.own.uform
      cases he
      obtain ⟨x, hxk⟩ := getA (f := s.Books) (k := k) (by rw [HZB.out]; exact hlt)
      have hlx : LiveX x := HLV.out x (List.mem_of_getElem? hxk)
      obtain ⟨bb, bo, rfl, hbb, hEE⟩ := HBE.out (by omega)
      obtain ⟨pv, bv, c0, c1, c2, c3, c4, c5, c6, hp, hbi⟩ := ebook_cells (EBook.mono w wr bb _ x (HX0.out.tr HA.out.ext) (hEE k x hxk))
      have hX0 := hid (show I64 x.Id ∧ I64 x.Req.Queue ∧ I64 x.Req.From ∧ I64 x.Req.Until ∧ I64 x.Req.Kind from by
        obtain ⟨cs, ⟨qs, bv, rfl, ⟨pv, rfl, hp, i1, i2, i3, i4⟩, hb, i5⟩, _⟩ := hEE k x hxk
        exact ⟨i5, i1, i2, i3, i4⟩)
      have OV := hid (fun (W : World) (h : Ext wr W) => OverOf_any W pv bv x.Req x.Bites (hp.mono h) (hbi.mono h))
      have OB := hid (fun (W : World) (h : Ext wr W) => ownBook_any W pv bv x (hp.mono h) (hbi.mono h) hlx)
      have HST := hid (stay_snoc (t := t) hxk)
      obtain ⟨pa, pc, rfl, _, _, _⟩ := hp.form
      obtain ⟨ia, ic, rfl, _, _, _⟩ := hbi.form
      have HLX := hid hlx
      have e3 : wr.cell? ⟨X, 3, none⟩ = some (.slice va m vcc) := cell_of_row _ _ 3 _ _ _ HA.out.box
      have t1 := deF (show ¬ (k : Int) < 0 by omega)
      have t2 := deF (show ¬ (z : Int) ≤ (k : Int) by omega)
      have t3 := deF (show ¬ z ≤ k by omega)
      have hbbw : bb < wr.heap.size := Nat.lt_of_lt_of_le hbb (HX0.out.tr HA.out.ext).size
      have hrw2 : ∀ r, (Value.slice va m vcc).ownBlock = some r → w.heap.size ≤ r ∧ r < wr.heap.size ∧ r ≠ X ∧ r ≠ w.heap.size ∧ r ≠ w.heap.size + 1 := fun r hr => ⟨(hrow r hr).1, (hrow r hr).2, HA.out.own.vne r hr X (List.mem_cons_self ..), HA.out.own.vne r hr w.heap.size (by simp), HA.out.own.vne r hr (w.heap.size + 1) (by simp)⟩
      clear hp hbi hxk hlx hrow o1 hmore hEE
      obtain ⟨ovn, ove, hov⟩ : ∃ ovn ove, overR x.Req x.Bites = (ovn, ove) := ⟨_, _, rfl⟩
      have HLT := hid (show lateB t x = decide (ovn ≤ t) from by unfold lateB; rw [hov])
      rw [hov] at OV
      clear hov
      go_wp2_with fail
      go_region_held3 (fun W => (W.cell? ⟨w.heap.size, 3, none⟩ = some (.slice (some ⟨bb, bo, none⟩) z bc) ∧ W.cell? ⟨bb, bo + k * 7 + 1, none⟩ = some (.int .i64 x.Req.Queue) ∧ W.cell? ⟨bb, bo + k * 7 + 2, none⟩ = some (.int .i64 x.Req.From) ∧ W.cell? ⟨bb, bo + k * 7 + 3, none⟩ = some (.int .i64 x.Req.Until) ∧ W.cell? ⟨bb, bo + k * 7 + 4, none⟩ = some (.int .i64 x.Req.Kind) ∧ W.cell? ⟨bb, bo + k * 7 + 5, none⟩ = some (.slice pa x.Req.Pieces.length pc) ∧ W.cell? ⟨bb, bo + k * 7 + 6, none⟩ = some (.slice ia x.Bites.length ic)))
        (first
          | go_keep
          | (go_split_ands
             exact ⟨hxk.ce' (by assumption), hxk.ce' (by assumption), hxk.ce' (by assumption), hxk.ce' (by assumption), hxk.ce' (by assumption), hxk.ce' (by assumption), hxk.ce' (by assumption)⟩))
        (first
          | (go_at_call 51; refine (OV.out _ (Ext.rf wr).dr).mono ?_; rintro e wv ⟨rfl, hxk⟩; have HXV := hid ((Ext.rf wr).dr.tr hxk)))
      clear hxk
      have HV := hid (HA.out.later HXV.out)
      by_cases hlate : ovn ≤ t
      · have HST2 := hid (show stayB t (s.Books.take (k + 1)) = stayB t (s.Books.take k) from by rw [HST.out, if_pos (by rw [HLT.out, deT hlate])])
        have q1 := deF (show ¬ t < ovn by omega)
        clear e3 c0 c1 c2 c3 c4 c5 c6 k3
        go_wp2_with fail
        go_roundw
        case rel => exact ⟨k + 1, _, by go_num, by omega, by rw [HST2.out]; exact HV⟩
        case measure => simp [intOf]; omega
      · have HTK := hid (show stayB t (s.Books.take (k + 1)) = stayB t (s.Books.take k) ++ [x] from by rw [HST.out, if_neg (by rw [HLT.out, deF hlate]; simp)])
        have q1 := deT (show t < ovn by omega)
        have e3' := HXV.out.ce' e3
        have k3' := HXV.out.ce' k3
        have c0' := HXV.out.ce' c0
        have c1' := HXV.out.ce' c1
        have c2' := HXV.out.ce' c2
        have c3' := HXV.out.ce' c3
        have c4' := HXV.out.ce' c4
        have c5' := HXV.out.ce' c5
        have c6' := HXV.out.ce' c6
        have hXv : X < wv.heap.size := Nat.lt_of_lt_of_le hXw HXV.out.size
        have hgs' : gq < wv.heap.size := Nat.lt_of_lt_of_le hgs HXV.out.size
        have hbbv : bb < wv.heap.size := Nat.lt_of_lt_of_le hbbw HXV.out.size
        have hrw3 : ∀ r, (Value.slice va m vcc).ownBlock = some r → w.heap.size ≤ r ∧ r < wv.heap.size ∧ r ≠ X ∧ r ≠ w.heap.size ∧ r ≠ w.heap.size + 1 := fun r hr => ⟨(hrw2 r hr).1, Nat.lt_of_lt_of_le (hrw2 r hr).2.1 HXV.out.size, (hrw2 r hr).2.2⟩
        clear e3 c0 c1 c2 c3 c4 c5 c6 k3 hbbw hXw hrw2
        go_wp2_with fail
        refine wp_region_tail 11 (fun W => W.cell? ⟨X, 3, none⟩ = some (.slice va m vcc) ∧ W.cell? ⟨w.heap.size, 3, none⟩ = some (.slice (some ⟨bb, bo, none⟩) z bc) ∧ W.cell? ⟨bb, bo + k * 7, none⟩ = some (.int .i64 x.Id) ∧ W.cell? ⟨bb, bo + k * 7 + 1, none⟩ = some (.int .i64 x.Req.Queue) ∧ W.cell? ⟨bb, bo + k * 7 + 2, none⟩ = some (.int .i64 x.Req.From) ∧ W.cell? ⟨bb, bo + k * 7 + 3, none⟩ = some (.int .i64 x.Req.Until) ∧ W.cell? ⟨bb, bo + k * 7 + 4, none⟩ = some (.int .i64 x.Req.Kind) ∧ W.cell? ⟨bb, bo + k * 7 + 5, none⟩ = some (.slice pa x.Req.Pieces.length pc) ∧ W.cell? ⟨bb, bo + k * 7 + 6, none⟩ = some (.slice ia x.Bites.length ic)) (by kernel_rfl) ⟨e3', k3', c0', c1', c2', c3', c4', c5', c6'⟩ (fun hHeld => ?_)
        refine wpAnyT_take (i := 0) (v := ?_) rfl (by kernel_rfl) (fun _ _ _ h => h) (Or.inl ⟨by rfl, ?_⟩) (by assumption) ?_
        rotate_left
        · intro W hSW
          simp only [List.getElem_toArray, List.getElem_cons_zero]
          (try dsimp only at hSW)
          go_simp
          (try with_reducible rfl)
        simp only [List.getElem_toArray, List.getElem_cons_zero, Act.put, List.setIfInBounds_toArray, List.set_cons_zero, List.set_cons_succ]
        refine wpAnyT_take (i := 1) (v := ?_) rfl (by kernel_rfl) (fun _ _ _ h => h) (Or.inl ⟨by rfl, ?_⟩) (by assumption) ?_
        rotate_left
        · intro W hSW
          simp only [List.getElem_toArray, List.getElem_cons_zero, List.getElem_cons_succ]
          (try dsimp only at hSW)
          go_simp
          (try with_reducible rfl)
        simp only [List.getElem_toArray, List.getElem_cons_zero, List.getElem_cons_succ, Act.put, List.setIfInBounds_toArray, List.set_cons_zero, List.set_cons_succ]
        refine wpAnyT_take (i := 2) (v := ?_) rfl (by kernel_rfl) (fun _ _ _ h => h) (Or.inl ⟨by rfl, ?_⟩) (by assumption) ?_
        rotate_left
        · intro W hSW
          simp only [List.getElem_toArray, List.getElem_cons_zero, List.getElem_cons_succ]
          (try dsimp only at hSW)
          go_simp
          (try with_reducible rfl)
        simp only [List.getElem_toArray, List.getElem_cons_zero, List.getElem_cons_succ, Act.put, List.setIfInBounds_toArray, List.set_cons_zero, List.set_cons_succ]
        refine wpAnyT_take (i := 3) (v := ?_) rfl (by kernel_rfl) (fun _ _ _ h => h) (Or.inl ⟨by rfl, ?_⟩) (by assumption) ?_
        rotate_left
        · intro W hSW
          simp only [List.getElem_toArray, List.getElem_cons_zero, List.getElem_cons_succ]
          (try dsimp only at hSW)
          go_simp
          (try with_reducible rfl)
        simp only [List.getElem_toArray, List.getElem_cons_zero, List.getElem_cons_succ, Act.put, List.setIfInBounds_toArray, List.set_cons_zero, List.set_cons_succ]
        refine wpAnyT_take (i := 4) (v := ?_) rfl (by kernel_rfl) (fun _ _ _ h => h) (Or.inl ⟨by rfl, ?_⟩) (by assumption) ?_
        rotate_left
        · intro W hSW
          simp only [List.getElem_toArray, List.getElem_cons_zero, List.getElem_cons_succ]
          (try dsimp only at hSW)
          go_simp
          (try with_reducible rfl)
        simp only [List.getElem_toArray, List.getElem_cons_zero, List.getElem_cons_succ, Act.put, List.setIfInBounds_toArray, List.set_cons_zero, List.set_cons_succ]
        refine wpAnyT_take (i := 5) (v := ?_) rfl (by kernel_rfl) (fun _ _ _ h => h) (Or.inl ⟨by rfl, ?_⟩) (by assumption) ?_
        rotate_left
        · intro W hSW
          simp only [List.getElem_toArray, List.getElem_cons_zero, List.getElem_cons_succ]
          (try dsimp only at hSW)
          go_simp
          (try with_reducible rfl)
        simp only [List.getElem_toArray, List.getElem_cons_zero, List.getElem_cons_succ, Act.put, List.setIfInBounds_toArray, List.set_cons_zero, List.set_cons_succ]
        refine wpAnyT_take (i := 6) (v := ?_) rfl (by kernel_rfl) (fun _ _ _ h => h) (Or.inl ⟨by rfl, ?_⟩) (by assumption) ?_
        rotate_left
        · intro W hSW
          simp only [List.getElem_toArray, List.getElem_cons_zero, List.getElem_cons_succ]
          (try dsimp only at hSW)
          go_simp
          (try with_reducible rfl)
        simp only [List.getElem_toArray, List.getElem_cons_zero, List.getElem_cons_succ, Act.put, List.setIfInBounds_toArray, List.set_cons_zero, List.set_cons_succ]
        refine wpAnyT_go (i := 7) (by kernel_rfl) rfl (fun K hK => ?_)
        simp only [List.getElem_toArray, List.getElem_cons_zero, List.getElem_cons_succ]
        go_simp
        refine (OB.out _ (HXV.out.tr (Ext.rf wv).dr)).mono ?_
        rintro e W2 ⟨g1, cp1, g2, cp2, rfl, hg1, hg2, hp2, hv2, hx2⟩
        go_wp2_with fail
        have hx02 : Ext wv W2 := (Ext.rf wv).dr.tr hx2
        refine hK.out _ _ ?_ (fun hHeld => ?_)
        · (obtain ⟨k0, k1, k2, k3, k4, k5, k6, k7, k8⟩ := hHeld; exact ⟨hx2.ce' k0, hx2.ce' k1, hx2.ce' k2, hx2.ce' k3, hx2.ce' k4, hx2.ce' k5, hx2.ce' k6, hx2.ce' k7, hx2.ce' k8⟩)
        clear hK K
        refine wpAnyT_go (i := 8) (by kernel_rfl) rfl (fun K hK => ?_)
        simp only [List.getElem_toArray, List.getElem_cons_zero, List.getElem_cons_succ]
        go_simp
        have hal := (Ext.rf W2).al (.cells #[.int .i64 x.Id, .int .i64 x.Req.Queue, .int .i64 x.Req.From, .int .i64 x.Req.Until, .int .i64 x.Req.Kind, .slice (some ⟨g1, 0, none⟩) x.Req.Pieces.length cp1, .slice (some ⟨g2, 0, none⟩) x.Bites.length cp2] 72)
        refine hK.out _ _ ?_ (fun hHeld => ?_)
        · (obtain ⟨k0, k1, k2, k3, k4, k5, k6, k7, k8⟩ := hHeld; exact ⟨hal.ce' k0, hal.ce' k1, hal.ce' k2, hal.ce' k3, hal.ce' k4, hal.ce' k5, hal.ce' k6, hal.ce' k7, hal.ce' k8⟩)
        clear hK K
        have HX2 := hid (hx02.tr hal)
        have HN7 := hid (news7 W2 [.int .i64 x.Id, .int .i64 x.Req.Queue, .int .i64 x.Req.From, .int .i64 x.Req.Until, .int .i64 x.Req.Kind, .slice (some ⟨g1, 0, none⟩) x.Req.Pieces.length cp1, .slice (some ⟨g2, 0, none⟩) x.Bites.length cp2] 72 rfl)
        have HG := hid (snoc_cond (W := wv) (W1 := W2.alloc (.cells #[.int .i64 x.Id, .int .i64 x.Req.Queue, .int .i64 x.Req.From, .int .i64 x.Req.Until, .int .i64 x.Req.Kind, .slice (some ⟨g1, 0, none⟩) x.Req.Pieces.length cp1, .slice (some ⟨g2, 0, none⟩) x.Bites.length cp2] 72)) (B := w.heap.size) (ex := [X, w.heap.size + 1, w.heap.size]) (u := .slice (some ⟨gq, 0, none⟩) sT.Tree.length qcp) (v := .slice va m vcc) (n1 := x.Req.Pieces.length) (n2 := x.Bites.length) (c1 := cp1) (c2 := cp2) (x := x) (HX0.out.tr HV.out.ext).size hg1 hg2 (by rw [World.size_alloc]; have := sv2_lt hp2 HLX.out.1.1; omega) (by rw [World.size_alloc]; have := sv2_lt hv2 HLX.out.1.2; omega) (fun r hr => by
          have h2 : r = X ∨ r = w.heap.size + 1 ∨ r = w.heap.size := by simpa using hr
          have := HSB.out
          omega) (fun r hr => by
          have h2 : gq = r := by simpa [Value.ownBlock] using hr
          omega) (fun r hr => (hrw3 r hr).2.1))
        have HBC := hid (show BookC (W2.alloc (.cells #[.int .i64 x.Id, .int .i64 x.Req.Queue, .int .i64 x.Req.From, .int .i64 x.Req.Until, .int .i64 x.Req.Kind, .slice (some ⟨g1, 0, none⟩) x.Req.Pieces.length cp1, .slice (some ⟨g2, 0, none⟩) x.Bites.length cp2] 72)) [.int .i64 x.Id, .int .i64 x.Req.Queue, .int .i64 x.Req.From, .int .i64 x.Req.Until, .int .i64 x.Req.Kind, .slice (some ⟨g1, 0, none⟩) x.Req.Pieces.length cp1, .slice (some ⟨g2, 0, none⟩) x.Bites.length cp2] x from ⟨_, _, rfl, ⟨_, rfl, hp2.mono ((Ext.rf W2).al _), hX0.out.2⟩, hv2.mono ((Ext.rf W2).al _), hX0.out.1⟩)
        clear hp2 hv2 hal hx02
        refine wpAnyT_go (i := 9) (by kernel_rfl) rfl (fun K hK => ?_)
        simp only [List.getElem_toArray, List.getElem_cons_zero, List.getElem_cons_succ]
        rw [if_pos (by rfl)]
        refine wp_append_lies _ _ _ _ (by rfl) w.heap.size 72 ib _ 7 88 Tryz.underlying23 ib1 ib2 ib3 ib4 rfl (by decide) (.slice va m vcc) m css.flatten (by rfl) (ownsRow_ext (ownsRow_ext HO1.out HXV.out) HX2.out) ⟨W2.heap.size, 0, none⟩ 1 1 [.int .i64 x.Id, .int .i64 x.Req.Queue, .int .i64 x.Req.From, .int .i64 x.Req.Until, .int .i64 x.Req.Kind, .slice (some ⟨g1, 0, none⟩) x.Req.Pieces.length cp1, .slice (some ⟨g2, 0, none⟩) x.Bites.length cp2] (by rfl) (by rfl) HN7.out (by simp [Value.oneCell']) (by omega) (by unfold maxLen; omega) (by omega) ((HX0.out.tr HV.out.ext).tr HX2.out).size (W2.heap.size + 1) (by simp) ?_
        intro g3 cp3 W3 hown hgrow hlie hlt3
        have hgn : ∀ (b : Nat) (o : Nat) (u : Value), (W2.alloc (.cells #[.int .i64 x.Id, .int .i64 x.Req.Queue, .int .i64 x.Req.From, .int .i64 x.Req.Until, .int .i64 x.Req.Kind, .slice (some ⟨g1, 0, none⟩) x.Req.Pieces.length cp1, .slice (some ⟨g2, 0, none⟩) x.Bites.length cp2] 72)).cell? ⟨b, o, none⟩ = some u → (b < w.heap.size ∨ b = w.heap.size ∨ b = X) → W3.cell? ⟨b, o, none⟩ = some u := fun b o u h hb => grown_cell hgrow h (fun r hr e => by
          subst e
          have h2 := hrw3 r hr
          omega)
        refine hK.out _ _ ?_ (fun hHeld => ?_)
        · (obtain ⟨k0, k1, k2, k3, k4, k5, k6, k7, k8⟩ := hHeld; exact ⟨hgn _ _ _ k0 (.inr (.inr rfl)), hgn _ _ _ k1 (.inr (.inl rfl)), hgn _ _ _ k2 (.inl hbb), hgn _ _ _ k3 (.inl hbb), hgn _ _ _ k4 (.inl hbb), hgn _ _ _ k5 (.inl hbb), hgn _ _ _ k6 (.inl hbb), hgn _ _ _ k7 (.inl hbb), hgn _ _ _ k8 (.inl hbb)⟩)
        clear hK K
        have hb3 : W3.heap[X]? = some (.cells #[.int .i64 sT.Clock, .int .i64 sT.Next, .slice (some ⟨gq, 0, none⟩) sT.Tree.length qcp, .slice va m vcc] 25 (0, 0)) :=
          (hgrow.block X (Nat.lt_of_lt_of_le hXv HX2.out.size) (fun e => (hrw3 X e.symm).2.2.1 rfl)).trans ((HX2.out.block X hXv).trans HV.out.box)
        have f3 := frozen_of_row W3 X 3 _ _ hb3
        have hgs3 := grown_set W3 X 3 (.slice (some ⟨g3, 0, none⟩) (m + 1) cp3)
        have HA3 := hid (show RefAt w wb X (.slice (some ⟨gq, 0, none⟩) sT.Tree.length qcp) sT (stayB t (s.Books.take (k + 1))) (.slice (some ⟨g3, 0, none⟩) (m + 1) cp3) (W3.setCell ⟨X, 3, none⟩ (.slice (some ⟨g3, 0, none⟩) (m + 1) cp3)) from by
          refine ⟨heap_setCell_same W3 X 3 _ _ _ hb3, ?_, ((HV.out.ext.tr HX2.out).gr hgrow (fun r hr => by have := hrw3 r hr; have := HSB.out; omega)).se hXB _, hXB⟩
          rw [HTK.out]
          refine (HMORE.out _ W3 g3 (m + 1) cp3 _ x (HXV.out.tr HX2.out) HBC.out HLX.out HG.out hown (by rw [hlen]) hgrow (by rw [World.size_alloc]; exact hlie) (fun r hr => ?_)).kept hgs3 (List.mem_cons_self ..)
          have h2 : r = X ∨ r = w.heap.size + 1 ∨ r = w.heap.size := by simpa using hr
          have := HSB.out
          have := HX2.out.size
          omega)
        clear hgn hown hgrow hlie hb3 hgs3
        refine wpAnyT_take (i := 10) (v := ?_) rfl (by kernel_rfl) (fun _ _ _ h => h) (Or.inl ⟨by rfl, ?_⟩) (by assumption) ?_
        rotate_left
        · intro W hSW
          simp only [List.getElem_toArray, List.getElem_cons_zero, List.getElem_cons_succ]
          (try dsimp only at hSW)
          go_simp
          (try with_reducible rfl)
        simp only [List.getElem_toArray, List.getElem_cons_zero, List.getElem_cons_succ, Act.put, List.setIfInBounds_toArray, List.set_cons_zero, List.set_cons_succ]
        refine wpAnyT_last (t := 11) (by kernel_rfl) rfl (by kernel_rfl) (fun K hK => ?_)
        simp only [List.getElem_toArray, List.getElem_cons_zero, List.getElem_cons_succ]
        obtain ⟨k0, _⟩ := hHeld
        go_simp
        refine hK.out _ _ ?_
        clear hK K
        go_wp2_with fail
        go_roundw
        case rel => exact ⟨k + 1, _, by go_num, by omega, HA3⟩
        case measure => simp [intOf]; omega
    · obtain rfl : k = z := by omega
      have hlt' : ¬ (k : Int) < (k : Int) := by omega
      have htk : s.Books.take k = s.Books := List.take_of_length_le (by rw [HZB.out]; omega)
      rw [htk] at HA
      obtain ⟨m, hm⟩ : ∃ m, (stayB t s.Books).length = m := ⟨_, rfl⟩
      obtain ⟨va, vcc, rfl, hrow⟩ := HA.out.own.vform
      rw [hm] at hrow HA
      have hmz : m ≤ k := by rw [← hm, ← HZB.out]; exact List.length_filter_le _ _
      obtain ⟨hT0, hT1, hT2⟩ := HT.out
      have hbx := HA.out.box
      rw [hT0, hT1, hT2] at hbx
      have hown := HA.out.own
      rw [hT2] at hown
      have hzz := HZ0.out wr HA.out.ext
      have hsb := HSB.out
      have hXB := HA.out.low
      have d0 : wr.cell? ⟨X, 0, none⟩ = some (.int .i64 t) := cell_of_row _ _ 0 _ _ _ hbx
      have d1 : wr.cell? ⟨X, 1, none⟩ = some (.int .i64 s.Next) := cell_of_row _ _ 1 _ _ _ hbx
      have d2 : wr.cell? ⟨X, 2, none⟩ = some (.slice (some ⟨gq, 0, none⟩) s.Tree.length qcp) := cell_of_row _ _ 2 _ _ _ hbx
      have d3 : wr.cell? ⟨X, 3, none⟩ = some (.slice va m vcc) := cell_of_row _ _ 3 _ _ _ hbx
      have z0 : wr.cell? ⟨w.heap.size + 1, 0, none⟩ = some (.int .i64 0) := cell_of_row _ _ 0 _ _ _ hzz
      have z1 : wr.cell? ⟨w.heap.size + 1, 1, none⟩ = some (.int .i64 0) := cell_of_row _ _ 1 _ _ _ hzz
      have z2 : wr.cell? ⟨w.heap.size + 1, 2, none⟩ = some (.slice none 0 0) := cell_of_row _ _ 2 _ _ _ hzz
      have z3 : wr.cell? ⟨w.heap.size + 1, 3, none⟩ = some (.slice none 0 0) := cell_of_row _ _ 3 _ _ _ hzz
      have y0 := frozen_of_row wr (w.heap.size + 1) 0 _ _ hzz
      have y1 := frozen_of_row wr (w.heap.size + 1) 1 _ _ hzz
      have y2 := frozen_of_row wr (w.heap.size + 1) 2 _ _ hzz
      have y3 := frozen_of_row wr (w.heap.size + 1) 3 _ _ hzz
      have n1 : w.heap.size + 1 ≠ X := by omega
      have n2 : w.heap.size + 1 ≠ w.heap.size := by omega
      have hwr : IntKind.i64.wrap ((k : Int) - (m : Int)) = (k : Int) - (m : Int) := by rw [IntKind.wrap_i64]; omega
      have HXW := hid (HX0.out.tr HA.out.ext)
      have HOWN := hid hown
      have HZZ := hid hzz
      have HMM := hid hm
      clear hrow hbx hown hzz hsb hm htk
      go_wp2_with fail
      go_region_held3 (fun w' => (w'.cell? ⟨X, 0, none⟩ = some (.int .i64 t) ∧ w'.cell? ⟨X, 1, none⟩ = some (.int .i64 s.Next) ∧ w'.cell? ⟨X, 2, none⟩ = some (.slice (some ⟨gq, 0, none⟩) s.Tree.length qcp) ∧ w'.cell? ⟨X, 3, none⟩ = some (.slice va m vcc) ∧ w'.cell? ⟨w.heap.size, 3, none⟩ = some (.slice ba k bc)))
        (go_keep) (fail)
      have hO13 := HOWN.out.kept (grown_set4 wr (w.heap.size + 1) (.int .i64 t) (.int .i64 s.Next) (.slice (some ⟨gq, 0, none⟩) s.Tree.length qcp) (.slice va m vcc)) (by simp)
      have hX13 := (((HXW.out.se (b := w.heap.size + 1) (o := 0) (by omega) (.int .i64 t)).se (b := w.heap.size + 1) (o := 1) (by omega) (.int .i64 s.Next)).se (b := w.heap.size + 1) (o := 2) (by omega) (.slice (some ⟨gq, 0, none⟩) s.Tree.length qcp)).se (b := w.heap.size + 1) (o := 3) (by omega) (.slice va m vcc)
      have HO13 := hid (hO13.ext (Ext.rf _).dr)
      have HX13 := hid hX13.dr
      have HB13 := hid (row4_set (a0 := .int .i64 t) (a1 := .int .i64 s.Next) (a2 := .slice (some ⟨gq, 0, none⟩) s.Tree.length qcp) (a3 := .slice va m vcc) HZZ.out)
      have HR2 := hid (show tickR s t = (laterS s t, (k : Int) - (m : Int), 0) from by rw [HR.out, HMM.out])
      clear hO13 hX13
      go_wp2_with fail
      exact bodyPost_ret (results_row_two (u1 := 5) (u2 := 6) rfl _ _ (w.heap.size + 1) 25 #[.int .i64 t, .int .i64 s.Next, .slice (some ⟨gq, 0, none⟩) s.Tree.length qcp, .slice va m vcc] (0, 0) _ rfl HB13.out Tryz.underlying25 rfl Tryz.size25) rfl (retState3_of (s := laterS s t) HR2.out (.inl (HO13.out.low (Nat.le_refl _) (fun r hr => by cases hr))) HX13.out)

theorem TickOf_any (w : World) (tv bv : Value) (s : State) (t : Int) (hl : QueuesV w tv s.Tree) (hb : BooksV w bv s.Books) :
    Calls Tryz.prog 21 #[.agg #[.int .i64 s.Clock, .int .i64 s.Next, tv, bv], .int .i64 t] w (RetState3 w (tickR s t)) := by
  by_cases h0 : stateE s = 0
  · by_cases h1 : 0 ≤ t ∧ t ≤ 48
    · by_cases h2 : t < s.Clock
      · exact TickOf_late w tv bv s t hl hb h0 h1 h2
      · exact TickOf_rest w tv bv s t hl hb h0 h1 h2
    · exact TickOf_range w tv bv s t hl hb h0 h1
  · exact TickOf_bad w tv bv s t hl hb h0

end Go.Proofs.YtfbcmifclaaacaaGreat
