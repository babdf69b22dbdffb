/- Walk of room.In. -/
import Derived.Test.YtchblkemofncoaaRoomA
set_option linter.unusedVariables false
set_option linter.unusedSimpArgs false
namespace Go.Proofs.Ytchblkemofncoaa
open Go.RowKit
attribute [local go_sem] Oper.semAt_some

set_option maxRecDepth 100000 in
set_option maxHeartbeats 4000000 in
theorem RoomIn_any (w : World) (v bv : Value) (l : List Queue) (b : List Book) (q : Int) (hl : QueuesV w v l) (hb : BooksV w bv b) (ok : TreeOk l) (hok : ∀ x ∈ b, BookOk l x) (hb12 : b.length ≤ 12) (hq0 : 0 ≤ q) (hq1 : q < l.length) :
    Calls Try.prog 127 #[v, bv, .int .i64 q] w (RetRuns w (fold (roomT l b q))) := by
  have TK := hid (fun (W : World) (hx : Ext w W) => Taken_any W v bv l b (hl.mono hx) (hb.mono hx) ok.pars ok.n5 hok hb12 ok.n1)
  obtain ⟨qb, qo, qc, rfl, hqc, hqc9, hqb, hqE⟩ := queues_at hl ok.n1
  obtain ⟨ba, bc, rfl, _, _, _, _⟩ := books_at hb
  have HQE := hid hqE
  have OK := hid ok
  have HOK := hid hok
  have h5 := ok.n5
  have HU := hid (fun (W : World) (hx : Ext w W) => upAt_new W qb qo qc l q ok.pars (by omega) hq1 ok.n5 (Nat.lt_of_lt_of_le hqb hx.size) (fun k x hk => EQueue.mono w W qb _ x hx (hqE k x hk)))
  have HL5 := hid (lineL_five ok.pars hq1 ok.n5)
  have HB12 := hid hb12
  have HLN := hid (show lineL l q ≠ [] from by
    obtain ⟨k, rfl⟩ := Int.eq_ofNat_of_zero_le hq0
    rw [lineL_pos ok.pars (by omega)]; simp)
  clear hl hb ok hok hqE hb12
  generalize hnn : l.length = n at *
  have Hn := hid hnn
  clear hnn
  generalize hzz : b.length = z at *
  have Hz := hid hzz
  clear hzz
  refine (callsIn_wide (n := 3)).1 ?_
  refine callsIn_of_wp_marks Try.func127 rfl trivial ?_ rfl
  simp only [Try.ntmps127, List.size_toArray, List.length_cons, List.length_nil, Nat.reduceAdd, Nat.reduceSub, Array.replicate_succ, Array.replicate_zero, List.push_toArray, List.append_toArray, List.nil_append, List.cons_append]
  have HA0 := hid ((Ext.rf w).al (.cells #[.slice (some ⟨qb, qo, none⟩) n qc] 22))
  have HBL := hid (Boxed.new w 22 (.slice (some ⟨qb, qo, none⟩) n qc))
  gi_wp2
  refine ⟨trivial, (callsIn_wide.2 (TK.out _ HA0.out)).mono ?_⟩
  rintro e w1 ⟨tv, rfl, htv, hx1⟩
  have HX01 := hid (HA0.out.tr hx1)
  have HBL1 := hid (show Boxed w1 w.heap.size 22 (.slice (some ⟨qb, qo, none⟩) n qc) from (hx1.block _ HBL.out.lt).trans HBL.out)
  obtain ⟨tb, toff, tc, rfl, htl, htc, _, htb, htE⟩ : ∃ tb toff tc, tv = .slice (some ⟨tb, toff, none⟩) n tc ∧ n ≤ tc ∧ tc ≤ 9223372036854775807 ∧ n ≤ 17592186044416 ∧ tb < w1.heap.size ∧ ∀ k, k < n → ERuns w1 tb (toff + k) (fold (takenT l b k)) := by
    rcases htv with ⟨e, _⟩ | ⟨tb, toff, tc, rfl, q1, q2, q3, q4, q5⟩
    · have := congrArg List.length e; have := HLN.out; simp at *; omega
    · rw [List.length_map, List.length_range] at q1 q3
      refine ⟨tb, toff, tc, by simp, q1, q2, q3, q4, fun k hk => ?_⟩
      have := q5 k (fold (takenT l b k)) (by simp [hk])
      rwa [Nat.mul_one] at this
  have HTE := hid htE
  clear htv htE hx1
  have HBT := hid (Boxed.new w1 125 (.slice (some ⟨tb, toff, none⟩) n tc))
  have HBO := hid (Boxed.new (w1.alloc (.cells #[.slice (some ⟨tb, toff, none⟩) n tc] 125)) 40 (.slice none 0 0))
  have HSZ := hid (show ((w1.alloc (.cells #[.slice (some ⟨tb, toff, none⟩) n tc] 125)).alloc (.cells #[.slice none 0 0] 40)).heap.size = w1.heap.size + 1 + 1 from by simp only [World.size_alloc])
  have Hx3 := hid (((Ext.rf w1).al (.cells #[.slice (some ⟨tb, toff, none⟩) n tc] 125)).al (.cells #[.slice none 0 0] 40))
  have Hx23 := hid ((Ext.rf (w1.alloc (.cells #[.slice (some ⟨tb, toff, none⟩) n tc] 125))).al (.cells #[.slice none 0 0] 40))
  have hbl3 := (Hx3.out.block _ HBL1.out.lt).trans HBL1.out
  have hcl3 := (show Boxed _ w.heap.size 22 _ from hbl3).cell
  gi_wp2
  generalize hw4 : ((w1.alloc (.cells #[.slice (some ⟨tb, toff, none⟩) n tc] 125)).alloc (.cells #[.slice none 0 0] 40)) = w4 at *
  refine ⟨trivial, (callsIn_wide.2 (Up_any _ _ _ _ _)).mono ?_⟩
  rintro e w5 ⟨rfl, rfl⟩
  have U := HU.out w4 (HX01.out.tr Hx3.out)
  have hx6 := ((Ext.rf w4).al (.cells #[.slice (some ⟨qb, qo, none⟩) n qc] 22)).al (.cells #[.int .i64 q] 3)
  have hs6 : ((w4.alloc (.cells #[.slice (some ⟨qb, qo, none⟩) n qc] 22)).alloc (.cells #[.int .i64 q] 3)).heap.size = w4.heap.size + 1 + 1 := by simp only [World.size_alloc]
  have hBO4 : Boxed w4 (w1.heap.size + 1) 40 (.slice none 0 0) := by have := HBO.out; rwa [World.size_alloc] at this
  have hBT4 : Boxed w4 w1.heap.size 125 (.slice (some ⟨tb, toff, none⟩) n tc) := (Hx23.out.block _ HBT.out.lt).trans HBT.out
  have HLE : RoomLie w1 w1.heap.size (w1.heap.size + 1) (w4.heap.size + 1) ((w4.alloc (.cells #[.slice (some ⟨qb, qo, none⟩) n qc] 22)).alloc (.cells #[.int .i64 q] 3)).heap.size := by
    have e1 := HSZ.out
    rw [hs6]
    exact ⟨⟨by omega, by omega, by omega, by omega⟩, ⟨by omega, by omega, by omega⟩, ⟨by omega, by omega⟩⟩
  have HT0 := hid (show RoomIn w w1 w1.heap.size (w1.heap.size + 1) (w4.heap.size + 1) ((w4.alloc (.cells #[.slice (some ⟨qb, qo, none⟩) n qc] 22)).alloc (.cells #[.int .i64 q] 3)).heap.size (.slice (some ⟨tb, toff, none⟩) n tc) (leftT l b) [] ((w4.alloc (.cells #[.slice (some ⟨qb, qo, none⟩) n qc] 22)).alloc (.cells #[.int .i64 q] 3)) from
    ⟨(hx6.block _ hBT4.lt).trans hBT4, ⟨_, (hx6.block _ hBO4.lt).trans hBO4, .inl ⟨rfl, rfl⟩⟩, Hx3.out.tr hx6, Nat.le_refl _⟩)
  clear hBO4 hBT4 hbl3 hcl3
  gi_wp2
  generalize ((w4.alloc (.cells #[.slice (some ⟨qb, qo, none⟩) n qc] 22)).alloc (.cells #[.int .i64 q] 3)) = w6 at *
  refine wp_rangeOf (by omega) (gf := 107) (lb := #[.pointer (some ⟨w4.heap.size + 1, 0, none⟩), .pointer (some ⟨w4.heap.size, 0, none⟩)]) rfl (enters_of Try.func107 (by kernel_rfl) rfl)
    (U.seq _ (by omega)) (fun h k => h.tr k) (KeepB.put U.lt) (Below.refl _ _) (by omega) (fun _ => rfl)
    (fun (pre : List (Fin l.length)) W => RoomIn w w1 w1.heap.size (w1.heap.size + 1) (w4.heap.size + 1) w6.heap.size (.slice (some ⟨tb, toff, none⟩) n tc) (leftT l b) (pre.map (fun y => y.1)) W)
    (fun _ _ _ => False) (RoomIn.ownFrom HLE _ (fun pre : List (Fin l.length) => pre.map (fun y => y.1))) (fun _ _ _ _ _ hs _ _ => hs.elim) (fun s A B row hs hg hr => by exact hs.grown HLE hg hr) (fun _ _ _ _ _ hs _ _ => hs.elim) HT0.out ?a1 ?assign ?body ?done ?stop
  case assign =>
    intro y i W K hK
    gi_wp2
    exact hK
  case body =>
    rintro y pre i W0 hI0 hlen
    clear hs6
    have hik : i.1 < n := by have := i.2; have := Hn.out; omega
    refine wpIn_block ?_
    refine wpIn_seq_k (fun K0 hK0 => ?_)
    refine wpIn_round_heldA (S := fun V => Ext W0.drew V) K0 (by kernel_rfl) (by kernel_rfl) (fun a' w' h => h) ?_
    have HK0 := hid hK0
    clear hK0
    have HxW := hid (Ext.dr (Ext.rf W0))
    have hI := hI0.mono HxW.out
    have HI := hid hI
    generalize W0.drew = W at *
    have HS := hid (Ext.rf W)
    have hx1W := hI.ext
    obtain ⟨qx, hqx⟩ := getA (f := l) (k := i.1) i.2
    obtain ⟨_, _, _, _, cv, c3, hcv⟩ := EQueue.mono w W qb _ qx (HX01.out.tr hx1W) (HQE.out i.1 qx hqx)
    obtain ⟨rv, c4, hrv⟩ := ERuns.mono w1 W tb _ _ hx1W (HTE.out i.1 hik)
    have c1 := ((show Boxed W w.heap.size 22 _ from (hx1W.block _ HBL1.out.lt).trans HBL1.out)).cell
    have c2 := hI.boxt.cell
    rw [← (at_some hqx).2.2] at hcv
    have hne : cp l i.1 ≠ [] := fun e => by have := (OK.out.caps i.1 i.2).1.1; rw [e] at this; exact this
    have ZL := hid (zip_left 138 (enters_of Try.func138 (by kernel_rfl) rfl) room1 W cv rv l b i.1 i.2 OK.out HOK.out (by rw [Hz.out]; exact HB12.out) hcv hrv)
    obtain ⟨cb, co, cc, rfl, _⟩ := runs_cells hcv hne
    obtain ⟨rb, ro, rc, rfl, _⟩ := runs_cells hrv (fold_ne _)
    clear hI0 hI hcv hrv hne hqx
    generalize (cp l i.1).length = cn at *
    generalize (fold (takenT l b i.1)).length = rn at *
    have HPRE := hid (show pre.length ≤ 5 from by have := HL5.out; omega)
    clear hlen
    refine wpAnyH_take (i := 0) (oi := _) (v := ?_) rfl (by kernel_rfl) (by kernel_rfl) (by kernel_rfl) (fun _ _ _ h => (by cases h.1)) (Or.inl ⟨by kernel_rfl, ?_⟩) HS.out ?_
    rotate_left
    · intro V hSw; have l1 := hSw.ce' c1; have l2 := hSw.ce' c2; have l3 := hSw.ce' c3; have l4 := hSw.ce' c4; go_simp; with_reducible rfl
    try simp only [Act.put, List.setIfInBounds_toArray, List.set_cons_zero, List.set_cons_succ, List.getElem_toArray, List.getElem_cons_succ, List.getElem_cons_zero]
    refine wpAnyH_take (i := 1) (oi := _) (v := ?_) rfl (by kernel_rfl) (by kernel_rfl) (by kernel_rfl) (fun _ _ _ h => (by cases h.1)) (Or.inl ⟨by kernel_rfl, ?_⟩) HS.out ?_
    rotate_left
    · intro V hSw; have l1 := hSw.ce' c1; have l2 := hSw.ce' c2; have l3 := hSw.ce' c3; have l4 := hSw.ce' c4; go_simp; with_reducible rfl
    try simp only [Act.put, List.setIfInBounds_toArray, List.set_cons_zero, List.set_cons_succ, List.getElem_toArray, List.getElem_cons_succ, List.getElem_cons_zero]
    refine wpAnyH_take (i := 2) (oi := _) (v := ?_) rfl (by kernel_rfl) (by kernel_rfl) (by kernel_rfl) (fun _ _ _ h => (by cases h.1)) (Or.inl ⟨by kernel_rfl, ?_⟩) HS.out ?_
    rotate_left
    · intro V hSw; have l1 := hSw.ce' c1; have l2 := hSw.ce' c2; have l3 := hSw.ce' c3; have l4 := hSw.ce' c4; go_simp; with_reducible rfl
    try simp only [Act.put, List.setIfInBounds_toArray, List.set_cons_zero, List.set_cons_succ, List.getElem_toArray, List.getElem_cons_succ, List.getElem_cons_zero]
    refine wpAnyH_take (i := 3) (oi := _) (v := ?_) rfl (by kernel_rfl) (by kernel_rfl) (by kernel_rfl) (fun _ _ _ h => (by cases h.1)) (Or.inl ⟨by kernel_rfl, ?_⟩) HS.out ?_
    rotate_left
    · intro V hSw; have l1 := hSw.ce' c1; have l2 := hSw.ce' c2; have l3 := hSw.ce' c3; have l4 := hSw.ce' c4; go_simp; with_reducible rfl
    try simp only [Act.put, List.setIfInBounds_toArray, List.set_cons_zero, List.set_cons_succ, List.getElem_toArray, List.getElem_cons_succ, List.getElem_cons_zero]
    refine wpAnyH_take (i := 4) (oi := _) (v := ?_) rfl (by kernel_rfl) (by kernel_rfl) (by kernel_rfl) (fun _ _ _ h => (by cases h.1)) (Or.inl ⟨by kernel_rfl, ?_⟩) HS.out ?_
    rotate_left
    · intro V hSw; have l1 := hSw.ce' c1; have l2 := hSw.ce' c2; have l3 := hSw.ce' c3; have l4 := hSw.ce' c4; go_simp; with_reducible rfl
    try simp only [Act.put, List.setIfInBounds_toArray, List.set_cons_zero, List.set_cons_succ, List.getElem_toArray, List.getElem_cons_succ, List.getElem_cons_zero]
    refine wpAnyH_take (i := 5) (oi := _) (v := ?_) rfl (by kernel_rfl) (by kernel_rfl) (by kernel_rfl) (fun _ _ _ h => (by cases h.1)) (Or.inl ⟨by kernel_rfl, ?_⟩) HS.out ?_
    rotate_left
    · intro V hSw; have l1 := hSw.ce' c1; have l2 := hSw.ce' c2; have l3 := hSw.ce' c3; have l4 := hSw.ce' c4; go_simp; with_reducible rfl
    try simp only [Act.put, List.setIfInBounds_toArray, List.set_cons_zero, List.set_cons_succ, List.getElem_toArray, List.getElem_cons_succ, List.getElem_cons_zero]
    refine wpAnyH_take (i := 6) (oi := _) (v := ?_) rfl (by kernel_rfl) (by kernel_rfl) (by kernel_rfl) (fun _ _ _ h => (by cases h.1)) (Or.inl ⟨by kernel_rfl, ?_⟩) HS.out ?_
    rotate_left
    · intro V hSw; have l1 := hSw.ce' c1; have l2 := hSw.ce' c2; have l3 := hSw.ce' c3; have l4 := hSw.ce' c4; go_simp; with_reducible rfl
    try simp only [Act.put, List.setIfInBounds_toArray, List.set_cons_zero, List.set_cons_succ, List.getElem_toArray, List.getElem_cons_succ, List.getElem_cons_zero]
    refine wpAnyH_take (i := 7) (oi := _) (v := ?_) rfl (by kernel_rfl) (by kernel_rfl) (by kernel_rfl) (fun _ _ _ h => (by cases h.1)) (Or.inl ⟨by kernel_rfl, ?_⟩) HS.out ?_
    rotate_left
    · intro V hSw; have l1 := hSw.ce' c1; have l2 := hSw.ce' c2; have l3 := hSw.ce' c3; have l4 := hSw.ce' c4; go_simp; with_reducible rfl
    try simp only [Act.put, List.setIfInBounds_toArray, List.set_cons_zero, List.set_cons_succ, List.getElem_toArray, List.getElem_cons_succ, List.getElem_cons_zero]
    refine wpAnyH_take (i := 8) (oi := _) (v := ?_) rfl (by kernel_rfl) (by kernel_rfl) (by kernel_rfl) (fun _ _ _ h => (by cases h.1)) (Or.inl ⟨by kernel_rfl, ?_⟩) HS.out ?_
    rotate_left
    · intro V hSw; have l1 := hSw.ce' c1; have l2 := hSw.ce' c2; have l3 := hSw.ce' c3; have l4 := hSw.ce' c4; go_simp; with_reducible rfl
    try simp only [Act.put, List.setIfInBounds_toArray, List.set_cons_zero, List.set_cons_succ, List.getElem_toArray, List.getElem_cons_succ, List.getElem_cons_zero]
    refine wpAnyH_ready (rs := [9]) (by kernel_rfl) (by simp) ?_
    refine AllReadyH.cons rfl (fun K hK => ?_) AllReadyH.nil
    go_simp
    refine ZL.out.mono ?_
    rintro e W1 ⟨vz, rfl, hvz, hfr, hxz⟩
    refine hK.out _ _ hxz (fun _ => ?_)
    clear hK K
    try simp only [Act.put, List.setIfInBounds_toArray, List.set_cons_zero, List.set_cons_succ, List.getElem_toArray, List.getElem_cons_succ, List.getElem_cons_zero]
    obtain ⟨zb, zo, zc, rfl, _⟩ := runs_cells hvz (fold_ne _)
    have HS1 := hid hxz
    clear HS
    refine wpAnyH_ready (rs := [10]) (by kernel_rfl) (by simp) ?_
    refine AllReadyH.cons rfl (fun K hK => ?_) AllReadyH.nil
    go_simp
    refine hK.out _ _ HS1.out (fun _ => ?_)
    clear hK K
    try simp only [Act.put, List.setIfInBounds_toArray, List.set_cons_zero, List.set_cons_succ, List.getElem_toArray, List.getElem_cons_succ, List.getElem_cons_zero]
    refine wpAnyH_done (by kernel_rfl) ⟨rfl, HK0.out _ _ ?_⟩ _
    clear HK0 K0
    have hI1 := HI.out.mono HS1.out
    have hzt := Nat.le_trans HI.out.hi (hfr _ _ _ rfl)
    obtain ⟨ov, hov, hO⟩ := hI1.boxo
    have c8 := hov.cell
    have f8 := hov.frozen
    have HK1 := hid (And.intro (KeepsFrom.ext (B := w6.heap.size) (HxW.out.tr HS1.out)) (KeepB.ext (bs := [w4.heap.size, w4.heap.size + 1, qb]) (HxW.out.tr HS1.out)))
    rcases hO with ⟨hp, rfl⟩ | ⟨hp, hrov, hap⟩
    · have hST := hid (hI1.step HLE (Ext.rf W1) (k := i.1) (by rw [hp]; exact hvz) (fun a n c e => by cases e; exact hzt))
      clear hvz hfr hov hp hI1
      generalize (fold (leftT l b i.1)).length = zn at *
      have hb1 : Sem.run Try.prog (binOp .eql 40 (.slice none 0 0) (.slice none 0 0)) W1 = .ok (.bool true) W1 := by rfl
      gi_wp2
      refine ⟨HK1.out.1.trans (KeepsFrom.sc _ _ _ _ _), HK1.out.2.tr (KeepB.grown (grown_set _ _ _ _) (fun r e => by
            have e := Option.some.inj e
            have h2 := HX01.out.size
            have h3 := HSZ.out
            simp only [List.mem_cons, List.not_mem_nil, or_false]
            omega)), ?_⟩
      show RoomIn _ _ _ _ _ _ _ _ ((pre ++ [i]).map (fun y : Fin l.length => y.1)) _
      rw [List.map_append, List.map_singleton]
      exact hST.out
    · have hin : ∀ j ∈ pre.map (fun y : Fin l.length => y.1), j < l.length := fun j hj => by
        obtain ⟨y, _, rfl⟩ := List.mem_map.1 hj; exact y.2
      have ZM := hid (zip_min W1 ov _ _ _ hrov hvz (fun t _ => by
        have := minTo_num (g := fun k => leftT l b k t) (a := -1800) (b := 50) _ (fun j hj => left_num OK.out HOK.out (by rw [Hz.out]; exact HB12.out) j t (hin j hj)) hp
        unfold minF; omega) (fun t _ => by have := left_num (t := t) OK.out HOK.out (by rw [Hz.out]; exact HB12.out) i.1 i.2; omega))
      obtain ⟨ob, oo, oc, rfl, _⟩ := runs_cells hrov (fold_ne _)
      have HOV := hid hov
      have HP := hid hp
      have HI1 := hid hI1
      clear hvz hfr hov hp hI1 hrov hap hin
      generalize (fold (leftT l b i.1)).length = zn at *
      generalize (fold (minF (leftT l b) (pre.map (fun y : Fin l.length => y.1)))).length = on at *
      have hb1 : Sem.run Try.prog (binOp .eql 40 (.slice (some ⟨ob, oo, none⟩) on oc) (.slice none 0 0)) W1 = .ok (.bool false) W1 := by rfl
      gi_wp2
      refine ⟨trivial, (CallsIn.inRound y (callsIn_wide.2 ZM.out)).mono ?_⟩
      rintro e W2 ⟨vm, rfl, hvm, hfm, hx2⟩
      have hST := hid (HI1.out.step HLE hx2 (k := i.1) (v := vm) (by
        rw [show minF (leftT l b) (pre.map (fun y : Fin l.length => y.1) ++ [i.1]) = fun t => min (minF (leftT l b) (pre.map (fun y : Fin l.length => y.1)) t) (leftT l b i.1 t) from funext fun t => minTo_snoc _ _ HP.out]
        exact hvm) (fun a n c e => Nat.le_trans (Nat.le_trans HI1.out.hi (Nat.le_refl _)) (hfm a n c e)))
      obtain ⟨mb, mo, mc, rfl, _⟩ := runs_cells hvm (fold_ne _)
      have hov2 : Boxed W2 (w1.heap.size + 1) 40 _ := (hx2.block _ HOV.out.lt).trans HOV.out
      have c8' := hov2.cell
      have f8' := hov2.frozen
      have HK2 := hid (And.intro (HK1.out.1.trans (KeepsFrom.ext hx2)) (HK1.out.2.tr (KeepB.ext hx2)))
      clear hvm hfm hx2 hov2
      generalize (fold fun t => min (minF (leftT l b) (pre.map (fun y : Fin l.length => y.1)) t) (leftT l b i.1 t)).length = mn at *
      gi_wp2
      refine ⟨HK2.out.1.trans (KeepsFrom.sc _ _ _ _ _), HK2.out.2.tr (KeepB.grown (grown_set _ _ _ _) (fun r e => by
            have e := Option.some.inj e
            have h2 := HX01.out.size
            have h3 := HSZ.out
            simp only [List.mem_cons, List.not_mem_nil, or_false]
            omega)), ?_⟩
      show RoomIn _ _ _ _ _ _ _ _ ((pre ++ [i]).map (fun y : Fin l.length => y.1)) _
      rw [List.map_append, List.map_singleton]
      exact hST.out
  case done =>
    rintro D ys W hD hys hI hK
    obtain ⟨ov, hov, hO⟩ := hI.boxo
    rw [hys] at hO
    obtain ⟨_, hrov, _⟩ := hO.resolve_left (fun h => HLN.out h.1)
    obtain ⟨ob, oo, oc, rfl, _⟩ := runs_cells hrov (fold_ne _)
    have c8 := hov.cell
    have HR := hid (runs_own hrov (fold_ne _) (grownBy_putObj' W D (.deferred none)) (fun r e => by cases e; exact ⟨_, hK, rfl⟩))
    have HEX := hid ((HX01.out.tr hI.ext).trans (belowK_b (w := w) (Nat.le_refl _) W D _ (.deferred none) (by have h1 := HX01.out.size; have h2 := HSZ.out; omega) hK rfl rfl))
    clear hys hI hov hO hrov
    generalize (fold (minF (leftT l b) (lineL l q))).length = rn at *
    gi_wp2
    refine ⟨by simp, .inl ⟨_, _, rfl, run_takeDeferred hK, ?_⟩⟩
    refine ⟨_, results_tmp rfl _ _ _, _, rfl, ?_, HEX.out⟩
    exact HR.out
  case stop =>
    rintro D c pre W _ _ h _
    exact h.elim
end Go.Proofs.Ytchblkemofncoaa
