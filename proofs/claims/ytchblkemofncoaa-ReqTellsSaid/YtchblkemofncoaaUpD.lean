/- Walks: tree.Beneath, the reference's beneath. -/
import Derived.Test.YtchblkemofncoaaUpC
import Derived.Test.YtchblkemofncoaaSame
set_option linter.unusedVariables false
namespace Go.Proofs.Ytchblkemofncoaa
open Go.RowKit

attribute [local go_sem] Oper.semAt_some

/-- does q stand in k's line? -/
def under (l : List Queue) (k q : Int) : Bool := ((lineL l k).map fun j : Nat => (j : Int)).contains q

theorem under_iff {l : List Queue} {k q : Int} : under l k q = true ↔ ∃ j ∈ lineL l k, (j : Int) = q := by
  unfold under
  rw [List.contains_iff_mem, List.mem_map]
theorem under_no {l : List Queue} {k q : Int} (h : ∀ j ∈ lineL l k, (j : Int) ≠ q) : under l k q = false := by
  rw [Bool.eq_false_iff]
  intro h'
  obtain ⟨j, h1, h2⟩ := under_iff.1 h'
  exact h j h1 h2

set_option maxRecDepth 100000 in
set_option maxHeartbeats 2000000 in
theorem Beneath_any (w : World) (v : Value) (l : List Queue) (k q : Int) (hv : QueuesV w v l) (hp : ParsOk l) (h5 : l.length ≤ 5) (hk1 : 0 ≤ k) (hk2 : k < l.length) :
    Calls Try.prog 62 #[v, .int .i64 k, .int .i64 q] w fun e w' => e = .returned (.bool (under l k q)) ∧ Ext w w' := by
  obtain ⟨b, off, cap, rfl, hcap, hc9, hb, hE⟩ := queues_at hv (by omega)
  refine (callsIn_wide (n := 3)).1 ?_
  refine callsIn_of_wp_marks Try.func62 rfl trivial ?_ rfl
  simp only [Try.ntmps62, List.size_toArray, List.length_cons, List.length_nil, Nat.reduceAdd, Nat.reduceSub, Array.replicate_succ, Array.replicate_zero, List.push_toArray, List.append_toArray, List.nil_append, List.cons_append]
  obtain ⟨w2, hw2⟩ : ∃ w2, (w.alloc (.cells #[.int .i64 q] 3)).alloc (.cells #[.bool false] 4) = w2 := ⟨_, rfl⟩
  have hx2 : Ext w w2 := by rw [← hw2]; exact ((Ext.rf w).al _).al _
  have hs2 : w2.heap.size = w.heap.size + 1 + 1 := by rw [← hw2]; simp
  have bQ : Boxed w2 w.heap.size 3 (.int .i64 q) := by rw [← hw2]; exact (Boxed.new w _ _).alloc _
  have bR : Boxed w2 (w.heap.size + 1) 4 (.bool false) := by
    rw [← hw2]; have := Boxed.new (w.alloc (.cells #[.int .i64 q] 3)) 4 (.bool false); rwa [World.size_alloc] at this
  have U := upAt_new w2 b off cap l k hp (by omega) hk2 h5 (Nat.lt_of_lt_of_le hb hx2.size) (fun k x hk => EQueue.mono w w2 b _ x hx2 (hE k x hk))
  have hlt := U.lt
  have hbb : b < w.heap.size := hb
  have hx4 := (hx2.al (.cells #[.slice (some ⟨b, off, none⟩) l.length cap] 22)).al (.cells #[.int .i64 k] 3)
  have bQ4 := (bQ.alloc (.cells #[.slice (some ⟨b, off, none⟩) l.length cap] 22)).alloc (.cells #[.int .i64 k] 3)
  have bR4 := (bR.alloc (.cells #[.slice (some ⟨b, off, none⟩) l.length cap] 22)).alloc (.cells #[.int .i64 k] 3)
  have hle2 : w.heap.size + 1 < w2.heap.size := by omega
  have HU := hid U
  have Hlt := hid hlt
  have Hx4 := hid hx4
  have HQ4 := hid bQ4
  have HR4 := hid bR4
  have Hw2 := hid hw2
  have Hs2 := hid hs2
  have HUp := hid (fun (W : World) => Up_any W (some ⟨b, off, none⟩) l.length cap k)
  clear hv hE U hlt hx4 bQ4 bR4 bQ bR hw2 hs2 hx2
  gi_wp2
  refine ⟨trivial, (callsIn_wide.2 (HUp.out _)).mono ?_⟩
  rintro e w' ⟨rfl, rfl⟩
  rw [Hw2.out]
  gi_wp2
  refine wp_rangeOf (by omega) (gf := 107) (lb := #[.pointer (some ⟨w2.heap.size + 1, 0, none⟩), .pointer (some ⟨w2.heap.size, 0, none⟩)]) rfl (enters_of Try.func107 (by kernel_rfl) rfl)
    (HU.out.seq _ (by omega)) (fun h k => h.tr k) (KeepB.put Hlt.out) (Below.refl _ _) (by simp) (fun _ => rfl)
    (fun pre W => (∀ y ∈ pre, (y.1 : Int) ≠ q) ∧ (Boxed W w.heap.size 3 (.int .i64 q) ∧ Boxed W (w.heap.size + 1) 4 (.bool false)) ∧ Below w.heap.size w W)
    (fun c pre W => (c = .ret ∧ ∃ y ∈ pre, (y.1 : Int) = q) ∧ Boxed W (w.heap.size + 1) 4 (.bool true) ∧ Below w.heap.size w W)
    (OwnFrom.and (ownFrom_pure _ _) (OwnFrom.and (OwnFrom.and (Own.from (boxed_own _ _ _) _) (Own.from (boxed_own _ _ _) _)) (ownFrom_below (Nat.le_refl _) (by simp; omega))))
    (fun c => OwnFrom.and (ownFrom_pure _ _) (OwnFrom.and (Own.from (boxed_own _ _ _) _) (ownFrom_below (Nat.le_refl _) (by simp; omega))))
    (fun s A B row hs hg hr => ⟨hs.1, ⟨hs.2.1.1.kept hg (fun e => by have := hr _ e.symm; omega), hs.2.1.2.kept hg (fun e => by have := hr _ e.symm; omega)⟩, hs.2.2.grown hg hs.2.2.size (fun k e => by rw [hr k e]; omega)⟩)
    (fun c s A B row hs hg hr => ⟨hs.1, hs.2.1.kept hg (fun e => by have := hr _ e.symm; omega), hs.2.2.grown hg hs.2.2.size (fun k e => by rw [hr k e]; omega)⟩)
    ⟨(fun y hy => by cases hy), ⟨HQ4.out, HR4.out⟩, Hx4.out⟩
    ?a1 ?assign ?body ?done ?stop
  case assign =>
    intro y x W K hK
    gi_wp2
    exact hK
  case body =>
    rintro y pre x W ⟨hne, ⟨hbq, hbr⟩, hB⟩ hlen
    have hcq := hbq.cell
    have hcr := hbr.cell
    have hfr := hbr.frozen
    by_cases hxq : (x.1 : Int) = q
    · have Hxq := hid hxq
      have ht := eqT hxq
      have Hend := hid (And.intro (KeepsFrom.se (B := ((w2.alloc (.cells #[.slice (some ⟨b, off, none⟩) l.length cap] 22)).alloc (.cells #[.int .i64 k] 3)).heap.size) W (w.heap.size + 1) (.bool true)) (And.intro (hbr.set (.bool true)) (hB.setCell (p := ⟨w.heap.size + 1, 0, none⟩) (Nat.le_succ _) (.bool true))))
      clear hxq hne
      gi_wp2
      exact ⟨Hend.out.1, ⟨rfl, x, List.mem_append.2 (.inr (by simp)), Hxq.out⟩, Hend.out.2.1, Hend.out.2.2⟩
    · have ht := eqF hxq
      have Hne := hid (show ∀ y ∈ pre ++ [x], (y.1 : Int) ≠ q from fun y hy => by
        rcases List.mem_append.1 hy with h | h
        · exact hne y h
        · rw [List.mem_singleton.1 h]; exact hxq)
      clear hxq hne
      gi_wp2
      exact ⟨KeepsFrom.refl _ _, KeepB.rf _ _, Hne.out, ⟨hbq, hbr⟩, hB⟩
  case done =>
    rintro D ys W hD hys ⟨hne, ⟨hbq, hbr⟩, hB⟩ hK
    have hcr := hbr.cell
    have hfr := hbr.frozen
    have Hno := hid (show under l k q = false from under_no (fun j hj => by
      rw [← hys] at hj
      obtain ⟨y, hy, rfl⟩ := List.mem_map.1 hj
      exact hne y hy))
    have hK' := (KeepsOthers.setCell W ⟨w.heap.size + 1, 0, none⟩ (.bool false)).same D _ hK rfl
    have hc5 := cell_kept ((hbr.set (.bool false)).cell) (grownBy_putObj' _ D (.deferred none)) (fun r e => by cases e; exact ⟨_, hK', rfl⟩)
    have Hend := hid ((hB.setCell (p := ⟨w.heap.size + 1, 0, none⟩) (Nat.le_succ _) (.bool false)).trans (belowK_b (w := w) (Nat.le_refl _) _ D _ (.deferred none) (by simp at hD; omega) hK' rfl rfl))
    clear hne hys
    gi_wp2
    refine ⟨by simp, .inl ⟨_, _, rfl, run_takeDeferred hK', ?_⟩⟩
    refine ⟨.bool false, ?_, by rw [Hno.out], Hend.out⟩
    simp [results, Try.f62, go_sem, hc5]
  case stop =>
    rintro D c pre W hD hpre ⟨⟨rfl, y, hy, hyq⟩, hbr, hB⟩ hK
    have Hyes := hid (show under l k q = true from under_iff.2 ⟨y.1, hpre.subset (List.mem_map.2 ⟨y, hy, rfl⟩), hyq⟩)
    have hc5 := cell_kept hbr.cell (grownBy_putObj' _ D (.deferred none)) (fun r e => by cases e; exact ⟨_, hK, rfl⟩)
    have Hend := hid (hB.trans (belowK_b (w := w) (Nat.le_refl _) _ D _ (.deferred none) (by simp at hD; omega) hK rfl rfl))
    clear hpre hyq
    gi_wp2
    refine ⟨by simp, .inl ⟨_, _, rfl, run_takeDeferred hK, ?_⟩⟩
    refine ⟨.bool true, ?_, by rw [Hyes.out], Hend.out⟩
    simp [results, Try.f62, go_sem, hc5]

end Go.Proofs.Ytchblkemofncoaa
