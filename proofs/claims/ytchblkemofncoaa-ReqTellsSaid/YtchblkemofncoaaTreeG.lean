/- Walk of tree.Check, whatever comes. -/
import Derived.Test.YtchblkemofncoaaTreeF
set_option linter.unusedVariables false
namespace Go.Proofs.Ytchblkemofncoaa
open Go.RowKit

theorem four_new (w : World) (o1 o2 o3 o4 : Obj) :
    (((((w.alloc o1).alloc o2).alloc o3).alloc o4).heap[w.heap.size]? = some o1) ∧ (((((w.alloc o1).alloc o2).alloc o3).alloc o4).heap[w.heap.size + 1]? = some o2) ∧
    (((((w.alloc o1).alloc o2).alloc o3).alloc o4).heap[w.heap.size + 1 + 1]? = some o3) ∧ (((((w.alloc o1).alloc o2).alloc o3).alloc o4).heap[w.heap.size + 1 + 1 + 1]? = some o4) ∧ Ext w ((((w.alloc o1).alloc o2).alloc o3).alloc o4) := by
  have s1 : (w.alloc o1).heap.size = w.heap.size + 1 := by simp
  have s2 : ((w.alloc o1).alloc o2).heap.size = w.heap.size + 1 + 1 := by simp
  have s3 : (((w.alloc o1).alloc o2).alloc o3).heap.size = w.heap.size + 1 + 1 + 1 := by simp
  have a1 := heap_alloc_new w o1
  have a2 := heap_alloc_new (w.alloc o1) o2
  have a3 := heap_alloc_new ((w.alloc o1).alloc o2) o3
  have a4 := heap_alloc_new (((w.alloc o1).alloc o2).alloc o3) o4
  rw [s1] at a2
  rw [s2] at a3
  rw [s3] at a4
  have keep : ∀ (W : World) (o b : Obj) (j : Nat), W.heap[j]? = some b → (W.alloc o).heap[j]? = some b := fun W o b j h => by
    rw [((Ext.rf W).al o).block j (Array.getElem?_eq_some_iff.1 h).1]; exact h
  exact ⟨keep _ _ _ _ (keep _ _ _ _ (keep _ _ _ _ a1)), keep _ _ _ _ (keep _ _ _ _ a2), keep _ _ _ _ a3, a4, ((((Ext.rf w).al o1).al o2).al o3).al o4⟩

/-- the state of Check's third test -/
def Seen (w : World) (l : List Queue) (B bm cm cn : Nat) (ob : Obj) (k : Nat) (W : World) : Prop :=
  Ext w W ∧ W.heap[cm]? = some (.cells #[.map (some bm)] 83 (0, 0)) ∧ CountAt bm k (cntQ l k) W ∧ W.heap[B]? = some ob ∧ NumAt cn (-1) W

/-- the state of Check's fourth test -/
def Counted (w : World) (B cn : Nat) (ob : Obj) (k : Nat) (W : World) : Prop := Ext w W ∧ NumAt cn ((k : Int) - 1) W ∧ W.heap[B]? = some ob

theorem countAt_zero {bm : Nat} {W : World} (h : W.heap[bm]? = some (.map #[] 0)) (l : List Queue) : CountAt bm 0 (cntQ l 0) W := by
  obtain ⟨es, clock, h1, h2⟩ := World.ownsMap_made (H := Nat) W Try.prog 9 (plainElem Try.prog 3)
  rw [heap_alloc_new] at h1
  have h3 := Option.some.inj h1
  simp only [Obj.map.injEq] at h3
  obtain ⟨rfl, rfl⟩ := h3
  exact ⟨_, ⟨#[], 0, h, h2⟩, fun s => rfl⟩

set_option maxRecDepth 100000 in
set_option maxHeartbeats 4000000 in
theorem treeCheck_some (w : World) (b off cap : Nat) (l : List Queue) (h1 : l.length ≤ cap) (hl : l.length ≤ 5) (h0 : 1 ≤ l.length) (hb : b < w.heap.size) (hE : ∀ k x, l[k]? = some x → EQueue w b (off + k * 3) x) :
    Calls Try.prog 21 #[.slice (some ⟨b, off, none⟩) l.length cap] w fun e w' => e = .returned (.int .i64 (checkT l)) ∧ Ext w w' := by
  have hn1 : ¬ (l.length : Int) < 1 := by omega
  have hn2 : ¬ (5 : Int) < (l.length : Int) := by omega
  have hmm := @run_makeMap Try.prog
  obtain ⟨n1, n2, n3, n4, hx4⟩ := four_new w (.cells #[.slice (some ⟨b, off, none⟩) l.length cap] 22) (.map #[] 0) (.cells #[.map (some (w.heap.size + 1))] 83) (.cells #[.int .i64 (-1)] 3)
  have N1 := hid n1
  have N2 := hid n2
  have N3 := hid n3
  have N4 := hid n4
  have X4 := hid hx4
  have c1 := cell_of_row _ _ 0 _ _ _ n1
  -- the four tests, each from the world in which it is asked
  have T2 := hid (fun (W : World) (hx : Ext w W) (hc : W.cell? ⟨w.heap.size, 0, none⟩ = some (.slice (some ⟨b, off, none⟩) l.length cap)) =>
    Check1_any w W b off cap w.heap.size l 68 #[] (p2 l) (fun _ W' => Ext W W') (by omega) hb hE (enters_of Try.func68 (by kernel_rfl) rfl) hc (Ext.rf _) (fun _ _ h => hx.tr h)
      (fun k x hk W' v hW hv => by
        obtain ⟨_, q2, _⟩ := hE k x hk
        obtain ⟨e1, e2, e3⟩ := at_some hk
        obtain ⟨a, c, rfl, _⟩ := hv.form
        exact (check2 W' x.Name x.Parent a _ c q2).mono fun e w' ⟨he, hx'⟩ => ⟨by rw [he]; unfold p2; rw [e1], hW.tr hx'⟩))
  have T5 := hid (fun (W : World) (hx : Ext w W) (hc : W.cell? ⟨w.heap.size, 0, none⟩ = some (.slice (some ⟨b, off, none⟩) l.length cap)) =>
    Check1_any w W b off cap w.heap.size l 71 #[] (p5 l) (fun _ W' => Ext W W') (by omega) hb hE (enters_of Try.func71 (by kernel_rfl) rfl) hc (Ext.rf _) (fun _ _ h => hx.tr h)
      (fun k x hk W' v hW hv => by
        obtain ⟨e1, e2, e3⟩ := at_some hk
        exact (check5 W' x.Name x.Parent v x.Cap hv).mono fun e w' ⟨he, hx'⟩ => ⟨by rw [he]; unfold p5; rw [e3], hW.tr hx'⟩))
  have T4 := hid (fun (W : World) (hx : Ext w W) (hc : W.heap[w.heap.size]? = some (.cells #[.slice (some ⟨b, off, none⟩) l.length cap] 22 (0, 0))) (hn : NumAt (w.heap.size + 1 + 1 + 1) (-1) W) =>
    Check1_any w W b off cap w.heap.size l 70 #[.pointer (some ⟨w.heap.size + 1 + 1 + 1, 0, none⟩)] (p4 l) (Counted w w.heap.size (w.heap.size + 1 + 1 + 1) (.cells #[.slice (some ⟨b, off, none⟩) l.length cap] 22 (0, 0))) (by omega) hb hE (enters_of Try.func70 (by kernel_rfl) rfl) (by rw [cell_of_row _ _ _ _ _ _ hc]; rfl) ⟨hx, hn, hc⟩ (fun _ _ h => h.1)
      (fun k x hk W' v hW hv => by
        obtain ⟨e1, e2, e3⟩ := at_some hk
        obtain ⟨a, c, rfl, _⟩ := hv.form
        exact (check4 w W' x.Name x.Parent a _ c (w.heap.size + 1 + 1 + 1) k (by have := (List.getElem?_eq_some_iff.1 hk).1; omega) (by omega) hW.1 hW.2.1).mono fun e w' ⟨he, hx', hn', ho⟩ =>
          ⟨by rw [he]; unfold p4; rw [e2], hx', by rw [show (((k + 1 : Nat) : Int) - 1) = (k : Int) by omega]; exact hn', ho _ _ (by omega) hW.2.2⟩))
  have T3 := hid (fun (W : World) (hx : Ext ((((w.alloc (.cells #[.slice (some ⟨b, off, none⟩) l.length cap] 22)).alloc (.map #[] 0)).alloc (.cells #[.map (some (w.heap.size + 1))] 83)).alloc (.cells #[.int .i64 (-1)] 3)) W) (hC : CountAt (w.heap.size + 1) 0 (cntQ l 0) W) =>
    have keep : ∀ (j : Nat) (o : Obj), _ → W.heap[j]? = some o := fun j o (h : ((((w.alloc (.cells #[.slice (some ⟨b, off, none⟩) l.length cap] 22)).alloc (.map #[] 0)).alloc (.cells #[.map (some (w.heap.size + 1))] 83)).alloc (.cells #[.int .i64 (-1)] 3)).heap[j]? = some o) => by
      rw [hx.block j (Array.getElem?_eq_some_iff.1 h).1]; exact h
    Check1_any w W b off cap w.heap.size l 69 #[.pointer (some ⟨w.heap.size + 1 + 1, 0, none⟩)] (p3 l) (Seen w l w.heap.size (w.heap.size + 1) (w.heap.size + 1 + 1) (w.heap.size + 1 + 1 + 1) (.cells #[.slice (some ⟨b, off, none⟩) l.length cap] 22 (0, 0))) (by omega) hb hE (enters_of Try.func69 (by kernel_rfl) rfl) (by rw [cell_of_row _ _ _ _ _ _ (keep _ _ n1)]; rfl)
      ⟨hx4.tr hx, keep _ _ n3, hC, keep _ _ n1, keep _ _ n4⟩ (fun _ _ h => h.1)
      (fun k x hk W' v hW hv => by
        obtain ⟨_, q2, _⟩ := hE k x hk
        obtain ⟨e1, e2, e3⟩ := at_some hk
        obtain ⟨a, c, rfl, _⟩ := hv.form
        obtain ⟨s1, s2, s3, s4, s5⟩ := hW
        exact (check3 w W' x.Name x.Parent a _ c (w.heap.size + 1 + 1) (w.heap.size + 1) k (cntQ l k) q2 (by have := (List.getElem?_eq_some_iff.1 hk).1; omega) (cntQ_le _ _ _) (by omega) (by omega) (by omega) s1 s2 s3).mono fun e w' ⟨he, hx', hm', hC', ho⟩ =>
          ⟨by rw [he]; unfold p3; rw [e1], hx', hm', by show CountAt _ _ (plus (cntQ l k) (nm l k)) _; rw [e1]; exact hC', ho _ _ (by omega) s4, ho _ _ (by omega) s5⟩))
  clear hE n1 n2 n3 n4 hx4
  have hck : checkT l = if (List.range l.length).any (p2 l) then 4 else if (List.range l.length).any (p3 l) then 5 else if (List.range l.length).any (p4 l) then 3 else if (List.range l.length).any (p5 l) then 1 else 0 := by
    unfold checkT; rw [if_neg (by omega)]
  have Hck := hid hck
  clear hck
  go_enter Try.func21, Try.ntmps21
  go_wp2_with fail
  refine (T2.out _ X4.out c1).mono ?_
  rintro e w1 ⟨c, rfl, hc⟩
  obtain ⟨hcv, _, hx1⟩ := hasQ_any hc
  clear hc T2
  have HX1 := hid hx1
  have hC0 : CountAt (w.heap.size + 1) 0 (cntQ l 0) w1 := by
    have h2 : w1.heap[w.heap.size + 1]? = some (.map #[] 0) := by rw [hx1.block _ (Array.getElem?_eq_some_iff.1 N2.out).1]; exact N2.out
    exact countAt_zero h2 l
  cases c with
  | true =>
    have Hr := hid (show checkT l = 4 from by rw [Hck.out, ← hcv, if_pos rfl])
    clear hcv
    go_wp2_with fail
    go_ret
    exact ⟨ret_int Hr.out.symm, X4.out.tr hx1⟩
  | false =>
    rw [← hcv, if_neg (by decide)] at Hck
    clear hcv
    have T3' := hid (T3.out w1 hx1 hC0)
    clear T3 hC0
    have c11 := hx1.ce' c1
    go_wp2_with fail
    refine T3'.out.mono ?_
    rintro e w2 ⟨c, rfl, hc⟩
    obtain ⟨hcv, k3, s1, s2, s3, s4, s5⟩ := hasQ_any hc
    have S1 := hid s1
    have T4' := hid (T4.out w2 s1 s4 s5)
    clear hc T3' T4 s2 s3 s5 c11
    have c12 := cell_of_row _ _ 0 _ _ _ s4
    cases c with
    | true =>
      have Hr := hid (show checkT l = 5 from by rw [Hck.out, ← hcv, if_pos rfl])
      clear hcv
      go_wp2_with fail
      go_ret
      exact ⟨ret_int Hr.out.symm, s1⟩
    | false =>
      rw [← hcv, if_neg (by decide)] at Hck
      clear hcv s4
      go_wp2_with fail
      refine T4'.out.mono ?_
      rintro e w3 ⟨c, rfl, hc⟩
      obtain ⟨hcv, k4, u1, u2, u3⟩ := hasQ_any hc
      have c13 := cell_of_row _ _ 0 _ _ _ u3
      have T5' := hid (T5.out w3 u1 c13)
      clear hc T4' T5 u2 u3 c12
      cases c with
      | true =>
        have Hr := hid (show checkT l = 3 from by rw [Hck.out, ← hcv, if_pos rfl])
        clear hcv
        go_wp2_with fail
        go_ret
        exact ⟨ret_int Hr.out.symm, u1⟩
      | false =>
        rw [← hcv, if_neg (by decide)] at Hck
        clear hcv
        go_wp2_with fail
        refine T5'.out.mono ?_
        rintro e w4 ⟨c, rfl, hc⟩
        obtain ⟨hcv, k5, u4⟩ := hasQ_any hc
        clear hc T5' c13
        cases c with
        | true =>
          have Hr := hid (show checkT l = 1 from by rw [Hck.out, ← hcv, if_pos rfl])
          clear hcv
          go_wp2_with fail
          go_ret
          exact ⟨ret_int Hr.out.symm, u1.tr u4⟩
        | false =>
          have Hr := hid (show checkT l = 0 from by rw [Hck.out, ← hcv, if_neg (by decide)])
          clear hcv
          go_wp2_with fail
          go_ret
          exact ⟨ret_int Hr.out.symm, u1.tr u4⟩

theorem treeCheck_any (w : World) (v : Value) (l : List Queue) (hv : QueuesV w v l) :
    Calls Try.prog 21 #[v] w fun e w' => e = .returned (.int .i64 (checkT l)) ∧ Ext w w' := by
  by_cases h : 1 ≤ l.length ∧ l.length ≤ 5
  · rcases hv with ⟨rfl, a0, c0, rfl, hc0⟩ | ⟨b, off, cap, rfl, h1, h2, h3, h4, h5⟩
    · exact absurd h.1 (by simp)
    · exact treeCheck_some w b off cap l h1 h.2 h.1 h4 h5
  · have hr : checkT l = 2 := by unfold checkT; rw [if_pos h]
    rw [hr]
    obtain ⟨a, cap, rfl, _, _, _⟩ := hv.form
    clear hv hr
    generalize l.length = n at *
    have hmm := @run_makeMap Try.prog
    have hx := hid (fun (o1 o2 o3 o4 : Obj) => (((((Ext.rf w).al o1).al o2).al o3).al o4))
    by_cases h1 : (n : Int) < 1
    · clear h
      go_enter Try.func21, Try.ntmps21
      go_wp2_with fail
      go_ret
      exact ⟨rfl, hx.out _ _ _ _⟩
    · have h2 : (5 : Int) < (n : Int) := by omega
      clear h
      go_enter Try.func21, Try.ntmps21
      go_wp2_with fail
      go_ret
      exact ⟨rfl, hx.out _ _ _ _⟩

end Go.Proofs.Ytchblkemofncoaa
