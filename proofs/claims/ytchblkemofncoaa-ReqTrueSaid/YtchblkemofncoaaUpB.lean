/- slices.Collect of tree.Up; tree.Beneath. -/
import Derived.Test.YtchblkemofncoaaUpA
set_option linter.unusedVariables false
namespace Go.Proofs.Ytchblkemofncoaa
open Go.RowKit

attribute [local go_sem] Oper.semAt_some

theorem KeepB.below {bs : List Nat} {n : Nat} {A B : World} (h : Below n A B) (hn : ∀ j ∈ bs, j < n) : KeepB bs A B := ⟨h.size, fun j hj _ => h.block j (hn j hj)⟩

/-- numbers, as they lie -/
def nums (l : List Nat) : List Value := l.map fun k : Nat => .int .i64 (k : Int)
theorem nums_snoc (l : List Nat) (k : Nat) : nums (l ++ [k]) = nums l ++ [.int .i64 (k : Int)] := by simp [nums]
theorem nums_len (l : List Nat) : (nums l).length = l.length := by simp [nums]

/-- numbers that the call made by appends, as a slice -/
theorem ints_of_owns {w : World} {base e : Nat} {v : Value} {xs : List Nat} (h : w.ownsRow base e 1 v xs.length (nums xs)) (hi : ∀ x ∈ xs, x ≤ 17592186044416) (hl : xs.length ≤ 17592186044416) : IntsV w v (xs.map fun k : Nat => (k : Int)) := by
  obtain ⟨h1, h2⟩ := h
  rcases h2 with ⟨rfl, h2⟩ | ⟨b, cap, cur, rfl, hb, hg, hn, hm, hs, ht⟩
  · obtain rfl := List.eq_nil_of_length_eq_zero h2
    exact .inl ⟨rfl, none, 0, rfl, by omega⟩
  · refine .inr ⟨b, 0, cap, by simp, by simpa using hn, hm, by simpa using hl, (Array.getElem?_eq_some_iff.1 hg).1, fun k x hk => ?_⟩
    rw [List.getElem?_map] at hk
    cases hx : xs[k]? with
    | none => rw [hx] at hk; cases hk
    | some y =>
      rw [hx] at hk
      obtain rfl : (y : Int) = x := by simpa using hk
      have hkl : k < xs.length := (List.getElem?_eq_some_iff.1 hx).1
      have h3 : (nums xs)[k]? = some (.int .i64 (y : Int)) := by simp [nums, hx]
      rw [← ht, List.getElem?_take] at h3
      refine ⟨?_, I64.of (by omega) (by have := hi y (List.mem_of_getElem? hx); omega)⟩
      simp only [World.cell?, hg, Option.isSome_none, Bool.false_eq_true, if_false]
      split at h3
      · simpa using h3
      · cases h3

/-- the state of a loop over Up: what an iterator needs -/
structure UpAt (w : World) (Bl Bq b off cap : Nat) (l : List Queue) (q : Int) : Prop where
  ne1 : Bl ≠ Bq
  ne2 : b ≠ Bq
  pars : ParsOk l
  q1 : -1 ≤ q
  q2 : q < l.length
  l5 : l.length ≤ 5
  boxL : Boxed w Bl 22 (.slice (some ⟨b, off, none⟩) l.length cap)
  boxQ : Boxed w Bq 3 (.int .i64 q)
  hb : b < w.heap.size
  cells : ∀ k x, l[k]? = some x → w.cell? ⟨b, off + k * 3 + 1, none⟩ = some (.int .i64 x.Parent)

theorem UpAt.ext {w w' : World} {Bl Bq b off cap : Nat} {l : List Queue} {q : Int} (h : UpAt w Bl Bq b off cap l q) (hx : Ext w w') : UpAt w' Bl Bq b off cap l q :=
  { h with boxL := (hx.block Bl h.boxL.lt).trans h.boxL, boxQ := (hx.block Bq h.boxQ.lt).trans h.boxQ, hb := Nat.lt_of_lt_of_le h.hb hx.size, cells := fun k x hk => hx.ce' (h.cells k x hk) }

theorem UpAt.seq {w : World} {Bl Bq b off cap : Nat} {l : List Queue} {q : Int} (h : UpAt w Bl Bq b off cap l q) (n : Nat) (hn : 1 ≤ n) :
    SeqOf n Try.prog 107 #[.pointer (some ⟨Bq, 0, none⟩), .pointer (some ⟨Bl, 0, none⟩)] (fun x : Fin l.length => #[Value.int .i64 (x.1 : Int)]) (KeepB [Bl, Bq, b]) (fun xs => xs.map (·.1) = lineL l q) (fun pre => pre.map (·.1) <+: lineL l q) (lineL l q).length Bq w :=
  up_seq n hn Bl Bq b off cap l q h.ne1 h.ne2 h.pars h.q1 h.q2 (by have := h.l5; omega) w h.boxL h.boxQ h.hb h.cells

theorem UpAt.lt {w : World} {Bl Bq b off cap : Nat} {l : List Queue} {q : Int} (h : UpAt w Bl Bq b off cap l q) : ∀ j ∈ [Bl, Bq, b], j < w.heap.size := by
  intro j hj
  simp only [List.mem_cons, List.not_mem_nil, or_false] at hj
  rcases hj with rfl | rfl | rfl
  · exact h.boxL.lt
  · exact h.boxQ.lt
  · exact h.hb

theorem lineL_five {l : List Queue} {q : Int} (hp : ParsOk l) (h2 : q < l.length) (h5 : l.length ≤ 5) : (lineL l q).length ≤ 5 := by
  have := lineL_len hp l.length q (by omega) h2
  omega

theorem Try.info3 : (Try.prog.info? 3).map (fun i => (i.zero, i.size, i.bytes)) = some (some (.int .i64 0), 1, 8) := by kernel_rfl

set_option maxRecDepth 100000 in
set_option maxHeartbeats 2000000 in
theorem appendSeq_up (w0 w : World) (Bl Bq b off cap : Nat) (l : List Queue) (q : Int) (hU : UpAt w Bl Bq b off cap l q) (hx : Ext w0 w) (hBq : w0.heap.size ≤ Bq) :
    Calls Try.prog 106 #[.slice none 0 0, .func (.func 107) #[] #[.pointer (some ⟨Bq, 0, none⟩), .pointer (some ⟨Bl, 0, none⟩)]] w fun e w' =>
      ∃ v, e = .returned v ∧ w'.ownsRow w.heap.size 3 1 v (lineL l q).length (nums (lineL l q)) ∧ Ext w0 w' := by
  obtain ⟨i0, hi, hz0, hz1, hz2⟩ := info_parts Try.info3
  have h5 := lineL_five hU.pars hU.q2 hU.l5
  have hlt := hU.lt
  refine (callsIn_wide (n := 3)).1 ?_
  refine callsIn_of_wp_marks Try.func106 rfl trivial ?_ rfl
  simp only [Try.ntmps106, List.size_toArray, List.length_cons, List.length_nil, Nat.reduceAdd, Nat.reduceSub, Array.replicate_succ, Array.replicate_zero, List.push_toArray, List.append_toArray, List.nil_append, List.cons_append]
  gi_wp2
  have bS := Boxed.new w 23 (.slice none 0 0)
  have hU1 : UpAt (w.alloc (.cells #[.slice none 0 0] 23)) Bl Bq b off cap l q := hU.ext ((Ext.rf w).al _)
  have hqw := hU.boxQ.lt
  have hsz := hx.size
  refine wp_rangeOf (by omega) (gf := 107) (lb := #[.pointer (some ⟨Bq, 0, none⟩), .pointer (some ⟨Bl, 0, none⟩)]) rfl (enters_of Try.func107 (by kernel_rfl) rfl)
    (hU1.seq _ (by omega)) (fun h k => h.tr k) (KeepB.put (n := (w.alloc (.cells #[.slice none 0 0] 23)).heap.size) (fun j hj => by have := hlt j hj; simp; omega)) (Below.refl _ _) (by simp; omega) (fun _ => rfl)
    (fun pre W => (∃ v, Boxed W w.heap.size 23 v ∧ W.ownsRow w.heap.size 3 1 v pre.length (nums (pre.map (·.1))) ∧ True) ∧ Below w0.heap.size w0 W)
    (fun _ _ _ => False)
    (OwnFrom.and (Own.from (holdsRow_own w.heap.size w.heap.size 23 3 1 (fun pre : List (Fin l.length) => pre.length) (fun pre => nums (pre.map (·.1))) (fun _ _ => True)) _) (ownFrom_below (Nat.le_refl _) (by simp; omega)))
    (fun _ _ _ _ _ hs _ _ => hs.elim)
    (fun s A B row hs hg hr => by
      obtain ⟨⟨v, h1, h2, _⟩, h3⟩ := hs
      refine ⟨⟨v, h1.kept hg (fun e => ?_), h2.kept hg ?_, trivial⟩, h3.grown hg h3.size (fun k e => by rw [hr k e]; exact hBq)⟩
      · have := hr _ e.symm; omega
      · cases hob : v.ownBlock with
        | none => exact .inl rfl
        | some g => exact .inr (fun e => by have := hr _ e.symm; have := (h2.lt g hob).1; omega))
    (fun _ _ _ _ _ hs _ _ => hs.elim)
    ⟨⟨_, bS, World.ownsRow_nil _ _ _ _, trivial⟩, hx.al _⟩
    (fun x => { tmps := #[.slice none 0 0, .func (.func 107) #[] #[.pointer (some ⟨Bq, 0, none⟩), .pointer (some ⟨Bl, 0, none⟩)], .pointer (some ⟨w.heap.size, 0, none⟩), undef, .slice none 0 0, .int .i64 (x.1 : Int), .func (.func 107) #[] #[.pointer (some ⟨Bq, 0, none⟩), .pointer (some ⟨Bl, 0, none⟩)], .int .i64 (x.1 : Int), undef, undef, undef, undef, undef], defers := [] }) ?assign ?body ?done ?stop
  case assign =>
    intro y x W K hK
    gi_wp2
    exact hK
  case body =>
    rintro y pre x W ⟨⟨v, hv, hrow, _⟩, hB⟩ hlen
    have hc := hv.cell
    have hnw : w.heap.size ≤ W.heap.size := Nat.le_of_lt hv.lt
    gi_wp2_with (gi_at_builtin; refine wpListIn_append_own _ rfl _ _ 23 rfl w.heap.size 3 i0 (.int .i64 0) 1 8 Try.underlying23 hi hz0 hz1 hz2 rfl (by decide) _ _ _ rfl (hrow.alloc _) ⟨W.heap.size, 0, none⟩ 1 1 [.int .i64 (x.1 : Int)] rfl rfl (cell_one_new _ _ _) (by simp [Value.oneCell']) (by unfold maxLen; omega) (by omega) (by simp; omega) ?_; intro v' w1 hown' hgrow _; obtain ⟨g', cap', rfl⟩ := ownsRow_succ hown'; obtain ⟨hv1, hv2, hr2, hk2, hb2⟩ := hv.appended (by decide) hrow hnw (Nat.le_refl _) hown' hgrow; have hc1 := hv1.cell; have hf1 := hv1.frozen)
    exact ⟨hk2.from _, KeepB.below hb2 hlt, ⟨_, hv2, by simpa [nums] using hr2, trivial⟩, hB.trans (hb2.mono hsz)⟩
  case done =>
    rintro D ys W hD hys ⟨⟨v, hv, hrow, _⟩, hB⟩ hK
    have hc := hv.cell
    have Hys := hid hys
    clear hys
    gi_wp2
    refine ⟨by simp, .inl ⟨_, _, rfl, run_takeDeferred hK, ?_⟩⟩
    exact ⟨_, results_tmp rfl _ _ _, v, rfl, by rw [← Hys.out]; simpa [nums] using ownsRow_putObj hrow _ hK rfl, hB.trans (belowK_b (w := w0) (Nat.le_refl _) W D _ _ (by simp at hD; omega) hK rfl rfl)⟩
  case stop =>
    rintro D c pre W _ _ h _
    exact h.elim

theorem collect_up (w0 w : World) (Bl Bq b off cap : Nat) (l : List Queue) (q : Int) (hU : UpAt w Bl Bq b off cap l q) (hx : Ext w0 w) (hBq : w0.heap.size ≤ Bq) :
    Calls Try.prog 60 #[.func (.func 107) #[] #[.pointer (some ⟨Bq, 0, none⟩), .pointer (some ⟨Bl, 0, none⟩)]] w fun e w' =>
      ∃ v, e = .returned v ∧ w'.ownsRow w.heap.size 3 1 v (lineL l q).length (nums (lineL l q)) ∧ Ext w0 w' := by
  have C := hid (appendSeq_up w0 w Bl Bq b off cap l q hU hx hBq)
  go_enter Try.func60, Try.ntmps60
  go_wp2_with fail
  refine C.out.mono ?_
  rintro e w1 ⟨v, rfl, hv⟩
  have Hv := hid hv
  clear hv
  go_wp2_with fail
  go_ret
  exact ⟨v, rfl, Hv.out⟩

end Go.Proofs.Ytchblkemofncoaa
