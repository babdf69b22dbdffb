/- Walks: tree.There, Line; the reference's QueueError, LineOf. -/
import Derived.Test.YtchblkemofncoaaUpB
import Derived.Test.YtchblkemofncoaaTreeH
set_option linter.unusedVariables false
namespace Go.Proofs.Ytchblkemofncoaa
open Go.RowKit

theorem any_false {n : Nat} {p : Nat → Bool} (h : (List.range n).any p = false) : ∀ k, k < n → p k = false := fun k hk => by
  have := List.any_eq_false.1 h k (List.mem_range.2 hk)
  simpa using this

/-- right queues -/
structure TreeOk (l : List Queue) : Prop where
  n1 : 1 ≤ l.length
  n5 : l.length ≤ 5
  names : ∀ k, k < l.length → NameOk (nm l k)
  diff : ∀ i k, i < k → k < l.length → nm l i ≠ nm l k
  pars : ParsOk l
  caps : ∀ k, k < l.length → CapOk (cp l k)

theorem checkT_ok {l : List Queue} (h : checkT l = 0) : TreeOk l := by
  unfold checkT at h
  by_cases h1 : ¬ (1 ≤ l.length ∧ l.length ≤ 5)
  · rw [if_pos h1] at h; omega
  rw [if_neg h1] at h
  by_cases h2 : (List.range l.length).any (p2 l) = true
  · rw [if_pos h2] at h; omega
  rw [if_neg h2] at h
  by_cases h3 : (List.range l.length).any (p3 l) = true
  · rw [if_pos h3] at h; omega
  rw [if_neg h3] at h
  by_cases h4 : (List.range l.length).any (p4 l) = true
  · rw [if_pos h4] at h; omega
  rw [if_neg h4] at h
  by_cases h5 : (List.range l.length).any (p5 l) = true
  · rw [if_pos h5] at h; omega
  have g2 := any_false (Bool.eq_false_iff.2 h2)
  have g3 := any_false (Bool.eq_false_iff.2 h3)
  have g4 := any_false (Bool.eq_false_iff.2 h4)
  have g5 := any_false (Bool.eq_false_iff.2 h5)
  exact {
    n1 := by omega
    n5 := by omega
    names := fun k hk => Classical.byContradiction fun h => by have := g2 k hk; unfold p2 at this; exact of_decide_eq_false this h
    diff := fun i k hi hk e => by have := g3 k hk; rw [p3_true hi e] at this; cases this
    pars := fun k hk => Classical.byContradiction fun h => by have := g4 k hk; unfold p4 at this; rw [deF h] at this; cases this
    caps := fun k hk => Classical.byContradiction fun h => by have := g5 k hk; unfold p5 at this; exact of_decide_eq_false this h }

theorem checkT_ne {l : List Queue} (h : ¬ (1 ≤ l.length ∧ l.length ≤ 5)) : checkT l = 2 := by unfold checkT; rw [if_pos h]
theorem checkT_nums (l : List Queue) : 0 ≤ checkT l ∧ checkT l ≤ 5 := by
  unfold checkT; repeat' split
  all_goals omega

/-- Check's error, and ErrNone -/
@[irreducible] def queueE (l : List Queue) (q : Int) : Int := if checkT l = 0 then (if 0 ≤ q ∧ q < l.length then 0 else 6) else checkT l
theorem queueE_bad {l : List Queue} {q : Int} (h : checkT l ≠ 0) : queueE l q = checkT l := by unfold queueE; rw [if_neg h]
theorem queueE_none {l : List Queue} {q : Int} (h : checkT l = 0) (hq : ¬ (0 ≤ q ∧ q < l.length)) : queueE l q = 6 := by unfold queueE; rw [if_pos h, if_neg hq]
theorem queueE_ok {l : List Queue} {q : Int} (h : checkT l = 0) (hq : 0 ≤ q ∧ q < l.length) : queueE l q = 0 := by unfold queueE; rw [if_pos h, if_pos hq]
theorem queueE_zero {l : List Queue} {q : Int} (h : queueE l q = 0) : checkT l = 0 ∧ 0 ≤ q ∧ q < l.length := by
  by_cases h1 : checkT l = 0
  · by_cases h2 : 0 ≤ q ∧ q < l.length
    · exact ⟨h1, h2⟩
    · rw [queueE_none h1 h2] at h; omega
  · rw [queueE_bad h1] at h; exact absurd h h1

theorem There_any (w : World) (v : Value) (l : List Queue) (q : Int) (hv : QueuesV w v l) :
    Calls Try.prog 59 #[v, .int .i64 q] w fun e w' => e = .returned (.int .i64 (queueE l q)) ∧ Ext w w' := by
  have C := hid (treeCheck_any w v l hv)
  obtain ⟨a, cap, rfl, _, _, _⟩ := hv.form
  clear hv
  by_cases h : checkT l = 0
  · have Hs : ∀ e, (e = 0 ↔ 0 ≤ q ∧ q < l.length) → (e = 0 ∨ e = 6) → queueE l q = e := fun e h1 h2 => by
      by_cases hq : 0 ≤ q ∧ q < l.length
      · rw [queueE_ok h hq, h1.2 hq]
      · rw [queueE_none h hq]; rcases h2 with h2 | h2
        · exact absurd (h1.1 h2) hq
        · exact h2.symm
    have HS := hid Hs
    rw [h] at C
    clear h Hs
    by_cases h1 : q < 0
    · have Hr := hid (HS.out 6 ⟨fun h => by omega, fun h => by omega⟩ (.inr rfl))
      generalize l.length = n at *
      go_enter Try.func59, Try.ntmps59
      go_wp2_with fail
      refine C.out.mono ?_
      rintro e w1 ⟨rfl, hx⟩
      go_wp2_with fail
      go_ret
      exact ⟨ret_int Hr.out.symm, hx⟩
    · by_cases h2 : (l.length : Int) ≤ q
      · have Hr := hid (HS.out 6 ⟨fun h => by omega, fun h => by omega⟩ (.inr rfl))
        generalize l.length = n at *
        go_enter Try.func59, Try.ntmps59
        go_wp2_with fail
        refine C.out.mono ?_
        rintro e w1 ⟨rfl, hx⟩
        go_wp2_with fail
        go_ret
        exact ⟨ret_int Hr.out.symm, hx⟩
      · have Hr := hid (HS.out 0 ⟨fun h => by omega, fun h => rfl⟩ (.inl rfl))
        generalize l.length = n at *
        go_enter Try.func59, Try.ntmps59
        go_wp2_with fail
        refine C.out.mono ?_
        rintro e w1 ⟨rfl, hx⟩
        go_wp2_with fail
        go_ret
        exact ⟨ret_int Hr.out.symm, hx⟩
  · have Hr := hid (queueE_bad (q := q) h)
    have hne := neT h
    clear h
    generalize l.length = n at *
    go_enter Try.func59, Try.ntmps59
    go_wp2_with fail
    refine C.out.mono ?_
    rintro e w1 ⟨rfl, hx⟩
    go_wp2_with fail
    go_ret
    exact ⟨ret_int Hr.out.symm, hx⟩

theorem QueueError_any (w : World) (v : Value) (l : List Queue) (q : Int) (hv : QueuesV w v l) :
    Calls Try.prog 17 #[v, .int .i64 q] w fun e w' => e = .returned (.int .i64 (queueE l q)) ∧ Ext w w' := by
  have C := hid (CheckTree_any w v l hv)
  obtain ⟨a, cap, rfl, _, _, hl⟩ := hv.form
  clear hv
  by_cases h : checkT l = 0
  · by_cases hq : 0 ≤ q ∧ q < l.length
    · have W1 := hid (fun (W : World) => within_yes q 0 ((l.length : Int) - 1) W hq.1 (by omega))
      have Hr := hid (queueE_ok h hq)
      rw [h] at C
      clear h hq
      generalize l.length = n at *
      go_enter Try.func17, Try.ntmps17
      go_wp2_with fail
      refine C.out.mono ?_
      rintro e w1 ⟨rfl, hx⟩
      go_wp2_with fail
      refine (W1.out _).mono ?_
      rintro e w2 ⟨rfl, rfl⟩
      go_wp2_with fail
      go_ret
      exact ⟨ret_int Hr.out.symm, hx⟩
    · have W1 := hid (fun (W : World) => within_no q 0 ((l.length : Int) - 1) W (fun h => hq ⟨h.1, by omega⟩))
      have Hr := hid (queueE_none h hq)
      rw [h] at C
      clear h hq
      generalize l.length = n at *
      go_enter Try.func17, Try.ntmps17
      go_wp2_with fail
      refine C.out.mono ?_
      rintro e w1 ⟨rfl, hx⟩
      go_wp2_with fail
      refine (W1.out _).mono ?_
      rintro e w2 ⟨rfl, rfl⟩
      go_wp2_with fail
      go_ret
      exact ⟨ret_int Hr.out.symm, hx⟩
  · have Hr := hid (queueE_bad (q := q) h)
    have hne := neT h
    clear h
    generalize l.length = n at *
    go_enter Try.func17, Try.ntmps17
    go_wp2_with fail
    refine C.out.mono ?_
    rintro e w1 ⟨rfl, hx⟩
    go_wp2_with fail
    go_ret
    exact ⟨ret_int Hr.out.symm, hx⟩

/-- queues that are there: where they lie -/
theorem queues_at {w : World} {v : Value} {l : List Queue} (hv : QueuesV w v l) (h1 : 1 ≤ l.length) : ∃ b off cap, v = .slice (some ⟨b, off, none⟩) l.length cap ∧ l.length ≤ cap ∧ cap ≤ 9223372036854775807 ∧ b < w.heap.size ∧ ∀ k x, l[k]? = some x → EQueue w b (off + k * 3) x := by
  rcases hv with ⟨rfl, _⟩ | ⟨b, off, cap, rfl, h2, h3, h4, h5, h6⟩
  · simp at h1
  · exact ⟨b, off, cap, rfl, h2, h3, h5, h6⟩

theorem upAt_new (w : World) (b off cap : Nat) (l : List Queue) (q : Int) (hp : ParsOk l) (hq1 : -1 ≤ q) (hq2 : q < l.length) (h5 : l.length ≤ 5) (hb : b < w.heap.size) (hE : ∀ k x, l[k]? = some x → EQueue w b (off + k * 3) x) :
    UpAt ((w.alloc (.cells #[.slice (some ⟨b, off, none⟩) l.length cap] 22)).alloc (.cells #[.int .i64 q] 3)) w.heap.size (w.heap.size + 1) b off cap l q := by
  have hx := ((Ext.rf w).al (.cells #[.slice (some ⟨b, off, none⟩) l.length cap] 22)).al (.cells #[.int .i64 q] 3)
  refine { ne1 := by omega, ne2 := by omega, pars := hp, q1 := hq1, q2 := hq2, l5 := h5, boxL := (Boxed.new w _ _).alloc _, boxQ := ?_, hb := Nat.lt_of_lt_of_le hb hx.size, cells := fun k x hk => ?_ }
  · have := Boxed.new (w.alloc (.cells #[.slice (some ⟨b, off, none⟩) l.length cap] 22)) 3 (.int .i64 q)
    rwa [World.size_alloc] at this
  · exact hx.ce' (hE k x hk).2.2.1

/-- a queue's line, and an error -/
@[irreducible] def lineR (l : List Queue) (q : Int) : List Int × Int := if queueE l q = 0 then ((lineL l q).map fun k : Nat => (k : Int), 0) else ([], queueE l q)
theorem lineR_ok {l : List Queue} {q : Int} (h : queueE l q = 0) : lineR l q = ((lineL l q).map fun k : Nat => (k : Int), 0) := by unfold lineR; rw [if_pos h]
theorem lineR_bad {l : List Queue} {q : Int} (h : queueE l q ≠ 0) : lineR l q = ([], queueE l q) := by unfold lineR; rw [if_neg h]

def RetInts2 (w : World) (r : List Int × Int) (e : Ending) (w' : World) : Prop := ∃ v, e = .returned (.tuple #[v, .int .i64 r.2]) ∧ IntsV w' v r.1 ∧ Ext w w'
theorem retInts2_of {w w' : World} {r : List Int × Int} {l : List Int} {n : Int} {v : Value} (h : r = (l, n)) (hv : IntsV w' v l) (hx : Ext w w') : RetInts2 w r (.returned (.tuple #[v, .int .i64 n])) w' := by
  subst h; exact ⟨v, rfl, hv, hx⟩

theorem line_ints {l : List Queue} {q : Int} (hp : ParsOk l) (h2 : q < l.length) (h5 : l.length ≤ 5) : (∀ x ∈ lineL l q, x ≤ 17592186044416) ∧ (lineL l q).length ≤ 17592186044416 :=
  ⟨fun x hx => by have := lineL_lt hp l.length q (by omega) h2 x hx; omega, by have := lineL_five hp h2 h5; omega⟩

theorem Line_any (w : World) (v : Value) (l : List Queue) (q : Int) (hv : QueuesV w v l) : Calls Try.prog 15 #[v, .int .i64 q] w (RetInts2 w (lineR l q)) := by
  have C := hid (There_any w v l q hv)
  by_cases h : queueE l q = 0
  · obtain ⟨h1, h2, h3⟩ := queueE_zero h
    have ok := checkT_ok h1
    have Hr := hid (lineR_ok h)
    have hli := line_ints ok.pars h3 ok.n5
    obtain ⟨b, off, cap, rfl, hcap, hc9, hb, hE⟩ := queues_at hv ok.n1
    have U := hid (fun (W : World) (hx : Ext w W) => upAt_new W b off cap l q ok.pars (by omega) h3 ok.n5 (Nat.lt_of_lt_of_le hb hx.size) (fun k x hk => EQueue.mono w W b _ x hx (hE k x hk)))
    have HI := hid hli
    rw [h] at C
    clear h h1 ok hli hv hE
    generalize hn : l.length = n at *
    have Hn := hid hn
    clear hn
    go_enter Try.func15, Try.ntmps15
    go_wp2_with fail
    refine C.out.mono ?_
    rintro e w1 ⟨rfl, hx⟩
    go_wp2_with fail
    refine (Up_any w1 _ _ _ _).mono ?_
    rintro e w2 ⟨rfl, rfl⟩
    have hsz := hx.size
    have HU := U.out w1 hx
    have hx2 := hid ((hx.al (.cells #[.slice (some ⟨b, off, none⟩) n cap] 22)).al (.cells #[.int .i64 q] 3))
    go_wp2_with fail
    refine (collect_up w _ _ _ b off cap l q HU hx2.out (by omega)).mono ?_
    rintro e w3 ⟨v, rfl, hown, hx3⟩
    have Hown := hid hown
    clear hown HU
    go_wp2_with fail
    go_ret2
    exact retInts2_of Hr.out (ints_of_owns Hown.out HI.out.1 HI.out.2) hx3
  · have Hr := hid (lineR_bad h)
    have hne := neT h
    obtain ⟨a, cap, rfl, _, _, hl⟩ := hv.form
    clear h hv
    generalize l.length = n at *
    go_enter Try.func15, Try.ntmps15
    go_wp2_with fail
    refine C.out.mono ?_
    rintro e w1 ⟨rfl, hx⟩
    go_wp2_with fail
    go_ret2
    exact retInts2_of Hr.out SV.nil hx

theorem one1 (k : IntKind) (a : Int) : ∀ u ∈ [Value.int k a], u.oneCell' = true := by simp [Value.oneCell']
theorem new1 (W : World) {B : Nat} (hB : B = W.heap.size) (a : Value) (t : TypeId) : ∀ (j : Nat) u, [a][j]? = some u → (W.alloc (.cells #[a] t)).cell? ((⟨B, 0, none⟩ : Addr).add j) = some u := by
  subst hB; exact cell_one_new W a t

set_option maxRecDepth 100000 in
set_option maxHeartbeats 1000000 in
theorem LineOf_own (w : World) (v : Value) (l : List Queue) (q : Int) (hv : QueuesV w v l) (hp : ParsOk l) (h5 : l.length ≤ 5) (hq1 : 0 ≤ q) (hq2 : q < l.length) :
    Calls Try.prog 18 #[v, .int .i64 q] w fun e w' => ∃ v, e = .returned v ∧ IntsV w' v ((lineL l q).map fun k : Nat => (k : Int)) ∧ Ext w w' := by
  obtain ⟨ii, ii1, ii2, ii3, ii4⟩ := info_parts Try.info3
  obtain ⟨b, off, cap, rfl, hcap, hc9, hb, hE⟩ := queues_at hv (by omega)
  have HI := hid (line_ints hp hq2 h5)
  have hl5 := lineL_five hp hq2 h5
  have Hp := hid hp
  have HE := hid hE
  clear hv hp hE
  generalize hn : l.length = n at *
  have Hn := hid hn
  clear hn
  go_enter Try.func18, Try.ntmps18
  go_wp2_with fail
  go_loopw [1, 5] (fun c v wr => ∃ (pre : List Nat) (x : Int), c = .int .i64 x ∧ -1 ≤ x ∧ x < n ∧ Hid (pre ++ lineL l x = lineL l q) ∧ Hid (wr.ownsRow w.heap.size 3 1 v pre.length (nums pre)) ∧ Ext w wr) (fun c _ _ => (intOf c + 1).toNat)
  case atStart => exact ⟨[], q, rfl, by omega, by omega, hid rfl, World.ownsRow_nil _ _ _ _, Ext.rf _⟩
  case round =>
    obtain ⟨pre, x, rfl, hx1, hx2, HL, Hown, hx⟩ := hrel
    have hlen : pre.length + (lineL l x).length = (lineL l q).length := by rw [← HL.out, List.length_append]
    have hsz := hx.size
    by_cases h : 0 ≤ x
    · obtain ⟨k, rfl⟩ : ∃ k : Nat, x = k := ⟨x.toNat, by omega⟩
      have hkl : k < l.length := by rw [Hn.out]; omega
      obtain ⟨y, hyk⟩ := getQ (l := l) (k := k) hkl
      obtain ⟨_, e2, _⟩ := at_some hyk
      have hpk := Hp.out k hkl
      rw [e2] at hpk
      obtain ⟨hpk1, hpk2⟩ := hpk
      have HS := hid (show (pre ++ [k]) ++ lineL l y.Parent = lineL l q from by rw [← HL.out, lineL_pos Hp.out hkl, e2]; simp)
      have hcell := (EQueue.mono w wr b _ y hx (HE.out k y hyk)).2.2.1
      have HC := hid (EQueue.mono w wr b _ y hx (HE.out k y hyk)).2.2.1
      have hpl : pre.length + 1 ≤ 5 := by
        have : 1 ≤ (lineL l (k : Int)).length := by rw [lineL_pos Hp.out hkl]; simp
        omega
      have hown := Hown.out
      have hbw : b < wr.heap.size := by omega
      have HX := hid hyk
      clear e2 hyk HL hlen
      go_wp2_with (at_builtin; refine wpList_append_own _ rfl _ _ 23 rfl w.heap.size 3 ii _ 1 8 Try.underlying23 ii1 ii2 ii3 ii4 rfl (by decide) _ _ _ rfl (hown.alloc _) ⟨wr.heap.size, 0, none⟩ 1 1 [.int .i64 (k : Int)] rfl rfl (new1 _ rfl _ _) (one1 _ _) (by unfold maxLen; omega) (by omega) (by simp; omega) ?_)
      intro v2 W2 hown2 hgrow2 hnil2
      have hx2' := (hx.al (.cells #[.int .i64 (k : Int)] 3)).gr hgrow2 (fun k hk => own_lt hown k hk)
      have hcell2 := (EQueue.mono w W2 b _ y hx2' (HE.out k y HX.out)).2.2.1
      go_wp2_with fail
      go_roundw
      case rel => exact ⟨pre ++ [k], y.Parent, rfl, hpk1, by omega, HS, hid (by rw [nums_snoc, List.length_append]; exact hown2), hx2'⟩
      case measure => simp [intOf]; omega
    · have hL := hid (show pre = lineL l q from by rw [← HL.out, lineL_neg (by omega), List.append_nil])
      clear HL
      go_wp2_with fail
      go_ret
      refine ⟨_, rfl, ints_of_owns (by rw [← hL.out]; exact Hown.out) HI.out.1 HI.out.2, hx⟩

end Go.Proofs.Ytchblkemofncoaa
