/- Walks of requests: rangeError, shaped; req.Check, CheckReq. -/
import Derived.Test.YtfbcmifclaaacaaReqA
import Derived.Test.YtfbcmifclaaacaaUp
set_option linter.unusedVariables false
namespace Go.Proofs.Ytfbcmifclaaacaa
open Go.RowKit

theorem pieces_at {w : World} {v : Value} {l : List Piece} (hv : PiecesV w v l) (h1 : 1 ≤ l.length) : ∃ b off cap, v = .slice (some ⟨b, off, none⟩) l.length cap ∧ l.length ≤ cap ∧ cap ≤ 9223372036854775807 ∧ b < w.heap.size ∧ ∀ k x, l[k]? = some x → EPiece w b (off + k * 2) x := by
  rcases hv with ⟨rfl, _⟩ | ⟨b, off, cap, rfl, h2, h3, h4, h5, h6⟩
  · simp at h1
  · exact ⟨b, off, cap, rfl, h2, h3, h5, h6⟩

theorem pall_snoc {l : List Piece} {k : Nat} {x : Piece} (h : ∀ j y, j < k → l[j]? = some y → PieceOk y) (hx : l[k]? = some x) (hk : PieceOk x) : ∀ j y, j < k + 1 → l[j]? = some y → PieceOk y := fun j y hj hy => by
  by_cases e : j = k
  · subst e; rw [hx] at hy; rw [← Option.some.inj hy]; exact hk
  · exact h j y (by omega) hy

/-- Check's error, of a request of queues -/
@[irreducible] def reqE (l : List Queue) (r : Request) : Int :=
  if checkT l ≠ 0 then checkT l else if ¬ KindOk r.Kind then 7 else if ¬ ManyOk r then 2 else if ¬ (0 ≤ r.Queue ∧ r.Queue < l.length) then 6 else if ¬ RangeOk r then 3 else 0

theorem reqE_zero {l : List Queue} {r : Request} (h : reqE l r = 0) : checkT l = 0 ∧ ReqOk r ∧ 0 ≤ r.Queue ∧ r.Queue < l.length := by
  unfold reqE at h
  by_cases h0 : checkT l = 0
  · rw [if_neg (fun h' => h' h0)] at h
    by_cases h1 : KindOk r.Kind
    · rw [if_neg (fun h' => h' h1)] at h
      by_cases h2 : ManyOk r
      · rw [if_neg (fun h' => h' h2)] at h
        by_cases h3 : 0 ≤ r.Queue ∧ r.Queue < l.length
        · rw [if_neg (fun h' => h' h3)] at h
          by_cases h4 : RangeOk r
          · exact ⟨h0, ⟨h1, h2, h4⟩, h3.1, h3.2⟩
          · rw [if_pos h4] at h; omega
        · rw [if_pos h3] at h; omega
      · rw [if_pos h2] at h; omega
    · rw [if_pos h1] at h; omega
  · rw [if_pos h0] at h; exact absurd h h0
theorem reqE_ok {l : List Queue} {r : Request} (h0 : checkT l = 0) (h : ReqOk r) (h3 : 0 ≤ r.Queue ∧ r.Queue < l.length) : reqE l r = 0 := by
  unfold reqE
  rw [if_neg (fun h' => h' h0), if_neg (fun h' => h' h.kind), if_neg (fun h' => h' h.many), if_neg (fun h' => h' h3), if_neg (fun h' => h' h.range)]
theorem reqE_tree {l : List Queue} {r : Request} (h0 : checkT l ≠ 0) : reqE l r = checkT l := by unfold reqE; rw [if_pos h0]
/-- the error, where the queues are right -/
theorem reqE_form {l : List Queue} {r : Request} (h0 : checkT l = 0) : reqE l r = if (formR r).2 = false ∧ ¬ (0 ≤ r.Queue ∧ r.Queue < l.length) then 6 else (formR r).1 := by
  unfold reqE
  rw [if_neg (fun h' => h' h0)]
  rcases formR_cases r with ⟨h1, hr⟩ | ⟨h1, h2, hr⟩ | ⟨h1, h2, h3, hr⟩ | ⟨h1, hr⟩
  · rw [hr, if_pos h1, if_neg (fun h => by cases h.1)]
  · rw [hr, if_neg (fun h' => h' h1), if_pos h2, if_neg (fun h => by cases h.1)]
  · rw [hr, if_neg (fun h' => h' h1), if_neg (fun h' => h' h2)]
    by_cases h4 : 0 ≤ r.Queue ∧ r.Queue < l.length
    · rw [if_neg (fun h' => h' h4), if_pos h3, if_neg (fun h => h.2 h4)]
    · rw [if_pos h4, if_pos ⟨rfl, h4⟩]
  · rw [hr, if_neg (fun h' => h' h1.kind), if_neg (fun h' => h' h1.many)]
    by_cases h4 : 0 ≤ r.Queue ∧ r.Queue < l.length
    · rw [if_neg (fun h' => h' h4), if_neg (fun h' => h' h1.range), if_neg (fun h => h.2 h4)]
    · rw [if_pos h4, if_pos ⟨rfl, h4⟩]

set_option maxHeartbeats 1000000 in
theorem reqCheck_any (w : World) (v pv : Value) (l : List Queue) (r : Request) (hl : QueuesV w v l) (hv : PiecesV w pv r.Pieces) :
    Calls Try.prog 65 #[v, .agg #[.int .i64 r.Queue, .int .i64 r.From, .int .i64 r.Until, .int .i64 r.Kind, pv]] w fun e w' => e = .returned (.int .i64 (reqE l r)) ∧ Ext w w' := by
  have hal := hid (fun (o : Obj) => (Ext.rf w).al o)
  have T := hid (fun (W : World) (h : Ext w W) => treeCheck_any W v l (hl.mono h))
  have F := hid (fun (W : World) (h : Ext w W) => Form_any W pv r (hv.mono h))
  obtain ⟨pa, pc, rfl, hpc, _, hpl⟩ := hv.form
  obtain ⟨qa, qc, rfl, hqc, _, hql⟩ := hl.form
  clear hv hl
  by_cases h0 : checkT l = 0
  · have Hf := hid (reqE_form (r := r) h0)
    rw [h0] at T
    obtain ⟨fe, fb, hf⟩ : ∃ fe fb, formR r = (fe, fb) := ⟨_, _, rfl⟩
    rw [hf] at F Hf
    clear h0 hf
    cases fb with
    | true =>
      have Hr := hid (show reqE l r = fe from by rw [Hf.out, if_neg (fun h => by cases h.1)])
      generalize r.Pieces.length = n at *
      generalize l.length = m at *
      go_enter Try.func65, Try.ntmps65
      go_wp2_with fail
      refine (T.out _ (hal.out _)).mono ?_
      rintro e w1 ⟨rfl, hx1⟩
      have hx01 := hid ((hal.out _).tr hx1)
      obtain ⟨_, _, _, _, _⟩ := reqCells hx1
      go_wp2_with fail
      refine (F.out _ hx01.out).mono ?_
      rintro e w2 ⟨rfl, hx2⟩
      obtain ⟨_, _, _, _, _⟩ := reqCells (hx1.tr hx2)
      go_wp2_with fail
      go_ret
      exact ⟨ret_int Hr.out.symm, hx01.out.tr hx2⟩
    | false =>
      by_cases h1 : r.Queue < 0
      · have Hr := hid (show reqE l r = 6 from by rw [Hf.out, if_pos ⟨rfl, fun h => by omega⟩])
        generalize r.Pieces.length = n at *
        generalize l.length = m at *
        go_enter Try.func65, Try.ntmps65
        go_wp2_with fail
        refine (T.out _ (hal.out _)).mono ?_
        rintro e w1 ⟨rfl, hx1⟩
        have hx01 := hid ((hal.out _).tr hx1)
        obtain ⟨_, _, _, _, _⟩ := reqCells hx1
        go_wp2_with fail
        refine (F.out _ hx01.out).mono ?_
        rintro e w2 ⟨rfl, hx2⟩
        obtain ⟨_, _, _, _, _⟩ := reqCells (hx1.tr hx2)
        go_wp2_with fail
        go_ret
        exact ⟨ret_int Hr.out.symm, hx01.out.tr hx2⟩
      · by_cases h2 : (l.length : Int) ≤ r.Queue
        · have Hr := hid (show reqE l r = 6 from by rw [Hf.out, if_pos ⟨rfl, fun h => by omega⟩])
          generalize r.Pieces.length = n at *
          generalize l.length = m at *
          go_enter Try.func65, Try.ntmps65
          go_wp2_with fail
          refine (T.out _ (hal.out _)).mono ?_
          rintro e w1 ⟨rfl, hx1⟩
          have hx01 := hid ((hal.out _).tr hx1)
          obtain ⟨_, _, _, _, _⟩ := reqCells hx1
          go_wp2_with fail
          refine (F.out _ hx01.out).mono ?_
          rintro e w2 ⟨rfl, hx2⟩
          obtain ⟨_, _, _, _, _⟩ := reqCells (hx1.tr hx2)
          go_wp2_with fail
          go_ret
          exact ⟨ret_int Hr.out.symm, hx01.out.tr hx2⟩
        · have Hr := hid (show reqE l r = fe from by rw [Hf.out, if_neg (fun h => h.2 ⟨by omega, by omega⟩)])
          generalize r.Pieces.length = n at *
          generalize l.length = m at *
          go_enter Try.func65, Try.ntmps65
          go_wp2_with fail
          refine (T.out _ (hal.out _)).mono ?_
          rintro e w1 ⟨rfl, hx1⟩
          have hx01 := hid ((hal.out _).tr hx1)
          obtain ⟨_, _, _, _, _⟩ := reqCells hx1
          go_wp2_with fail
          refine (F.out _ hx01.out).mono ?_
          rintro e w2 ⟨rfl, hx2⟩
          obtain ⟨_, _, _, _, _⟩ := reqCells (hx1.tr hx2)
          go_wp2_with fail
          go_ret
          exact ⟨ret_int Hr.out.symm, hx01.out.tr hx2⟩
  · have Hr := hid (reqE_tree (r := r) h0)
    have hne := neT h0
    clear h0
    generalize r.Pieces.length = n at *
    generalize l.length = m at *
    go_enter Try.func65, Try.ntmps65
    go_wp2_with fail
    refine (T.out _ (hal.out _)).mono ?_
    rintro e w1 ⟨rfl, hx1⟩
    go_wp2_with fail
    go_ret
    exact ⟨ret_int Hr.out.symm, (hal.out _).tr hx1⟩

end Go.Proofs.Ytfbcmifclaaacaa
