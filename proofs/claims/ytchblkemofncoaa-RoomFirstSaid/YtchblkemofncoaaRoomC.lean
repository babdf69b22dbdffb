/- Walk of room.Of. -/
import Derived.Test.YtchblkemofncoaaRoomB
set_option linter.unusedVariables false
namespace Go.Proofs.Ytchblkemofncoaa
open Go.RowKit

/-- room, and an error -/
@[irreducible] noncomputable def roomR (l : List Queue) (b : List Book) (q : Int) : List Run × Int := if booksE l b = 0 then if 0 ≤ q ∧ q < l.length then (fold (roomT l b q), 0) else ([], 6) else ([], booksE l b)
theorem roomR_bad {l : List Queue} {b : List Book} {q : Int} (h : booksE l b ≠ 0) : roomR l b q = ([], booksE l b) := by unfold roomR; rw [if_neg h]
theorem roomR_none {l : List Queue} {b : List Book} {q : Int} (h : booksE l b = 0) (h2 : ¬ (0 ≤ q ∧ q < l.length)) : roomR l b q = ([], 6) := by unfold roomR; rw [if_pos h, if_neg h2]
theorem roomR_ok {l : List Queue} {b : List Book} {q : Int} (h : booksE l b = 0) (h2 : 0 ≤ q ∧ q < l.length) : roomR l b q = (fold (roomT l b q), 0) := by unfold roomR; rw [if_pos h, if_pos h2]

set_option maxRecDepth 100000 in
set_option maxHeartbeats 2000000 in
theorem RoomOf_any (w : World) (v bv : Value) (l : List Queue) (b : List Book) (q : Int) (hl : QueuesV w v l) (hb : BooksV w bv b) :
    Calls Try.prog 104 #[v, bv, .int .i64 q] w (RetRuns2 w (roomR l b q)) := by
  have C := hid (loadCheck_any w v bv l b hl hb)
  by_cases h : booksE l b = 0
  · obtain ⟨ok, _, h12, hbok⟩ := booksE_zero h
    rw [h] at C
    by_cases hq : 0 ≤ q ∧ q < l.length
    · have Hr := hid (roomR_ok h hq)
      have I := hid (fun (W : World) (hx : Ext w W) => RoomIn_any W v bv l b q (hl.mono hx) (hb.mono hx) ok hbok h12 hq.1 hq.2)
      obtain ⟨a, cap, rfl, _, _, hl5⟩ := hl.form
      obtain ⟨ba, bc, rfl, _, _, _⟩ := hb.form
      obtain ⟨hq1, hq2⟩ := hq
      have hq1' : ¬ q < 0 := by omega
      have hq2' : ¬ (l.length : Int) ≤ q := by omega
      clear hl hb h ok hbok
      generalize l.length = n at *
      generalize b.length = z at *
      go_enter Try.func104, Try.ntmps104
      go_wp2_with fail
      refine C.out.mono ?_
      rintro e w1 ⟨rfl, hx⟩
      go_wp2_with fail
      refine (I.out _ hx).mono ?_
      rintro e w2 ⟨u, rfl, hu, hx2⟩
      obtain ⟨ua, uc, rfl, _, _, _⟩ := hu.form
      go_wp2_with fail
      go_ret2
      exact retRuns2_of Hr.out hu (hx.tr hx2)
    · have Hr := hid (roomR_none h hq)
      obtain ⟨a, cap, rfl, _, _, hl5⟩ := hl.form
      obtain ⟨ba, bc, rfl, _, _, _⟩ := hb.form
      clear hl hb h ok hbok
      generalize l.length = n at *
      generalize b.length = z at *
      by_cases h0 : q < 0
      · clear hq
        go_enter Try.func104, Try.ntmps104
        go_wp2_with fail
        refine C.out.mono ?_
        rintro e w1 ⟨rfl, hx⟩
        go_wp2_with fail
        go_ret2
        exact retRuns2_of Hr.out SV.nil hx
      · have h1 : (n : Int) ≤ q := by omega
        clear hq
        go_enter Try.func104, Try.ntmps104
        go_wp2_with fail
        refine C.out.mono ?_
        rintro e w1 ⟨rfl, hx⟩
        go_wp2_with fail
        go_ret2
        exact retRuns2_of Hr.out SV.nil hx
  · have Hr := hid (roomR_bad (q := q) h)
    have hne := neT h
    obtain ⟨a, cap, rfl, _, _, hl5⟩ := hl.form
    obtain ⟨ba, bc, rfl, _, _, _⟩ := hb.form
    clear hl hb h
    generalize booksE l b = be at *
    generalize l.length = n at *
    generalize b.length = z at *
    go_enter Try.func104, Try.ntmps104
    go_wp2_with fail
    refine C.out.mono ?_
    rintro e w1 ⟨rfl, hx⟩
    go_wp2_with fail
    go_ret2
    exact retRuns2_of Hr.out SV.nil hx

end Go.Proofs.Ytchblkemofncoaa
