/- The laws on room: roomBegun is true; RoomFirst. -/
import Derived.Test.YtoclbapkgfmphaaRoom
import Derived.Test.YtoclbapkgfmphaaSown
import Derived.Test.YtoclbapkgfmphaaLawR
import Derived.Test.YtoclbapkgfmphaaFind
import Derived.Test.YtoclbapkgfmphaaRefD
import Derived.WalkSpells
import Derived.StillTactics
import Derived.Tactics2
set_option linter.unusedVariables false
namespace Go.Proofs.Ytoclbapkgfmphaa
open Go.RowKit

theorem sownC : booksE (fieldL 10 0 6) sownL = 0 := by
  have m1 : meetsR (plotR 1) [⟨0, 8⟩, ⟨1, 10⟩] = true := by rw [meetsR_dec]; decide +kernel
  have m2 : meetsR ⟨2, 0, 48, 2, [⟨6, 1⟩]⟩ [⟨0, 9⟩] = true := by rw [meetsR_dec]; decide +kernel
  have q2 : reqE (fieldL 10 0 6) ⟨2, 0, 48, 2, [⟨6, 1⟩]⟩ = 0 := reqE_ok fieldC (by decide +kernel) (by decide)
  rw [booksE_first fieldC (by decide)]
  show firstE _ (⟨1, plotR 1, [⟨0, 8⟩, ⟨1, 10⟩]⟩ :: ⟨4, ⟨2, 0, 48, 2, [⟨6, 1⟩]⟩, [⟨0, 9⟩]⟩ :: []) = 0
  rw [firstE_ok plotC m1, firstE_ok q2 m2]
  rfl

def roomL3 : List Run := [⟨0, 8⟩, ⟨8, 5⟩, ⟨10, -1⟩, ⟨12, 2⟩, ⟨15, 8⟩, ⟨20, 4⟩]
theorem roomV3 : roomR (fieldL 10 0 6) sownL 3 = (roomL3, 0) := by
  rw [roomR_ok sownC (by decide)]
  decide +kernel
theorem roomV4 : roomR (fieldL 10 0 6) sownL 4 = ([], 6) := roomR_none sownC (by decide)
theorem roomV1 : firstOfR roomL3 1 48 10 4 = (15, true, 0) := by unfold firstOfR seekR; decide +kernel
theorem roomV2 : firstOfR roomL3 0 48 24 5 = (0, false, 0) := by unfold firstOfR seekR; decide +kernel
theorem roomV5 : firstOfR roomL3 5 5 1 1 = (0, false, 3) := by unfold firstOfR seekR; decide +kernel

theorem roomOf_is {w : World} {v bv : Value} {l : List Queue} {b : List Book} {q : Int} {f : List Run} {n : Int} (h : roomR l b q = (f, n)) (hl : QueuesV w v l) (hb : BooksV w bv b) :
    Calls Try.prog 21 #[v, bv, .int .i64 q] w fun e w' => ∃ u, e = .returned (.tuple #[u, .int .i64 n]) ∧ RunsV w' u f ∧ Ext w w' := by
  have := RoomOf_any w v bv l b q hl hb; rw [h] at this; exact this
theorem First_is {w : World} {v : Value} {f : List Run} {a u s n : Int} {t e : Int} {b : Bool} (h : firstOfR f a u s n = (t, b, e)) (hv : RunsV w v f) :
    Calls Try.prog 26 #[v, .int .i64 a, .int .i64 u, .int .i64 s, .int .i64 n] w fun x w' => x = .returned (.tuple #[.int .i64 t, .bool b, .int .i64 e]) ∧ Ext w w' := by
  have := First_any w v f a u s n hv; rw [h] at this; exact this
theorem sameRuns_is {w : World} {vf vg : Value} {f g : List Run} {b : Bool} (h : decide (f = g) = b) (hf : RunsV w vf f) (hg : RunsV w vg g) :
    Calls Try.prog 20 #[vf, vg] w fun e w' => e = .returned (.bool b) ∧ Ext w w' := by
  have := SameRuns_any w vf vg f g hf hg; rw [h] at this; exact this

set_option maxRecDepth 100000 in
set_option maxHeartbeats 4000000 in
theorem roomBegun_true (w : World) : Calls Try.prog 23 #[] w fun e w' => e = .returned (.bool true) ∧ Ext w w' := by
  go_enter Try.func23, Try.ntmps23
  go_wp2_with fail
  refine (field_ex _).mono ?_
  rintro e w1 ⟨B1, rfl, F1, hx1⟩
  have HF1 := hid F1
  have X1 := hid hx1
  clear F1 hx1
  go_wp2_with fail
  refine (sown_any _).mono ?_
  rintro e w2 ⟨B2, p1, b1, p2, b2, rfl, _, S2, hx2⟩
  have HS2 := hid S2
  have X12 := hid hx2
  clear S2 hx2
  go_wp2_with fail
  refine (roomOf_is roomV3 ((HF1.out.ext X12.out).v (i64_small' (by decide) (by decide)) (i64_small' (by decide) (by decide)) (i64_small' (by decide) (by decide))) HS2.out.v).mono ?_
  rintro e w3 ⟨u, rfl, hu, hx3⟩
  obtain ⟨ub, uo, uc, rfl, _⟩ := runs_cells hu (by decide)
  have HU := hid hu
  have X3 := hid (X1.out.tr (X12.out.tr hx3))
  clear hu hx3 HF1 HS2 X1 X12
  generalize roomL3.length = un at *
  go_wp2_with fail
  refine (First_is roomV1 HU.out).mono ?_
  rintro e w4 ⟨rfl, hx4⟩
  have X34 := hid hx4
  clear hx4
  go_wp2_with fail
  refine (First_is roomV2 (HU.out.mono X34.out)).mono ?_
  rintro e w5 ⟨rfl, hx5⟩
  have X35 := hid (X34.out.tr hx5)
  clear hx5 X34
  go_wp2_with fail
  refine (field_ex _).mono ?_
  rintro e w6 ⟨B3, rfl, F3, hx6⟩
  have HF3 := hid F3
  have X36 := hid (X35.out.tr hx6)
  clear F3 hx6 X35
  go_wp2_with fail
  refine (sown_any _).mono ?_
  rintro e w7 ⟨B4, p3, b3, p4, b4, rfl, _, S4, hx7⟩
  have HS4 := hid S4
  have X67 := hid hx7
  clear S4 hx7
  go_wp2_with fail
  refine (roomOf_is roomV4 ((HF3.out.ext X67.out).v (i64_small' (by decide) (by decide)) (i64_small' (by decide) (by decide)) (i64_small' (by decide) (by decide))) HS4.out.v).mono ?_
  rintro e w8 ⟨u4, rfl, _, hx8⟩
  have X38 := hid (X36.out.tr (X67.out.tr hx8))
  clear hx8 HF3 HS4 X36 X67
  go_wp2_with fail
  refine (First_is roomV5 (HU.out.mono X38.out)).mono ?_
  rintro e w9 ⟨rfl, hx9⟩
  have X39 := hid (X38.out.tr hx9)
  clear hx9 X38
  go_wp2_with fail
  refine (sameRuns_is (f := roomL3) (g := roomL3) (b := true) (by decide) (HU.out.mono (X39.out.al _)) (runs_lit (w := w9) roomL3 rfl rfl rfl (by decide) (lit_nums (by decide +kernel)))).mono ?_
  rintro e wa ⟨rfl, hxa⟩
  have XA := hid (X3.out.tr (X39.out.tr (((Ext.rf w9).al _).tr hxa)))
  clear hxa X39
  go_wp2_with fail
  go_ret
  exact ⟨rfl, XA.out⟩

end Go.Proofs.Ytoclbapkgfmphaa
