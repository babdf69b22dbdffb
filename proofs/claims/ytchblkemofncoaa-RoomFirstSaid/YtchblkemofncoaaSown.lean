/- Two books, that the statements write out. -/
import Derived.Test.YtchblkemofncoaaPlot
import Derived.Test.YtchblkemofncoaaRow
import Derived.Test.YtchblkemofncoaaLoadA
set_option linter.unusedVariables false
namespace Go.Proofs.Ytchblkemofncoaa
open Go.RowKit

def sownL : List Book := [⟨1, plotR 1, [⟨0, 8⟩, ⟨1, 10⟩]⟩, ⟨4, ⟨2, 0, 48, 2, [⟨6, 1⟩]⟩, [⟨0, 9⟩]⟩]

/-- where they lie -/
structure SownAt (W : World) (B p1 b1 p2 b2 : Nat) : Prop where
  row : RowAt 137 W B [.int .i64 1, .int .i64 3, .int .i64 2, .int .i64 30, .int .i64 1, .slice (some ⟨p1, 0, none⟩) 2 2, .slice (some ⟨b1, 0, none⟩) 2 2, .int .i64 4, .int .i64 2, .int .i64 0, .int .i64 48, .int .i64 2, .slice (some ⟨p2, 0, none⟩) 1 1, .slice (some ⟨b2, 0, none⟩) 1 1]
  p1 : PiecesV W (.slice (some ⟨p1, 0, none⟩) 2 2) plotL
  b1 : BitesV W (.slice (some ⟨b1, 0, none⟩) 2 2) [⟨0, 8⟩, ⟨1, 10⟩]
  p2 : PiecesV W (.slice (some ⟨p2, 0, none⟩) 1 1) [⟨6, 1⟩]
  b2 : BitesV W (.slice (some ⟨b2, 0, none⟩) 1 1) [⟨0, 9⟩]

theorem SownAt.ext {W W' : World} {B p1 b1 p2 b2 : Nat} (h : SownAt W B p1 b1 p2 b2) (hx : Ext W W') : SownAt W' B p1 b1 p2 b2 :=
  ⟨h.row.ext hx, h.p1.mono hx, h.b1.mono hx, h.p2.mono hx, h.b2.mono hx⟩

theorem SownAt.v {W : World} {B p1 b1 p2 b2 : Nat} (h : SownAt W B p1 b1 p2 b2) : BooksV W (.slice (some ⟨B, 0, none⟩) 2 2) sownL := by
  refine .inr ⟨B, 0, 2, rfl, by decide, by omega, by decide, h.row.lt, fun k x hk => ?_⟩
  rcases k with _ | _ | k
  · cases hk
    refine ⟨[.int .i64 1, .int .i64 3, .int .i64 2, .int .i64 30, .int .i64 1, .slice (some ⟨p1, 0, none⟩) 2 2, .slice (some ⟨b1, 0, none⟩) 2 2], ⟨_, _, rfl, ⟨_, rfl, h.p1, i64_small' (by decide) (by decide), i64_small' (by decide) (by decide), i64_small' (by decide) (by decide), i64_small' (by decide) (by decide)⟩, h.b1, i64_small' (by decide) (by decide)⟩, fun j u hj => ?_⟩
    have hlt := (List.getElem?_eq_some_iff.1 hj).1
    simp only [List.length_cons, List.length_nil] at hlt
    refine h.row.cell ?_
    rw [show 0 + 0 * 7 + j = j by omega]
    rcases (by omega : j = 0 ∨ j = 1 ∨ j = 2 ∨ j = 3 ∨ j = 4 ∨ j = 5 ∨ j = 6) with rfl | rfl | rfl | rfl | rfl | rfl | rfl <;> exact hj
  · cases hk
    refine ⟨[.int .i64 4, .int .i64 2, .int .i64 0, .int .i64 48, .int .i64 2, .slice (some ⟨p2, 0, none⟩) 1 1, .slice (some ⟨b2, 0, none⟩) 1 1], ⟨_, _, rfl, ⟨_, rfl, h.p2, i64_small' (by decide) (by decide), i64_small' (by decide) (by decide), i64_small' (by decide) (by decide), i64_small' (by decide) (by decide)⟩, h.b2, i64_small' (by decide) (by decide)⟩, fun j u hj => ?_⟩
    have hlt := (List.getElem?_eq_some_iff.1 hj).1
    simp only [List.length_cons, List.length_nil] at hlt
    refine h.row.cell ?_
    rw [show 0 + (0 + 1) * 7 + j = 7 + j by omega]
    rcases (by omega : j = 0 ∨ j = 1 ∨ j = 2 ∨ j = 3 ∨ j = 4 ∨ j = 5 ∨ j = 6) with rfl | rfl | rfl | rfl | rfl | rfl | rfl <;> exact hj
  · simp [sownL] at hk

set_option maxRecDepth 100000 in
theorem sown_any (w : World) : Calls Try.prog 105 #[] w fun e w' => ∃ B p1 b1 p2 b2 : Nat, e = .returned (.slice (some ⟨B, 0, none⟩) 2 2) ∧ w.heap.size ≤ B ∧ SownAt w' B p1 b1 p2 b2 ∧ Ext w w' := by
  go_enter Try.func105, Try.ntmps105
  go_wp2_with fail
  refine (plot_any w 1).mono ?_
  rintro e w1 ⟨pb, rfl, hP, hx1⟩
  have HP := hid hP
  have HX := hid hx1
  clear hP hx1
  go_wp2_with fail
  go_ret
  have hB1 := fun (W : World) => bites_lit (w := W) (b := W.heap.size) (n := 2) (cs := #[.int .i64 0, .int .i64 8, .int .i64 1, .int .i64 10]) (t := 54) [⟨0, 8⟩, ⟨1, 10⟩] rfl rfl rfl (by decide) (by decide)
  have hB2 := fun (W : World) => bites_lit (w := W) (b := W.heap.size) (n := 1) (cs := #[.int .i64 0, .int .i64 9]) (t := 54) [⟨0, 9⟩] rfl rfl rfl (by decide) (by decide)
  have hP2 := fun (W : World) => pairs_lit (f := Piece.Len) (g := Piece.N) (w := W) (b := W.heap.size) (n := 1) (cs := #[.int .i64 6, .int .i64 1]) (t := 89) [⟨6, 1⟩] rfl rfl rfl (by decide) (fun r hr => by simp at hr; rcases hr with rfl; exact ⟨i64_small' (by decide) (by decide), i64_small' (by decide) (by decide)⟩)
  have hx := HX.out
  have hp := HP.out
  have hsz := hx.size
  have e1 := ((Ext.rf w1).al (.cells #[.int .i64 0, .int .i64 8, .int .i64 1, .int .i64 10] 54))
  obtain ⟨w2, hw2⟩ : ∃ w2, w1.alloc (.cells #[.int .i64 0, .int .i64 8, .int .i64 1, .int .i64 10] 54) = w2 := ⟨_, rfl⟩
  have s2 : w2.heap.size = w1.heap.size + 1 := by rw [← hw2]; simp
  have b1 := hB1 w1
  rw [hw2] at e1 b1 ⊢
  have e2 := ((Ext.rf w2).al (.cells #[.int .i64 6, .int .i64 1] 89))
  obtain ⟨w3, hw3⟩ : ∃ w3, w2.alloc (.cells #[.int .i64 6, .int .i64 1] 89) = w3 := ⟨_, rfl⟩
  have s3 : w3.heap.size = w2.heap.size + 1 := by rw [← hw3]; simp
  have p2 := hP2 w2
  rw [hw3] at e2 p2 ⊢
  have e3 := ((Ext.rf w3).al (.cells #[.int .i64 0, .int .i64 9] 54))
  obtain ⟨w4, hw4⟩ : ∃ w4, w3.alloc (.cells #[.int .i64 0, .int .i64 9] 54) = w4 := ⟨_, rfl⟩
  have s4 : w4.heap.size = w3.heap.size + 1 := by rw [← hw4]; simp
  have b2 := hB2 w3
  rw [hw4] at e3 b2 ⊢
  rw [s2] at p2
  rw [s3, s2] at b2
  have e4 := fun o => (Ext.rf w4).al o
  refine ⟨w4.heap.size, pb, w1.heap.size, w1.heap.size + 1, w1.heap.size + 1 + 1, by rw [s4, s3, s2]; rfl, by omega, ⟨?_, hp.mono (e1.tr (e2.tr (e3.tr (e4 _)))), b1.mono (e2.tr (e3.tr (e4 _))), PiecesV.mono p2 (e3.tr (e4 _)), b2.mono (e4 _)⟩, hx.tr (e1.tr (e2.tr (e3.tr (e4 _))))⟩
  have := RowAt.new (T := 137) w4 [.int .i64 1, .int .i64 3, .int .i64 2, .int .i64 30, .int .i64 1, .slice (some ⟨pb, 0, none⟩) 2 2, .slice (some ⟨w1.heap.size, 0, none⟩) 2 2, .int .i64 4, .int .i64 2, .int .i64 0, .int .i64 48, .int .i64 2, .slice (some ⟨w1.heap.size + 1, 0, none⟩) 1 1, .slice (some ⟨w1.heap.size + 1 + 1, 0, none⟩) 1 1]
  exact this

end Go.Proofs.Ytchblkemofncoaa
