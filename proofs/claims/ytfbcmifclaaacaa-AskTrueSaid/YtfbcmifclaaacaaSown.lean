/- Two books, that the statements write out. -/
import Derived.Test.YtfbcmifclaaacaaPlot
import Derived.Test.YtfbcmifclaaacaaTab
import Derived.Test.YtfbcmifclaaacaaLoadA
set_option linter.unusedVariables false
namespace Go.Proofs.Ytfbcmifclaaacaa
open Go.RowKit

def sownL : List Book := [⟨1, plotR 1, [⟨0, 8⟩, ⟨1, 10⟩]⟩, ⟨4, ⟨2, 0, 48, 2, [⟨6, 1⟩]⟩, [⟨0, 9⟩]⟩]

/-- where they lie -/
structure SownAt (W : World) (B p1 b1 p2 b2 : Nat) : Prop where
  row : RowAt 40 W B [.int .i64 1, .int .i64 3, .int .i64 2, .int .i64 30, .int .i64 1, .slice (some ⟨p1, 0, none⟩) 2 2, .slice (some ⟨b1, 0, none⟩) 2 2, .int .i64 4, .int .i64 2, .int .i64 0, .int .i64 48, .int .i64 2, .slice (some ⟨p2, 0, none⟩) 1 1, .slice (some ⟨b2, 0, none⟩) 1 1]
  lt : p1 < B ∧ b1 < B ∧ p2 < B ∧ b2 < B
  p1 : PiecesV W (.slice (some ⟨p1, 0, none⟩) 2 2) plotL
  b1 : BitesV W (.slice (some ⟨b1, 0, none⟩) 2 2) [⟨0, 8⟩, ⟨1, 10⟩]
  p2 : PiecesV W (.slice (some ⟨p2, 0, none⟩) 1 1) [⟨6, 1⟩]
  b2 : BitesV W (.slice (some ⟨b2, 0, none⟩) 1 1) [⟨0, 9⟩]

theorem SownAt.ext {W W' : World} {B p1 b1 p2 b2 : Nat} (h : SownAt W B p1 b1 p2 b2) (hx : Ext W W') : SownAt W' B p1 b1 p2 b2 :=
  ⟨h.row.ext hx, h.lt, h.p1.mono hx, h.b1.mono hx, h.p2.mono hx, h.b2.mono hx⟩

theorem SownAt.v {W : World} {B p1 b1 p2 b2 : Nat} (h : SownAt W B p1 b1 p2 b2) : BooksV W (.slice (some ⟨B, 0, none⟩) 2 2) sownL := by
  refine .inr ⟨B, 0, 2, rfl, by decide, by omega, by decide, h.row.lt, fun k x hk => ?_⟩
  rcases k with _ | _ | k
  · cases hk
    refine ⟨[.int .i64 1, .int .i64 3, .int .i64 2, .int .i64 30, .int .i64 1, .slice (some ⟨p1, 0, none⟩) 2 2, .slice (some ⟨b1, 0, none⟩) 2 2], ⟨_, _, rfl, ⟨_, rfl, h.p1, i64_small' (by decide) (by decide), i64_small' (by decide) (by decide), i64_small' (by decide) (by decide), i64_small' (by decide) (by decide)⟩, h.b1, i64_small' (by decide) (by decide)⟩, fun j u hj => ?_⟩
    have hlt := (List.getElem?_eq_some_iff.1 hj).1
    simp only [List.length_cons, List.length_nil] at hlt
    refine h.row.cell ?_
    rw [show 0 + 0 * 7 + j = j by omega]
    rcases (by omega : j = 0 ∨ j = 1 ∨ j = 2 ∨ j = 3 ∨ j = 4 ∨ j = 5 ∨ j = 6) with rfl | rfl | rfl | rfl | rfl | rfl | rfl <;> exact hj
  · cases hk
    refine ⟨[.int .i64 4, .int .i64 2, .int .i64 0, .int .i64 48, .int .i64 2, .slice (some ⟨p2, 0, none⟩) 1 1, .slice (some ⟨b2, 0, none⟩) 1 1], ⟨_, _, rfl, ⟨_, rfl, h.p2, i64_small' (by decide) (by decide), i64_small' (by decide) (by decide), i64_small' (by decide) (by decide), i64_small' (by decide) (by decide)⟩, h.b2, i64_small' (by decide) (by decide)⟩, fun j u hj => ?_⟩
    have hlt := (List.getElem?_eq_some_iff.1 hj).1
    simp only [List.length_cons, List.length_nil] at hlt
    refine h.row.cell ?_
    rw [show 0 + (0 + 1) * 7 + j = 7 + j by omega]
    rcases (by omega : j = 0 ∨ j = 1 ∨ j = 2 ∨ j = 3 ∨ j = 4 ∨ j = 5 ∨ j = 6) with rfl | rfl | rfl | rfl | rfl | rfl | rfl <;> exact hj
  · simp [sownL] at hk

/-- its first book, with no bites -/
def sownN : List Book := [⟨1, plotR 1, []⟩, ⟨4, ⟨2, 0, 48, 2, [⟨6, 1⟩]⟩, [⟨0, 9⟩]⟩]

theorem sv2_set {α : Type} {f g : α → Int} {W : World} {p n c B o : Nat} {u : Value} {xs : List α} (h : SV 2 (E2 f g) W (.slice (some ⟨p, 0, none⟩) n c) xs) (hp : p ≠ B) : SV 2 (E2 f g) (W.setCell ⟨B, o, none⟩ u) (.slice (some ⟨p, 0, none⟩) n c) xs := by
  have hg : W.grownBy (W.setCell ⟨B, o, none⟩ u) (some B) := ⟨rfl, rfl, rfl, (KeepsWalks.setCell W _ u).size, fun k _ hk => Below.heap_setCell _ _ _ k (fun e => hk (by rw [e]))⟩
  rcases h with h | ⟨b, off, cap, e, h1, h2, hl, h3, h4⟩
  · exact .inl h
  · refine .inr ⟨b, off, cap, e, h1, h2, hl, Nat.lt_of_lt_of_le h3 hg.size, fun k x hk => ?_⟩
    cases e
    have hc : ∀ o, (W.setCell ⟨B, _, none⟩ u).cell? ⟨p, o, none⟩ = W.cell? ⟨p, o, none⟩ := fun o => World.cell?_of_block (a := ⟨p, o, none⟩) (hg.block p h3 (fun e => hp (Option.some.inj e)))
    obtain ⟨e1, e2, e3⟩ := h4 k x hk
    exact ⟨by rw [hc]; exact e1, by rw [hc]; exact e2, e3⟩

theorem SownAt.nil {W : World} {B p1 b1 p2 b2 : Nat} (h : SownAt W B p1 b1 p2 b2) : BooksV (W.setCell ⟨B, 6, none⟩ (.slice none 0 0)) (.slice (some ⟨B, 0, none⟩) 2 2) sownN := by
  have hr := h.row.set 6 (.slice none 0 0)
  have q1 : PiecesV (W.setCell ⟨B, 6, none⟩ (.slice none 0 0)) (.slice (some ⟨p1, 0, none⟩) 2 2) plotL := sv2_set h.p1 (by have := h.lt; omega)
  have q2 : PiecesV (W.setCell ⟨B, 6, none⟩ (.slice none 0 0)) (.slice (some ⟨p2, 0, none⟩) 1 1) [⟨6, 1⟩] := sv2_set h.p2 (by have := h.lt; omega)
  have q3 : BitesV (W.setCell ⟨B, 6, none⟩ (.slice none 0 0)) (.slice (some ⟨b2, 0, none⟩) 1 1) [⟨0, 9⟩] := sv2_set h.b2 (by have := h.lt; omega)
  refine .inr ⟨B, 0, 2, rfl, by decide, by omega, by decide, hr.lt, fun k x hk => ?_⟩
  rcases k with _ | _ | k
  · cases hk
    refine ⟨[.int .i64 1, .int .i64 3, .int .i64 2, .int .i64 30, .int .i64 1, .slice (some ⟨p1, 0, none⟩) 2 2, .slice none 0 0], ⟨_, _, rfl, ⟨_, rfl, q1, i64_small' (by decide) (by decide), i64_small' (by decide) (by decide), i64_small' (by decide) (by decide), i64_small' (by decide) (by decide)⟩, SV.nil, i64_small' (by decide) (by decide)⟩, fun j u hj => ?_⟩
    have hlt := (List.getElem?_eq_some_iff.1 hj).1
    simp only [List.length_cons, List.length_nil] at hlt
    refine hr.cell ?_
    rw [show 0 + 0 * 7 + j = j by omega]
    rcases (by omega : j = 0 ∨ j = 1 ∨ j = 2 ∨ j = 3 ∨ j = 4 ∨ j = 5 ∨ j = 6) with rfl | rfl | rfl | rfl | rfl | rfl | rfl <;> exact hj
  · cases hk
    refine ⟨[.int .i64 4, .int .i64 2, .int .i64 0, .int .i64 48, .int .i64 2, .slice (some ⟨p2, 0, none⟩) 1 1, .slice (some ⟨b2, 0, none⟩) 1 1], ⟨_, _, rfl, ⟨_, rfl, q2, i64_small' (by decide) (by decide), i64_small' (by decide) (by decide), i64_small' (by decide) (by decide), i64_small' (by decide) (by decide)⟩, q3, i64_small' (by decide) (by decide)⟩, fun j u hj => ?_⟩
    have hlt := (List.getElem?_eq_some_iff.1 hj).1
    simp only [List.length_cons, List.length_nil] at hlt
    refine hr.cell ?_
    rw [show 0 + (0 + 1) * 7 + j = 7 + j by omega]
    rcases (by omega : j = 0 ∨ j = 1 ∨ j = 2 ∨ j = 3 ∨ j = 4 ∨ j = 5 ∨ j = 6) with rfl | rfl | rfl | rfl | rfl | rfl | rfl <;> exact hj
  · simp [sownN] at hk

end Go.Proofs.Ytfbcmifclaaacaa
