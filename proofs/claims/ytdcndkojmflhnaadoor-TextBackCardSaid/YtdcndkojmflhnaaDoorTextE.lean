/- The lines of a text, and what is read line by line: plain laws. -/
import Derived.Test.YtdcndkojmflhnaaDoorTextP
set_option linter.unusedVariables false
set_option linter.unusedSimpArgs false
set_option maxRecDepth 100000
set_option maxHeartbeats 4000000
namespace Go.Proofs.YtdcndkojmflhnaaDoor
open Go.RowKit
theorem byte_room (s : By) (c : UInt8) : Lib.indexByte s c = -1 ∨ ∃ k : Nat, Lib.indexByte s c = k ∧ k < s.length := by
  have h1 := Lib.indexByte_ge s c
  by_cases h : Lib.indexByte s c = -1
  · exact .inl h
  · obtain ⟨k, hk⟩ : ∃ k : Nat, Lib.indexByte s c = k := ⟨(Lib.indexByte s c).toNat, by omega⟩
    have h2 := (Lib.indexByte_some hk).1
    exact .inr ⟨k, hk, (List.getElem?_eq_some_iff.1 h2).1⟩
theorem line_miss {s : By} (h : Lib.indexByte s 10 = -1) : headL s = s ∧ restL s = [] := by
  unfold headL restL; rw [h]; simp
theorem line_hit {s : By} {k : Nat} (h : Lib.indexByte s 10 = k) : headL s = s.take (k + 1) ∧ restL s = s.drop (k + 1) := by
  unfold headL restL
  rw [h, if_pos (by omega), if_pos (by omega), Int.toNat_natCast]
  exact ⟨rfl, rfl⟩
theorem restL_lt {s : By} (h : s ≠ []) : (restL s).length < s.length := by
  have h1 := List.length_pos_iff.2 h
  rcases byte_room s 10 with hm | ⟨k, hk, hlt⟩
  · rw [(line_miss hm).2]; simpa using h1
  · rw [(line_hit hk).2]; simp; omega
theorem headL_le (s : By) : (headL s).length ≤ s.length := by
  rcases byte_room s 10 with hm | ⟨k, hk, hlt⟩
  · rw [(line_miss hm).1]; exact Nat.le_refl _
  · rw [(line_hit hk).1]; simp; omega
def linesF : Nat → By → List By
  | 0, _ => []
  | f + 1, s => if s = [] then [] else headL s :: linesF f (restL s)
theorem linesF_fuel : ∀ (f g : Nat) (s : By), s.length ≤ f → s.length ≤ g → linesF f s = linesF g s
  | 0, 0, _, _, _ => rfl
  | 0, g + 1, s, h, _ => by
    have : s = [] := List.eq_nil_of_length_eq_zero (by omega)
    subst this; simp [linesF]
  | f + 1, 0, s, _, h => by
    have : s = [] := List.eq_nil_of_length_eq_zero (by omega)
    subst this; simp [linesF]
  | f + 1, g + 1, s, h1, h2 => by
    by_cases hs : s = []
    · simp [linesF, hs]
    · have := restL_lt hs
      rw [linesF, linesF, if_neg hs, if_neg hs, linesF_fuel f g _ (by omega) (by omega)]
/-- the lines of a text -/
def linesOf (s : By) : List By := linesF s.length s
theorem linesOf_nil : linesOf [] = [] := rfl
theorem linesOf_step {s : By} (h : s ≠ []) : linesOf s = headL s :: linesOf (restL s) := by
  have h1 := List.length_pos_iff.2 h
  have h2 := restL_lt h
  unfold linesOf
  obtain ⟨n, hn⟩ : ∃ n, s.length = n + 1 := ⟨s.length - 1, by omega⟩
  rw [hn, linesF, if_neg h, linesF_fuel n (restL s).length _ (by omega) (Nat.le_refl _)]
theorem linesF_len : ∀ (f : Nat) (s : By), (linesF f s).length ≤ f
  | 0, _ => by simp [linesF]
  | f + 1, s => by
    rw [linesF]; split
    · simp
    · have := linesF_len f (restL s); simp; omega
theorem linesOf_len (s : By) : (linesOf s).length ≤ s.length := linesF_len _ _
theorem linesF_mem : ∀ (f : Nat) (s : By), ∀ x ∈ linesF f s, x.length ≤ s.length
  | 0, _, x, h => by simp [linesF] at h
  | f + 1, s, x, h => by
    rw [linesF] at h
    by_cases hs : s = []
    · rw [if_pos hs] at h; cases h
    · rw [if_neg hs] at h
      rcases List.mem_cons.1 h with rfl | h
      · exact headL_le s
      · have := linesF_mem f (restL s) x h
        have := restL_lt hs; omega
theorem linesOf_mem {s : By} : ∀ x ∈ linesOf s, x.length ≤ s.length := linesF_mem _ _
/-- lines, read -/
def readLs : List Queue → List By → Option (List Queue)
  | l, [] => some l
  | l, x :: xs => match lineQ l (Lib.trimSuffix x [10]) with
    | none => none
    | some q => readLs (l ++ [q]) xs
theorem readGo_lines : ∀ (f : Nat) (l : List Queue) (s : By), readGo f l s = readLs l (linesF f s)
  | 0, l, s => rfl
  | f + 1, l, s => by
    rw [readGo, linesF]
    by_cases hs : s = []
    · rw [if_pos hs, if_pos hs]; rfl
    · rw [if_neg hs, if_neg hs]
      show _ = (match lineQ l (Lib.trimSuffix (headL s) [10]) with | none => none | some q => readLs (l ++ [q]) (linesF f (restL s)))
      cases lineQ l (Lib.trimSuffix (headL s) [10]) with
      | none => rfl
      | some q => exact readGo_lines f _ _
theorem readL_lines (s : By) : readL s = readLs [] (linesOf s) := readGo_lines _ _ _
theorem readLs_app : ∀ (pre xs : List By) (l : List Queue), readLs l (pre ++ xs) = (readLs l pre).bind (fun l' => readLs l' xs)
  | [], xs, l => rfl
  | x :: pre, xs, l => by
    show (match lineQ l (Lib.trimSuffix x [10]) with | none => none | some q => readLs (l ++ [q]) (pre ++ xs)) = (match lineQ l (Lib.trimSuffix x [10]) with | none => none | some q => readLs (l ++ [q]) pre).bind _
    cases lineQ l (Lib.trimSuffix x [10]) with
    | none => rfl
    | some q => exact readLs_app pre xs _
theorem readLs_one {pre : List By} {l : List Queue} {x : By} {q : Queue} (h : readLs [] pre = some l) (hq : lineQ l (Lib.trimSuffix x [10]) = some q) : readLs [] (pre ++ [x]) = some (l ++ [q]) := by
  rw [readLs_app, h]
  show readLs l [x] = _
  simp [readLs, hq]
theorem readLs_bad {pre post : List By} {l : List Queue} {x : By} (h : readLs [] pre = some l) (hq : lineQ l (Lib.trimSuffix x [10]) = none) : readLs [] (pre ++ x :: post) = none := by
  rw [readLs_app, h]
  show readLs l (x :: post) = none
  simp [readLs, hq]
theorem readLs_len : ∀ (xs : List By) (l l' : List Queue), readLs l xs = some l' → l'.length = l.length + xs.length
  | [], l, l', h => by cases h; simp
  | x :: xs, l, l', h => by
    simp only [readLs] at h
    cases hq : lineQ l (Lib.trimSuffix x [10]) with
    | none => rw [hq] at h; cases h
    | some q =>
      rw [hq] at h
      have := readLs_len xs _ _ h
      simp at this ⊢; omega
end Go.Proofs.YtdcndkojmflhnaaDoor
