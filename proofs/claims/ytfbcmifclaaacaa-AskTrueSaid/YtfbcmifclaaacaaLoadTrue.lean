/- The law LoadTrue. -/
import Derived.Test.YtfbcmifclaaacaaLawL
import Derived.Test.YtfbcmifclaaacaaOpens
import Derived.Deep.RegionHeldLaw
set_option linter.unusedVariables false
namespace Go.Proofs.Ytfbcmifclaaacaa
open Go.RowKit Go.ChangeShapes Go.WideShapes Go.Deep

/-! ### plainly: one of them set forward -/
def otherL (b : List Book) (o : Nat) (x : Book) : List Book := (x :: b.take o) ++ b.drop (o + 1)
theorem other_parts {b : List Book} {o : Nat} {x : Book} (h : b[o]? = some x) : b = b.take o ++ (x :: b.drop (o + 1)) := by
  obtain ⟨hk, e⟩ := List.getElem?_eq_some_iff.1 h
  rw [← e, ← List.drop_eq_getElem_cons hk, List.take_append_drop]
theorem other_mem {b : List Book} {o : Nat} {x : Book} (h : b[o]? = some x) : ∀ y ∈ otherL b o x, y ∈ b := fun y hy => by
  rw [other_parts h]
  unfold otherL at hy
  simp only [List.mem_append, List.mem_cons] at hy ⊢
  rcases hy with (h | h) | h
  · exact .inr (.inl h)
  · exact .inl h
  · exact .inr (.inr h)
theorem other_len {b : List Book} {o : Nat} {x : Book} (h : b[o]? = some x) : (otherL b o x).length = b.length := by
  have e := congrArg List.length (other_parts h)
  rw [e]; unfold otherL; simp; omega
theorem other_taken {l : List Queue} {b : List Book} {o : Nat} {x : Book} (h : b[o]? = some x) (q t : Nat) : takenT l (otherL b o x) q t = takenT l b q t := by
  have e : takenT l b q t = takenT l (b.take o ++ (x :: b.drop (o + 1))) q t := by rw [← other_parts h]
  rw [e]
  unfold otherL
  rw [takenT_append, takenT_append]
  simp only [takenT]
  omega
theorem other_less {l : List Queue} {b : List Book} {o : Nat} {x : Book} (h : b[o]? = some x) (hok : ∀ y ∈ b, BookOk l y) (q t : Nat) : takenT l ((otherL b o x).drop 1) q t ≤ takenT l b q t := by
  have e := other_taken (l := l) h q t
  have hx := book_num (hok x (List.mem_of_getElem? h)) t
  have e2 : takenT l (otherL b o x) q t = (if under l x.Req.Queue q = true then takesT x t else 0) + takenT l ((otherL b o x).drop 1) q t := rfl
  split at e2 <;> omega
theorem other_loads {l : List Queue} {b : List Book} {o : Nat} {x : Book} (h : b[o]? = some x) : loadsL l (otherL b o x) = loadsL l b := by
  unfold loadsL
  exact List.map_congr_left fun q _ => fold_congr fun t _ => other_taken h q t
theorem fits_less {l : List Queue} {b : List Book} {o f : Nat} {x : Book} (h : b[o]? = some x) (hok : ∀ y ∈ b, BookOk l y) (hf : FitsT l b f) : FitsT l ((otherL b o x).drop 1) f := fun s h1 h2 p hp => by
  have a := hf s h1 h2 p hp
  have c := other_less (l := l) h hok p s
  unfold leftT at *
  omega
theorem fits_later {l : List Queue} {b : List Book} {f g : Nat} (h : f ≤ g) (hf : FitsT l b f) : FitsT l b g := fun s h1 h2 p hp => hf s (by omega) h2 p hp

/-- what a queue takes, its Parent takes -/
theorem line_par {l : List Queue} (hp : ParsOk l) {q p : Nat} (hq : q < l.length) (he : par l q = (p : Int)) : ∀ (n : Nat) (r : Int), r < n → r < l.length → q ∈ lineL l r → p ∈ lineL l r
  | n, r, h1, h2, hm => by
    by_cases h : r < 0
    · rw [lineL_neg h] at hm; cases hm
    · obtain ⟨k, rfl⟩ := Int.eq_ofNat_of_zero_le (by omega : 0 ≤ r)
      have hk : k < l.length := by omega
      have hpk := hp k hk
      rw [lineL_pos hp hk] at hm ⊢
      rcases List.mem_cons.1 hm with e | hm
      · subst e
        have hpl : p < q := by have := hpk.2; omega
        rw [he, lineL_pos hp (by omega)]
        exact List.mem_cons_of_mem _ (List.mem_cons_self ..)
      · cases n with
        | zero => omega
        | succ n => exact List.mem_cons_of_mem _ (line_par hp hq he n (par l k) (by have := hpk.2; omega) (by have := hpk.2; omega) hm)
theorem taken_par {l : List Queue} (hp : ParsOk l) {q p : Nat} (hq : q < l.length) (he : par l q = (p : Int)) (t : Nat) : ∀ (b : List Book), (∀ x ∈ b, BookOk l x) → takenT l b q t ≤ takenT l b p t
  | [], _ => by simp [takenT]
  | x :: b, hok => by
    have ih := taken_par hp hq he t b (fun y hy => hok y (List.mem_cons_of_mem _ hy))
    have hx := hok x (List.mem_cons_self ..)
    have hn := book_num hx t
    have hq1 := hx.q1
    have key : under l x.Req.Queue q = true → under l x.Req.Queue p = true := fun h => under_mem.1 (line_par hp hq he l.length _ hq1 hq1 (under_mem.2 h))
    simp only [takenT]
    by_cases h1 : under l x.Req.Queue q = true
    · rw [if_pos h1, if_pos (key h1)]; omega
    · rw [if_neg h1]
      split <;> omega

/-! ### the cells of books -/
theorem flat7 {α : Type} : ∀ (css : List (List α)), (∀ cs ∈ css, cs.length = 7) → ∀ k j, j < 7 → css.flatten[k * 7 + j]? = (css[k]?).bind (fun cs => cs[j]?)
  | [], _, k, j, _ => by simp
  | cs :: css, h, k, j, hj => by
    have h1 := h cs (List.mem_cons_self ..)
    rw [List.flatten_cons]
    cases k with
    | zero =>
      rw [Nat.zero_mul, Nat.zero_add, List.getElem?_append_left (by omega)]
      rfl
    | succ k =>
      rw [List.getElem?_append_right (by omega), h1, show (k + 1) * 7 + j - 7 = k * 7 + j by omega, flat7 css (fun c hc => h c (List.mem_cons_of_mem _ hc)) k j hj]
      rfl
theorem flat7_len {α : Type} : ∀ (css : List (List α)), (∀ cs ∈ css, cs.length = 7) → css.flatten.length = css.length * 7
  | [], _ => rfl
  | cs :: css, h => by
    rw [List.flatten_cons, List.length_append, h cs (List.mem_cons_self ..), flat7_len css (fun c hc => h c (List.mem_cons_of_mem _ hc)), List.length_cons]
    omega

/-- these are the cells of these books -/
structure Cells7 (w : World) (css : List (List Value)) (b : List Book) : Prop where
  len : css.length = b.length
  each : ∀ (k : Nat) (cs : List Value) (x : Book), css[k]? = some cs → b[k]? = some x → BookC w cs x

theorem bookC_len {w : World} {cs : List Value} {x : Book} (h : BookC w cs x) : cs.length = 7 := by
  obtain ⟨qs, bv, rfl, ⟨pv, rfl, _⟩, _⟩ := h
  rfl
theorem bookC_one {w : World} {cs : List Value} {x : Book} (h : BookC w cs x) : ∀ u ∈ cs, u.oneCell' = true := by
  obtain ⟨qs, bv, rfl, ⟨pv, rfl, hp, _⟩, hb, _⟩ := h
  obtain ⟨a, c, rfl, _⟩ := hp.form
  obtain ⟨a2, c2, rfl, _⟩ := hb.form
  simp [Value.oneCell']
theorem Cells7.seven {w : World} {css : List (List Value)} {b : List Book} (h : Cells7 w css b) : ∀ cs ∈ css, cs.length = 7 := fun cs hc => by
  obtain ⟨k, hk⟩ := List.mem_iff_getElem?.1 hc
  have hkl := (List.getElem?_eq_some_iff.1 hk).1
  obtain ⟨x, hx⟩ := getA (f := b) (k := k) (by rw [← h.len]; exact hkl)
  exact bookC_len (h.each k cs x hk hx)
theorem Cells7.one {w : World} {css : List (List Value)} {b : List Book} (h : Cells7 w css b) : ∀ u ∈ css.flatten, u.oneCell' = true := fun u hu => by
  obtain ⟨cs, hc, hu⟩ := List.mem_flatten.1 hu
  obtain ⟨k, hk⟩ := List.mem_iff_getElem?.1 hc
  have hkl := (List.getElem?_eq_some_iff.1 hk).1
  obtain ⟨x, hx⟩ := getA (f := b) (k := k) (by rw [← h.len]; exact hkl)
  exact bookC_one (h.each k cs x hk hx) u hu
theorem Cells7.mono {w w' : World} {css : List (List Value)} {b : List Book} (h : Cells7 w css b) (hx : Ext w w') : Cells7 w' css b :=
  ⟨h.len, fun k cs x h1 h2 => (h.each k cs x h1 h2).mono hx⟩
theorem Cells7.append {w : World} {css dss : List (List Value)} {b c : List Book} (h : Cells7 w css b) (g : Cells7 w dss c) : Cells7 w (css ++ dss) (b ++ c) := by
  refine ⟨by rw [List.length_append, List.length_append, h.len, g.len], fun k cs x h1 h2 => ?_⟩
  by_cases hk : k < css.length
  · rw [List.getElem?_append_left hk] at h1
    rw [List.getElem?_append_left (by rw [← h.len]; exact hk)] at h2
    exact h.each k cs x h1 h2
  · rw [List.getElem?_append_right (by omega)] at h1
    rw [List.getElem?_append_right (by rw [← h.len]; omega), ← h.len] at h2
    exact g.each _ cs x h1 h2
theorem Cells7.single {w : World} {cs : List Value} {x : Book} (h : BookC w cs x) : Cells7 w [cs] [x] := by
  refine ⟨rfl, fun k c y h1 h2 => ?_⟩
  cases k with
  | zero => cases h1; cases h2; exact h
  | succ k => simp at h1

theorem books_cells {w : World} {a : Option Addr} {z c : Nat} {b : List Book} (h : BooksV w (.slice a z c) b) : ∃ css, Cells7 w css b ∧ (1 ≤ b.length → ∃ ad, a = some ad ∧ ∀ j u, css.flatten[j]? = some u → w.cell? (ad.add j) = some u) := by
  rcases h with ⟨rfl, _⟩ | ⟨b0, off, cap, e, h1, h2, h3, h4, h5⟩
  · exact ⟨[], ⟨rfl, fun k cs x h => by simp at h⟩, fun h => by simp at h⟩
  · cases e
    have each : ∀ i, i < b.length → ∃ cs : List Value, ∀ x, b[i]? = some x → BookC w cs x ∧ ∀ (j : Nat) u, cs[j]? = some u → w.cell? ⟨b0, off + i * 7 + j, none⟩ = some u := fun i hi => by
      obtain ⟨x, hx⟩ := getA (f := b) (k := i) hi
      obtain ⟨cs, hc1, hc2⟩ := h5 i x hx
      exact ⟨cs, fun y hy => by rw [hx] at hy; cases hy; exact ⟨hc1, hc2⟩⟩
    obtain ⟨f, hf⟩ := choose_lt (α := List Value) (p := fun i cs => ∀ x, b[i]? = some x → BookC w cs x ∧ ∀ (j : Nat) u, cs[j]? = some u → w.cell? ⟨b0, off + i * 7 + j, none⟩ = some u) each
    have hget : ∀ k cs, ((List.range b.length).map f)[k]? = some cs → k < b.length ∧ cs = f k := fun k cs hk => by
      rw [List.getElem?_map] at hk
      by_cases hkl : k < b.length
      · rw [List.getElem?_range hkl] at hk
        exact ⟨hkl, by simpa using hk.symm⟩
      · rw [List.getElem?_eq_none (by simpa using hkl)] at hk
        cases hk
    have hC : Cells7 w ((List.range b.length).map f) b := ⟨by simp, fun k cs x h1 h2 => by
      obtain ⟨hk, rfl⟩ := hget k cs h1
      exact (hf k hk x h2).1⟩
    refine ⟨_, hC, fun _ => ⟨_, rfl, fun j u hj => ?_⟩⟩
    have e : j = j / 7 * 7 + j % 7 := by omega
    rw [e, flat7 _ hC.seven (j / 7) (j % 7) (by omega)] at hj
    cases hc : ((List.range b.length).map f)[j / 7]? with
    | none => rw [hc] at hj; cases hj
    | some cs =>
      rw [hc] at hj
      obtain ⟨hk, rfl⟩ := hget _ cs hc
      obtain ⟨x, hx⟩ := getA (f := b) (k := j / 7) hk
      have := (hf _ hk x hx).2 (j % 7) u hj
      rw [addr_add]
      rwa [show off + j / 7 * 7 + j % 7 = off + j by omega] at this

/-- a row that owns these cells holds the books -/
theorem books_of_owns {w : World} {base T : Nat} {v : Value} {css : List (List Value)} {b : List Book} (h : w.ownsRow base T 7 v b.length css.flatten) (hc : Cells7 w css b) (hn : b.length ≤ 12) : BooksV w v b := by
  rcases h.2 with ⟨rfl, h0⟩ | ⟨g, cap, cur, rfl, hb, hg, hcp, hm, hcs, htk⟩
  · exact .inl ⟨List.eq_nil_of_length_eq_zero h0, none, 0, rfl, by omega⟩
  · refine .inr ⟨g, 0, cap, rfl, hcp, by unfold maxLen at hm; omega, by omega, (Array.getElem?_eq_some_iff.1 hg).1, fun k x hk => ?_⟩
    have hkb := (List.getElem?_eq_some_iff.1 hk).1
    obtain ⟨cs, hcs'⟩ := getA (f := css) (k := k) (by rw [hc.len]; exact hkb)
    refine ⟨cs, hc.each k cs x hcs' hk, fun j u hj => ?_⟩
    have h7 := hc.seven cs (List.mem_of_getElem? hcs')
    have hj7 : j < 7 := by have := (List.getElem?_eq_some_iff.1 hj).1; omega
    have e : css.flatten[k * 7 + j]? = some u := by rw [flat7 css hc.seven k j hj7, hcs']; exact hj
    have := h.cells (g := g) rfl (k * 7 + j) u e
    rw [addr_add] at this
    rwa [show 0 + (k * 7 + j) = 0 + k * 7 + j by omega] at this

theorem cells_at {w : World} {ad : Addr} {m c : Nat} {b : List Book} (h : BooksV w (.slice (some ad) m c) b) (hm : b.length = m) : ∃ css, Cells7 w css b ∧ css.flatten.length = m * 7 ∧ ∀ j u, css.flatten[j]? = some u → w.cell? (ad.add j) = some u := by
  obtain ⟨css, h1, h2⟩ := books_cells h
  refine ⟨css, h1, by rw [flat7_len css h1.seven, h1.len, hm], fun j u hj => ?_⟩
  by_cases h0 : 1 ≤ b.length
  · obtain ⟨ad', e, h3⟩ := h2 h0
    cases e
    exact h3 j u hj
  · have : css = [] := List.eq_nil_of_length_eq_zero (by rw [h1.len]; omega)
    subst this
    simp at hj

theorem own_lit7 (W : World) (cs : List Value) (T : TypeId) (h : cs.length = 7) : (W.alloc (.cells cs.toArray T)).ownsRow W.heap.size T 7 (.slice (some ⟨W.heap.size, 0, none⟩) 1 1) 1 cs :=
  ⟨by omega, .inr ⟨W.heap.size, 1, cs.toArray, rfl, Nat.le_refl _, heap_alloc_new W _, Nat.le_refl _, by decide, by simp [h], by simp [h, List.take_of_length_le]⟩⟩
theorem own_some7 {w : World} {base e sz n : Nat} {v : Value} {xs : List Value} (h : w.ownsRow base e sz v n xs) (hn : 1 ≤ n) : ∃ g cap, v = .slice (some ⟨g, 0, none⟩) n cap := by
  rcases h.2 with ⟨_, h0⟩ | ⟨g, cap, _, rfl, _⟩
  · omega
  · exact ⟨g, cap, rfl⟩

theorem step_append_own {P : Program} {ops : Array Oper} {o : Oper} {a : Act} {w : World} {K : Act → World → Prop} {Q : Exit → Act → World → Prop} {E : Prop} (hgd : o.guard = none) (s x : Operand) (t : TypeId)
    (ho : o.op = .call { callee := .builtin .append, args := #[s, x], argTypes := #[t, t] })
    (base : Nat) (e : TypeId) (i : TypeInfo) (z : Value) (size bytes : Nat) (ht : P.underlying t = some (.slice e)) (hi : P.info? e = some i) (hz : i.zero = some z)
    (hsize : i.size = size) (hby : i.bytes = bytes) (hzs : z.cells.size = size) (hsz : 0 < size)
    (v : Value) (n : Nat) (xs : List Value) (hs : a.eval s = v) (hown : w.ownsRow base e size v n xs)
    (ad : Addr) (m c : Nat) (news : List Value) (hx : a.eval x = .slice (some ad) m c) (hl : news.length = m * size) (hnews : ∀ j u, news[j]? = some u → w.cell? (ad.add j) = some u) (h1 : ∀ u ∈ news, u.oneCell' = true)
    (h63 : n + m ≤ maxLen) (hbytes : (n + m) * bytes ≤ 140737488355328) (hbase : base ≤ w.heap.size)
    (h : ∀ v' w', w'.ownsRow base e size v' (n + m) (xs ++ news) → w.grownBy w' v.ownBlock → K (a.put o.dst v') w') :
    if Region.wanted o (yielded ops a.tmps) = true then Oper.wp P o a w K Q else E := by
  have hw : Region.wanted o (yielded ops a.tmps) = true := by simp [Region.wanted, hgd]
  rw [if_pos hw]
  exact wp_append_own w s x t ho base e i z size bytes ht hi hz hsize hby hzs hsz v n xs hs hown ad m c news hx hl hnews h1 h63 hbytes hbase fun v' w' h2 h3 _ => h v' w' h2 h3

theorem keep7 {w1 w' : World} {a1 a2 a3 a4 a5 a6 a7 : Addr} {a b c d e f g : Value} (hx : Ext w1 w') (b0 : w1.cell? a1 = some a) (b1 : w1.cell? a2 = some b) (b2 : w1.cell? a3 = some c) (b3 : w1.cell? a4 = some d) (b4 : w1.cell? a5 = some e) (b5 : w1.cell? a6 = some f) (b6 : w1.cell? a7 = some g) :
    w'.cell? a1 = some a ∧ w'.cell? a2 = some b ∧ w'.cell? a3 = some c ∧ w'.cell? a4 = some d ∧ w'.cell? a5 = some e ∧ w'.cell? a6 = some f ∧ w'.cell? a7 = some g := by
  have k : ∀ {a : Addr} {v : Value}, w1.cell? a = some v → w'.cell? a = some v := fun {a v} h => by
    rw [hx.cell (World.block_lt_of_cell? w1 a h)]; exact h
  exact ⟨k b0, k b1, k b2, k b3, k b4, k b5, k b6⟩
theorem fits_val {l : List Queue} {b : List Book} {f : Nat} (h : booksE l b = 0) (hf : f ≤ 48) : ∃ d, fitsR l b (f : Int) = (d, 0) ∧ (d = true ↔ FitsT l b f) := by
  have e := fitsR_ok (f := (f : Int)) h ⟨by omega, by omega⟩
  rw [Int.toNat_natCast] at e
  refine ⟨_, e, ?_⟩
  by_cases g : FitsT l b f
  · rw [too_no g]; simp [g]
  · rw [too_yes g]; simp [g]

theorem ext_ceA {w w' : World} (hx : Ext w w') {a : Addr} {v : Value} (h : w.cell? a = some v) : w'.cell? a = some v := by
  rw [hx.cell (World.block_lt_of_cell? w a h)]; exact h


theorem Try.info40 : (Try.prog.info? 40).map (fun i => (i.zero, i.size, i.bytes)) = some (some (.agg #[.int .i64 0, .int .i64 0, .int .i64 0, .int .i64 0, .int .i64 0, .slice none 0 0, .slice none 0 0]), 7, 88) := by kernel_rfl

end Go.Proofs.Ytfbcmifclaaacaa

