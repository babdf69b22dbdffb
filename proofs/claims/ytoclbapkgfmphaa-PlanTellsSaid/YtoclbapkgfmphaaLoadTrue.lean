/- The law LoadTrue. -/
import Derived.Test.YtoclbapkgfmphaaLawL
import Derived.Test.YtoclbapkgfmphaaOpens
import Derived.Deep.RegionHeldLaw
set_option linter.unusedVariables false
namespace Go.Proofs.Ytoclbapkgfmphaa
open Go.RowKit Go.ChangeShapes Go.WideShapes Go.Deep

/-! ### plainly: one of them set forward -/
def otherL (b : List Book) (o : Nat) (x : Book) : List Book := (x :: b.take o) ++ b.drop (o + 1)
theorem other_parts {b : List Book} {o : Nat} {x : Book} (h : b[o]? = some x) : b = b.take o ++ (x :: b.drop (o + 1)) := by
  obtain ⟨hk, e⟩ := List.getElem?_eq_some_iff.1 h
  rw [← e, ← List.drop_eq_getElem_cons hk, List.take_append_drop]
theorem other_mem {b : List Book} {o : Nat} {x : Book} (h : b[o]? = some x) : ∀ y ∈ otherL b o x, y ∈ b := fun y hy => by
  rw [other_parts h]
  unfold otherL at hy
  simp only [List.mem_append, List.mem_cons] at hy ⊢
  rcases hy with (h | h) | h
  · exact .inr (.inl h)
  · exact .inl h
  · exact .inr (.inr h)
theorem other_len {b : List Book} {o : Nat} {x : Book} (h : b[o]? = some x) : (otherL b o x).length = b.length := by
  have e := congrArg List.length (other_parts h)
  rw [e]; unfold otherL; simp; omega
theorem other_taken {l : List Queue} {b : List Book} {o : Nat} {x : Book} (h : b[o]? = some x) (q t : Nat) : takenT l (otherL b o x) q t = takenT l b q t := by
  have e : takenT l b q t = takenT l (b.take o ++ (x :: b.drop (o + 1))) q t := by rw [← other_parts h]
  rw [e]
  unfold otherL
  rw [takenT_append, takenT_append]
  simp only [takenT]
  omega
theorem other_less {l : List Queue} {b : List Book} {o : Nat} {x : Book} (h : b[o]? = some x) (hok : ∀ y ∈ b, BookOk l y) (q t : Nat) : takenT l ((otherL b o x).drop 1) q t ≤ takenT l b q t := by
  have e := other_taken (l := l) h q t
  have hx := book_num (hok x (List.mem_of_getElem? h)) t
  have e2 : takenT l (otherL b o x) q t = (if under l x.Req.Queue q = true then takesT x t else 0) + takenT l ((otherL b o x).drop 1) q t := rfl
  split at e2 <;> omega
theorem other_loads {l : List Queue} {b : List Book} {o : Nat} {x : Book} (h : b[o]? = some x) : loadsL l (otherL b o x) = loadsL l b := by
  unfold loadsL
  exact List.map_congr_left fun q _ => fold_congr fun t _ => other_taken h q t
theorem fits_less {l : List Queue} {b : List Book} {o f : Nat} {x : Book} (h : b[o]? = some x) (hok : ∀ y ∈ b, BookOk l y) (hf : FitsT l b f) : FitsT l ((otherL b o x).drop 1) f := fun s h1 h2 p hp => by
  have a := hf s h1 h2 p hp
  have c := other_less (l := l) h hok p s
  unfold leftT at *
  omega
theorem fits_later {l : List Queue} {b : List Book} {f g : Nat} (h : f ≤ g) (hf : FitsT l b f) : FitsT l b g := fun s h1 h2 p hp => hf s (by omega) h2 p hp

/-- what a queue takes, its Parent takes -/
theorem line_par {l : List Queue} (hp : ParsOk l) {q p : Nat} (hq : q < l.length) (he : par l q = (p : Int)) : ∀ (n : Nat) (r : Int), r < n → r < l.length → q ∈ lineL l r → p ∈ lineL l r
  | n, r, h1, h2, hm => by
    by_cases h : r < 0
    · rw [lineL_neg h] at hm; cases hm
    · obtain ⟨k, rfl⟩ := Int.eq_ofNat_of_zero_le (by omega : 0 ≤ r)
      have hk : k < l.length := by omega
      have hpk := hp k hk
      rw [lineL_pos hp hk] at hm ⊢
      rcases List.mem_cons.1 hm with e | hm
      · subst e
        have hpl : p < q := by have := hpk.2; omega
        rw [he, lineL_pos hp (by omega)]
        exact List.mem_cons_of_mem _ (List.mem_cons_self ..)
      · cases n with
        | zero => omega
        | succ n => exact List.mem_cons_of_mem _ (line_par hp hq he n (par l k) (by have := hpk.2; omega) (by have := hpk.2; omega) hm)
theorem taken_par {l : List Queue} (hp : ParsOk l) {q p : Nat} (hq : q < l.length) (he : par l q = (p : Int)) (t : Nat) : ∀ (b : List Book), (∀ x ∈ b, BookOk l x) → takenT l b q t ≤ takenT l b p t
  | [], _ => by simp [takenT]
  | x :: b, hok => by
    have ih := taken_par hp hq he t b (fun y hy => hok y (List.mem_cons_of_mem _ hy))
    have hx := hok x (List.mem_cons_self ..)
    have hn := book_num hx t
    have hq1 := hx.q1
    have key : under l x.Req.Queue q = true → under l x.Req.Queue p = true := fun h => under_mem.1 (line_par hp hq he l.length _ hq1 hq1 (under_mem.2 h))
    simp only [takenT]
    by_cases h1 : under l x.Req.Queue q = true
    · rw [if_pos h1, if_pos (key h1)]; omega
    · rw [if_neg h1]
      split <;> omega

/-! ### the cells of books -/
theorem flat7 {α : Type} : ∀ (css : List (List α)), (∀ cs ∈ css, cs.length = 7) → ∀ k j, j < 7 → css.flatten[k * 7 + j]? = (css[k]?).bind (fun cs => cs[j]?)
  | [], _, k, j, _ => by simp
  | cs :: css, h, k, j, hj => by
    have h1 := h cs (List.mem_cons_self ..)
    rw [List.flatten_cons]
    cases k with
    | zero =>
      rw [Nat.zero_mul, Nat.zero_add, List.getElem?_append_left (by omega)]
      rfl
    | succ k =>
      rw [List.getElem?_append_right (by omega), h1, show (k + 1) * 7 + j - 7 = k * 7 + j by omega, flat7 css (fun c hc => h c (List.mem_cons_of_mem _ hc)) k j hj]
      rfl
theorem flat7_len {α : Type} : ∀ (css : List (List α)), (∀ cs ∈ css, cs.length = 7) → css.flatten.length = css.length * 7
  | [], _ => rfl
  | cs :: css, h => by
    rw [List.flatten_cons, List.length_append, h cs (List.mem_cons_self ..), flat7_len css (fun c hc => h c (List.mem_cons_of_mem _ hc)), List.length_cons]
    omega

/-- these are the cells of these books -/
structure Cells7 (w : World) (css : List (List Value)) (b : List Book) : Prop where
  len : css.length = b.length
  each : ∀ (k : Nat) (cs : List Value) (x : Book), css[k]? = some cs → b[k]? = some x → BookC w cs x

theorem bookC_len {w : World} {cs : List Value} {x : Book} (h : BookC w cs x) : cs.length = 7 := by
  obtain ⟨qs, bv, rfl, ⟨pv, rfl, _⟩, _⟩ := h
  rfl
theorem bookC_one {w : World} {cs : List Value} {x : Book} (h : BookC w cs x) : ∀ u ∈ cs, u.oneCell' = true := by
  obtain ⟨qs, bv, rfl, ⟨pv, rfl, hp, _⟩, hb, _⟩ := h
  obtain ⟨a, c, rfl, _⟩ := hp.form
  obtain ⟨a2, c2, rfl, _⟩ := hb.form
  simp [Value.oneCell']
theorem Cells7.seven {w : World} {css : List (List Value)} {b : List Book} (h : Cells7 w css b) : ∀ cs ∈ css, cs.length = 7 := fun cs hc => by
  obtain ⟨k, hk⟩ := List.mem_iff_getElem?.1 hc
  have hkl := (List.getElem?_eq_some_iff.1 hk).1
  obtain ⟨x, hx⟩ := getA (f := b) (k := k) (by rw [← h.len]; exact hkl)
  exact bookC_len (h.each k cs x hk hx)
theorem Cells7.one {w : World} {css : List (List Value)} {b : List Book} (h : Cells7 w css b) : ∀ u ∈ css.flatten, u.oneCell' = true := fun u hu => by
  obtain ⟨cs, hc, hu⟩ := List.mem_flatten.1 hu
  obtain ⟨k, hk⟩ := List.mem_iff_getElem?.1 hc
  have hkl := (List.getElem?_eq_some_iff.1 hk).1
  obtain ⟨x, hx⟩ := getA (f := b) (k := k) (by rw [← h.len]; exact hkl)
  exact bookC_one (h.each k cs x hk hx) u hu
theorem Cells7.mono {w w' : World} {css : List (List Value)} {b : List Book} (h : Cells7 w css b) (hx : Ext w w') : Cells7 w' css b :=
  ⟨h.len, fun k cs x h1 h2 => (h.each k cs x h1 h2).mono hx⟩
theorem Cells7.append {w : World} {css dss : List (List Value)} {b c : List Book} (h : Cells7 w css b) (g : Cells7 w dss c) : Cells7 w (css ++ dss) (b ++ c) := by
  refine ⟨by rw [List.length_append, List.length_append, h.len, g.len], fun k cs x h1 h2 => ?_⟩
  by_cases hk : k < css.length
  · rw [List.getElem?_append_left hk] at h1
    rw [List.getElem?_append_left (by rw [← h.len]; exact hk)] at h2
    exact h.each k cs x h1 h2
  · rw [List.getElem?_append_right (by omega)] at h1
    rw [List.getElem?_append_right (by rw [← h.len]; omega), ← h.len] at h2
    exact g.each _ cs x h1 h2
theorem Cells7.single {w : World} {cs : List Value} {x : Book} (h : BookC w cs x) : Cells7 w [cs] [x] := by
  refine ⟨rfl, fun k c y h1 h2 => ?_⟩
  cases k with
  | zero => cases h1; cases h2; exact h
  | succ k => simp at h1

theorem books_cells {w : World} {a : Option Addr} {z c : Nat} {b : List Book} (h : BooksV w (.slice a z c) b) : ∃ css, Cells7 w css b ∧ (1 ≤ b.length → ∃ ad, a = some ad ∧ ∀ j u, css.flatten[j]? = some u → w.cell? (ad.add j) = some u) := by
  rcases h with ⟨rfl, _⟩ | ⟨b0, off, cap, e, h1, h2, h3, h4, h5⟩
  · exact ⟨[], ⟨rfl, fun k cs x h => by simp at h⟩, fun h => by simp at h⟩
  · cases e
    have each : ∀ i, i < b.length → ∃ cs : List Value, ∀ x, b[i]? = some x → BookC w cs x ∧ ∀ (j : Nat) u, cs[j]? = some u → w.cell? ⟨b0, off + i * 7 + j, none⟩ = some u := fun i hi => by
      obtain ⟨x, hx⟩ := getA (f := b) (k := i) hi
      obtain ⟨cs, hc1, hc2⟩ := h5 i x hx
      exact ⟨cs, fun y hy => by rw [hx] at hy; cases hy; exact ⟨hc1, hc2⟩⟩
    obtain ⟨f, hf⟩ := choose_lt (α := List Value) (p := fun i cs => ∀ x, b[i]? = some x → BookC w cs x ∧ ∀ (j : Nat) u, cs[j]? = some u → w.cell? ⟨b0, off + i * 7 + j, none⟩ = some u) each
    have hget : ∀ k cs, ((List.range b.length).map f)[k]? = some cs → k < b.length ∧ cs = f k := fun k cs hk => by
      rw [List.getElem?_map] at hk
      by_cases hkl : k < b.length
      · rw [List.getElem?_range hkl] at hk
        exact ⟨hkl, by simpa using hk.symm⟩
      · rw [List.getElem?_eq_none (by simpa using hkl)] at hk
        cases hk
    have hC : Cells7 w ((List.range b.length).map f) b := ⟨by simp, fun k cs x h1 h2 => by
      obtain ⟨hk, rfl⟩ := hget k cs h1
      exact (hf k hk x h2).1⟩
    refine ⟨_, hC, fun _ => ⟨_, rfl, fun j u hj => ?_⟩⟩
    have e : j = j / 7 * 7 + j % 7 := by omega
    rw [e, flat7 _ hC.seven (j / 7) (j % 7) (by omega)] at hj
    cases hc : ((List.range b.length).map f)[j / 7]? with
    | none => rw [hc] at hj; cases hj
    | some cs =>
      rw [hc] at hj
      obtain ⟨hk, rfl⟩ := hget _ cs hc
      obtain ⟨x, hx⟩ := getA (f := b) (k := j / 7) hk
      have := (hf _ hk x hx).2 (j % 7) u hj
      rw [addr_add]
      rwa [show off + j / 7 * 7 + j % 7 = off + j by omega] at this

/-- a row that owns these cells holds the books -/
theorem books_of_owns {w : World} {base T : Nat} {v : Value} {css : List (List Value)} {b : List Book} (h : w.ownsRow base T 7 v b.length css.flatten) (hc : Cells7 w css b) (hn : b.length ≤ 12) : BooksV w v b := by
  rcases h.2 with ⟨rfl, h0⟩ | ⟨g, cap, cur, rfl, hb, hg, hcp, hm, hcs, htk⟩
  · exact .inl ⟨List.eq_nil_of_length_eq_zero h0, none, 0, rfl, by omega⟩
  · refine .inr ⟨g, 0, cap, rfl, hcp, by unfold maxLen at hm; omega, by omega, (Array.getElem?_eq_some_iff.1 hg).1, fun k x hk => ?_⟩
    have hkb := (List.getElem?_eq_some_iff.1 hk).1
    obtain ⟨cs, hcs'⟩ := getA (f := css) (k := k) (by rw [hc.len]; exact hkb)
    refine ⟨cs, hc.each k cs x hcs' hk, fun j u hj => ?_⟩
    have h7 := hc.seven cs (List.mem_of_getElem? hcs')
    have hj7 : j < 7 := by have := (List.getElem?_eq_some_iff.1 hj).1; omega
    have e : css.flatten[k * 7 + j]? = some u := by rw [flat7 css hc.seven k j hj7, hcs']; exact hj
    have := h.cells (g := g) rfl (k * 7 + j) u e
    rw [addr_add] at this
    rwa [show 0 + (k * 7 + j) = 0 + k * 7 + j by omega] at this

theorem cells_at {w : World} {ad : Addr} {m c : Nat} {b : List Book} (h : BooksV w (.slice (some ad) m c) b) (hm : b.length = m) : ∃ css, Cells7 w css b ∧ css.flatten.length = m * 7 ∧ ∀ j u, css.flatten[j]? = some u → w.cell? (ad.add j) = some u := by
  obtain ⟨css, h1, h2⟩ := books_cells h
  refine ⟨css, h1, by rw [flat7_len css h1.seven, h1.len, hm], fun j u hj => ?_⟩
  by_cases h0 : 1 ≤ b.length
  · obtain ⟨ad', e, h3⟩ := h2 h0
    cases e
    exact h3 j u hj
  · have : css = [] := List.eq_nil_of_length_eq_zero (by rw [h1.len]; omega)
    subst this
    simp at hj

theorem own_lit7 (W : World) (cs : List Value) (T : TypeId) (h : cs.length = 7) : (W.alloc (.cells cs.toArray T)).ownsRow W.heap.size T 7 (.slice (some ⟨W.heap.size, 0, none⟩) 1 1) 1 cs :=
  ⟨by omega, .inr ⟨W.heap.size, 1, cs.toArray, rfl, Nat.le_refl _, heap_alloc_new W _, Nat.le_refl _, by decide, by simp [h], by simp [h, List.take_of_length_le]⟩⟩
theorem own_some7 {w : World} {base e sz n : Nat} {v : Value} {xs : List Value} (h : w.ownsRow base e sz v n xs) (hn : 1 ≤ n) : ∃ g cap, v = .slice (some ⟨g, 0, none⟩) n cap := by
  rcases h.2 with ⟨_, h0⟩ | ⟨g, cap, _, rfl, _⟩
  · omega
  · exact ⟨g, cap, rfl⟩

theorem step_append_own {P : Program} {ops : Array Oper} {o : Oper} {a : Act} {w : World} {K : Act → World → Prop} {Q : Exit → Act → World → Prop} {E : Prop} (hgd : o.guard = none) (s x : Operand) (t : TypeId)
    (ho : o.op = .call { callee := .builtin .append, args := #[s, x], argTypes := #[t, t] })
    (base : Nat) (e : TypeId) (i : TypeInfo) (z : Value) (size bytes : Nat) (ht : P.underlying t = some (.slice e)) (hi : P.info? e = some i) (hz : i.zero = some z)
    (hsize : i.size = size) (hby : i.bytes = bytes) (hzs : z.cells.size = size) (hsz : 0 < size)
    (v : Value) (n : Nat) (xs : List Value) (hs : a.eval s = v) (hown : w.ownsRow base e size v n xs)
    (ad : Addr) (m c : Nat) (news : List Value) (hx : a.eval x = .slice (some ad) m c) (hl : news.length = m * size) (hnews : ∀ j u, news[j]? = some u → w.cell? (ad.add j) = some u) (h1 : ∀ u ∈ news, u.oneCell' = true)
    (h63 : n + m ≤ maxLen) (hbytes : (n + m) * bytes ≤ 140737488355328) (hbase : base ≤ w.heap.size)
    (h : ∀ v' w', w'.ownsRow base e size v' (n + m) (xs ++ news) → w.grownBy w' v.ownBlock → K (a.put o.dst v') w') :
    if Region.wanted o (yielded ops a.tmps) = true then Oper.wp P o a w K Q else E := by
  have hw : Region.wanted o (yielded ops a.tmps) = true := by simp [Region.wanted, hgd]
  rw [if_pos hw]
  exact wp_append_own w s x t ho base e i z size bytes ht hi hz hsize hby hzs hsz v n xs hs hown ad m c news hx hl hnews h1 h63 hbytes hbase fun v' w' h2 h3 _ => h v' w' h2 h3

theorem keep7 {w1 w' : World} {a1 a2 a3 a4 a5 a6 a7 : Addr} {a b c d e f g : Value} (hx : Ext w1 w') (b0 : w1.cell? a1 = some a) (b1 : w1.cell? a2 = some b) (b2 : w1.cell? a3 = some c) (b3 : w1.cell? a4 = some d) (b4 : w1.cell? a5 = some e) (b5 : w1.cell? a6 = some f) (b6 : w1.cell? a7 = some g) :
    w'.cell? a1 = some a ∧ w'.cell? a2 = some b ∧ w'.cell? a3 = some c ∧ w'.cell? a4 = some d ∧ w'.cell? a5 = some e ∧ w'.cell? a6 = some f ∧ w'.cell? a7 = some g := by
  have k : ∀ {a : Addr} {v : Value}, w1.cell? a = some v → w'.cell? a = some v := fun {a v} h => by
    rw [hx.cell (World.block_lt_of_cell? w1 a h)]; exact h
  exact ⟨k b0, k b1, k b2, k b3, k b4, k b5, k b6⟩
theorem fits_val {l : List Queue} {b : List Book} {f : Nat} (h : booksE l b = 0) (hf : f ≤ 48) : ∃ d, fitsR l b (f : Int) = (d, 0) ∧ (d = true ↔ FitsT l b f) := by
  have e := fitsR_ok (f := (f : Int)) h ⟨by omega, by omega⟩
  rw [Int.toNat_natCast] at e
  refine ⟨_, e, ?_⟩
  by_cases g : FitsT l b f
  · rw [too_no g]; simp [g]
  · rw [too_yes g]; simp [g]

theorem ext_ceA {w w' : World} (hx : Ext w w') {a : Addr} {v : Value} (h : w.cell? a = some v) : w'.cell? a = some v := by
  rw [hx.cell (World.block_lt_of_cell? w a h)]; exact h


theorem Try.info50 : (Try.prog.info? 50).map (fun i => (i.zero, i.size, i.bytes)) = some (some (.agg #[.int .i64 0, .int .i64 0, .int .i64 0, .int .i64 0, .int .i64 0, .slice none 0 0, .slice none 0 0]), 7, 88) := by kernel_rfl

set_option maxRecDepth 100000 in
set_option maxHeartbeats 6000000 in
theorem loadTrue_any (w : World) (v : Value) (l : List Queue) (bv : Value) (b : List Book) (i k t : Int) (hl : QueuesV w v l) (hb : BooksV w bv b) (hi : I64 i) (hk : I64 k) (ht : I64 t) :
    Calls Try.prog 6 #[v, bv, .int .i64 i, .int .i64 k, .int .i64 t] w fun e w' => e = .returned (.bool true) ∧ Ext w w' := by
  have B := hid (fun (W : World) => loadBegun_true W)
  by_cases h0 : booksE l b = 0
  · have LO := hid (LoadOf_is (loadsR_ok h0) hl hb)
    obtain ⟨ok, _, h12, hbok⟩ := booksE_zero h0
    have hn1 := ok.n1
    have hn5 := ok.n5
    have hLL : (loadsL l b).length = l.length := by simp [loadsL]
    have HLK := hid (fun q (hq : q < l.length) => show (loadsL l b)[q]? = some (fold (takenT l b q)) by simp [loadsL, hq])
    have hin := chooseR_in (c := i) (n := (l.length : Int)) (by omega)
    have CQ := hid (fun (W : World) => choose_any i (l.length : Int) W hi (by omega) (I64.of (by omega) (by omega)))
    obtain ⟨q, hq⟩ : ∃ q : Nat, chooseR i (l.length : Int) = q := ⟨(chooseR i (l.length : Int)).toNat, by omega⟩
    have hqn : q < l.length := by omega
    rw [hq] at CQ
    have htn := chooseR_in (c := t) (n := 48) (by omega)
    have CT := hid (fun (W : World) => choose_any t 48 W ht (by omega) (I64.of (by omega) (by omega)))
    obtain ⟨at_, hat⟩ : ∃ q : Nat, chooseR t 48 = q := ⟨(chooseR t 48).toNat, by omega⟩
    have hat48 : at_ < 48 := by omega
    rw [hat] at CT
    clear hin hq htn hat
    have NUM := hid (fun c q' t' => takenT_num (l := l) (b := b) q' t' c)
    have TF := hid (fun q' => show Fine (fold (takenT l b q')) from fine_fold fun t _ => ⟨by have := takenT_num (l := l) q' t b hbok; omega, by have := takenT_num (l := l) q' t b hbok; omega⟩)
    have VQ := hid (fun (W : World) (u : Value) (q' : Nat) (hu : RunsV W u (fold (takenT l b q'))) => Value_is (w := W) (t := (at_ : Int)) (m := takenT l b q' at_) (n := 0) (by rw [valueR_fine (TF.out q') (by omega) (by omega), Int.toNat_natCast, sp_fold hat48]) hu)
    have TP := hid (fun (p : Nat) (he : par l q = (p : Int)) => taken_par ok.pars hqn he at_ b hbok)
    obtain ⟨x, hxk⟩ := getA (f := l) (k := q) hqn
    have ep := (at_some hxk).2.1
    have hpk := ok.pars q hqn
    rw [ep] at hpk
    obtain ⟨hp1, hp2⟩ := hpk
    obtain ⟨d1, hd1, hd1'⟩ := fits_val (l := l) (b := b) (f := at_) h0 (by omega)
    obtain ⟨d3, hd3, hd3'⟩ := fits_val (l := l) (b := b) (f := 47) h0 (by omega)
    have FI1 := hid (fun (W : World) (h : Ext w W) => Fits_is hd1 (hl.mono h) (hb.mono h))
    have FI3 := hid (fun (W : World) (h : Ext w W) => Fits_is (f := (47 : Int)) hd3 (hl.mono h) (hb.mono h))
    have H13 := hid (fun h : d1 = true => hd3'.2 (fits_later (by omega) (hd1'.1 h)))
    have H1F := hid hd1'.1
    clear hd1 hd3 hd1' hd3'
    obtain ⟨ib, ib1, ib2, ib3, ib4⟩ := info_parts Try.info50
    have hHB := hid hb
    have OT := hid (fun (o : Nat) (y : Book) (h : b[o]? = some y) => booksE_sub (c := otherL b o y) h0 (other_mem h) (by rw [other_len h]; exact h12))
    have OD := hid (fun (o : Nat) (y : Book) (h : b[o]? = some y) => booksE_sub (c := (otherL b o y).drop 1) h0 (fun z hz => other_mem h z (List.mem_of_mem_drop hz)) (by rw [List.length_drop, other_len h]; omega))
    have HL := hid (fun (W : World) (h : Ext w W) => hl.mono h)
    have FL := hid (fun (o : Nat) (y : Book) (h : b[o]? = some y) (f : Nat) (hf : FitsT l b f) => fits_less h hbok hf)
    have HOK := hid hbok
    obtain ⟨qb, qo, qc, rfl, _, _, hqb, hqE⟩ := queues_at hl ok.n1
    have HE := hid (fun (W : World) (h : Ext w W) => (EQueue.mono w W qb _ x h (hqE q x hxk)).2.2.1)
    obtain ⟨ba, bc, rfl, hbc, hbc9, _, hbE⟩ := books_at hb
    have HBE := hid hbE
    have hq1 := deF (show ¬ (q : Int) < 0 by omega)
    have hq2 := deF (show ¬ (l.length : Int) ≤ (q : Int) by omega)
    have hq3 : ¬ l.length ≤ q := by omega
    have HP := hid ep
    have Hzz := hid (show b.length = b.length from rfl)
    clear hl hb ok hbok hqE hxk ep h0 hbE
    generalize hzz : b.length = z at *
    generalize hll : l.length = ln at *
    go_enter Try.func6, Try.ntmps6
    go_wp2_with fail
    refine LO.out.mono ?_
    rintro e w1 ⟨u, rfl, hu, hx1⟩
    obtain ⟨ua, uc, rfl, _, _, _, huE⟩ := loads_at hu
    have HU := hid hu
    rw [hLL] at HU
    have HUE := hid huE
    have X1 := hid hx1
    have hc := HE.out _ X1.out
    clear hu huE hx1 LO HE
    rw [hLL]
    go_wp2_with fail
    refine (CQ.out _).mono ?_
    rintro e w2 ⟨rfl, hw⟩
    obtain rfl := hw.symm
    go_wp2_with fail
    refine (CT.out _).mono ?_
    rintro e w2 ⟨rfl, hw⟩
    obtain rfl := hw.symm
    by_cases hp : x.Parent < 0
    · have hp' : ¬ 0 ≤ x.Parent := by omega
      have X2 := hid (Ext.rf w1)
      by_cases hz0 : z = 0
      · have hz' := eqT (a := (z : Int)) (b := 0) (by omega)
        go_wp2_with fail
        refine (B.out _).mono ?_
        rintro e w5 ⟨rfl, hx5⟩
        go_wp2_with fail
        go_ret
        exact ⟨rfl, X1.out.tr (X2.out.tr hx5)⟩
      · have hz' := eqF (a := (z : Int)) (b := 0) (by omega)
        have hin := chooseR_in (c := k) (n := (z : Int)) (by omega)
        have CO := hid (fun W => choose_any k (z : Int) W hk (by omega) (I64.of (by omega) (by omega)))
        obtain ⟨o, ho⟩ : ∃ o : Nat, chooseR k (z : Int) = o := ⟨(chooseR k (z : Int)).toNat, by omega⟩
        rw [ho] at CO
        have hoz : o < z := by omega
        clear hin ho
        have HX := hid (X1.out.tr X2.out)
        go_wp2_with fail
        refine (CO.out _).mono ?_
        rintro e w5 ⟨rfl, hw⟩
        obtain rfl := hw.symm
        obtain ⟨y, hyk⟩ := getA (f := b) (k := o) (by rw [hzz]; exact hoz)
        obtain ⟨bb, bo, rfl, hbb, hE⟩ := HBE.out (by omega)
        obtain ⟨cs, hC, hcl⟩ := EBook.mono w _ bb _ y HX.out (hE o y hyk)
        have HC7 := hid hC
        obtain ⟨qs, bi, rfl, ⟨pv, rfl, hpv, _, _, _, _⟩, hbi, _⟩ := hC
        have c0 := hcl 0 _ rfl
        have c1 := hcl 1 _ rfl
        have c2 := hcl 2 _ rfl
        have c3 := hcl 3 _ rfl
        have c4 := hcl 4 _ rfl
        have c5 := hcl 5 _ rfl
        have c6 := hcl 6 _ rfl
        rw [Nat.add_zero] at c0
        obtain ⟨pa, pc, rfl, _, _, _⟩ := hpv.form
        obtain ⟨bia, bic, rfl, _, _, _⟩ := hbi.form
        have hBW := hHB.out.mono HX.out
        have hT := books_take hBW o (by rw [hzz]; omega)
        obtain ⟨css1, hc1, hl1, hn1'⟩ := cells_at hT (by rw [List.length_take, hzz]; omega)
        have H1 := hid (And.intro hc1 (And.intro hl1 hn1'))
        clear hpv hbi hE hcl hT hc1 hl1 hn1' hbb
        have HYK := hid hyk
        clear hyk
        generalize y.Req.Pieces.length = pn at *
        generalize y.Bites.length = bn at *
        have i1 : (0 : Int) ≤ (o : Int) := by omega
        have i2 : (o : Int) ≤ (bc : Int) := by omega
        have i3 : (0 : Int) ≤ (o : Int) + 1 := by omega
        have i4 : (o : Int) + 1 ≤ (z : Int) := by omega
        have i5 : (z : Int) ≤ (bc : Int) := by omega
        have i6 : IntKind.i64.wrap ((o : Int) + 1) = (o : Int) + 1 := by rw [IntKind.wrap_i64]; omega
        have i7 : ((o : Int) + 1).toNat = o + 1 := by omega
        by_cases hcap : bc = o + 1
        · subst hcap
          obtain rfl : z = o + 1 := by omega
          have j1 : (o : Int) ≤ ((o + 1 : Nat) : Int) := by omega
          have j2 : (o : Int) ≤ (o : Int) + 1 := by omega
          have j3 : o ≤ o + 1 := by omega
          have j4 := deF (show ¬ ((o + 1 : Nat) : Int) ≤ (o : Int) by omega)
          have j5 := deF (show ¬ o + 1 ≤ o by omega)
          have j6 := deF (show ¬ (o : Int) + 1 ≤ (o : Int) by omega)
          have j7 := deF (show ¬ (o : Int) < 0 by omega)
          have j8 : (o : Int) < (o : Int) + 1 := by omega
          have j9 : o < o + 1 := by omega
          have hD : BooksV w1 (.slice (some ⟨bb, bo, none⟩) 0 0) (b.drop (o + 1)) := by
            have := books_drop0 hBW (i := o + 1) (by omega) (by omega)
            rwa [Nat.sub_self] at this
          obtain ⟨css2, hc2, hl2, hn2⟩ := cells_at hD (by rw [List.length_drop, hzz]; omega)
          have H2 := hid (And.intro hc2 (And.intro hl2 hn2))
          clear hD hc2 hl2 hn2 hBW
          go_wp2_with fail
          go_region_held3 (fun W' => W'.cell? ⟨bb, bo + o * 7, none⟩ = some (.int .i64 y.Id) ∧ W'.cell? ⟨bb, bo + o * 7 + 1, none⟩ = some (.int .i64 y.Req.Queue) ∧ W'.cell? ⟨bb, bo + o * 7 + 2, none⟩ = some (.int .i64 y.Req.From) ∧ W'.cell? ⟨bb, bo + o * 7 + 3, none⟩ = some (.int .i64 y.Req.Until) ∧ W'.cell? ⟨bb, bo + o * 7 + 4, none⟩ = some (.int .i64 y.Req.Kind) ∧ W'.cell? ⟨bb, bo + o * 7 + 5, none⟩ = some (.slice pa pn pc) ∧ W'.cell? ⟨bb, bo + o * 7 + 6, none⟩ = some (.slice bia bn bic))
            ((refine keep7 ?_ c0 c1 c2 c3 c4 c5 c6; (repeat (first | exact HX2.out | exact HX1.out | exact Ext.rf _ | refine Ext.dr ?_ | refine Ext.al ?_ _))))
            (first
              | (refine step_append_own (by rfl) _ _ _ (by rfl) w1.heap.size 50 ib _ 7 88 Try.underlying23 ib1 ib2 ib3 ib4 rfl (by decide) (.slice (some ⟨w1.heap.size, 0, none⟩) 1 1) 1 [.int .i64 y.Id, .int .i64 y.Req.Queue, .int .i64 y.Req.From, .int .i64 y.Req.Until, .int .i64 y.Req.Kind, .slice pa pn pc, .slice bia bn bic] (by rfl) (own_lit7 w1.drew [.int .i64 y.Id, .int .i64 y.Req.Queue, .int .i64 y.Req.From, .int .i64 y.Req.Until, .int .i64 y.Req.Kind, .slice pa pn pc, .slice bia bn bic] _ rfl) ⟨bb, bo, none⟩ o _ css1.flatten (by rfl) H1.out.2.1 (fun j u hj => ext_ceA ((Ext.rf w1).dr.al _) (H1.out.2.2 j u hj)) H1.out.1.one (by unfold maxLen; omega) (by omega) (by simp) ?_; intro v1 W1 hown1 hgrow1; obtain ⟨g1, cp1, rfl⟩ := own_some7 hown1 (by omega); have HX1 := hid (((Ext.rf w1).dr.al _).gr hgrow1 (fun k hk => by cases hk; exact Nat.le_refl _)); have HO1 := hid hown1; clear hown1)
              | (refine step_append_own (by rfl) _ _ _ (by rfl) w1.heap.size 50 ib _ 7 88 Try.underlying23 ib1 ib2 ib3 ib4 rfl (by decide) (.slice (some ⟨g1, 0, none⟩) (1 + o) cp1) (1 + o) _ (by rfl) HO1.out ⟨bb, bo, none⟩ 0 0 css2.flatten (by rfl) H2.out.2.1 (fun j u hj => ext_ceA HX1.out (H2.out.2.2 j u hj)) H2.out.1.one (by unfold maxLen; omega) (by omega) HX1.out.size ?_; intro v2 W2 hown2 hgrow2; obtain ⟨g2, cp2, rfl⟩ := own_some7 hown2 (by omega); have HX2 := hid (HX1.out.gr hgrow2 (fun k hk => own_lt HO1.out k hk)); have HO2 := hid hown2; clear hown2))
          have hlen : (otherL b o y).length = o + 1 := by rw [other_len HYK.out, hzz]
          have hn3 : 1 + o + 0 = o + 1 := by omega
          have HB2 := hid (show BooksV W2 (.slice (some ⟨g2, 0, none⟩) (o + 1) cp2) (otherL b o y) from by
            rw [← hlen]
            refine books_of_owns (base := w1.heap.size) (T := 50) (css := [[.int .i64 y.Id, .int .i64 y.Req.Queue, .int .i64 y.Req.From, .int .i64 y.Req.Until, .int .i64 y.Req.Kind, .slice pa pn pc, .slice bia bn bic]] ++ css1 ++ css2) ?_ ((((Cells7.single HC7.out).append H1.out.1).append H2.out.1).mono HX2.out) (by omega)
            have h := HO2.out
            rw [hn3] at h
            rw [hlen]
            simpa using h)
          rw [show 1 + o = o + 1 by omega]
          have HXW := hid (HX.out.tr HX2.out)
          obtain ⟨d2, hd2, hd2'⟩ := fits_val (OD.out o y HYK.out) (f := at_) (by omega)
          have FI2 := hid (fun (W : World) (h : Ext w W) (v2 : Value) (h2 : BooksV W v2 ((otherL b o y).drop 1)) => Fits_is hd2 (HL.out W h) h2)
          have H12 := hid (fun h : d1 = true => hd2'.2 (FL.out o y HYK.out at_ (H1F.out h)))
          have HLN := hid hlen
          clear c0 c1 c2 c3 c4 c5 c6 HO1 HO2 HX1 H1 H2 HC7 hd2 hd2' hn3 ib1 ib2 ib3 ib4 i1 i2 i3 i4 i5 i6 i7 j1 j4 j5 j6 j7 j8 j9 hlen hgrow1 hgrow2
          go_wp2_with fail
          refine (LoadOf_is (loadsR_ok (OT.out o y HYK.out)) (HL.out _ HXW.out) HB2.out).mono ?_
          rintro e w6 ⟨u6, rfl, hu6, hx6⟩
          rw [other_loads HYK.out] at hu6
          obtain ⟨ua6, uc6, rfl, _, _, _⟩ := hu6.form
          have HU6 := hid hu6
          rw [hLL] at HU6
          have X6 := hid hx6
          have X66 := hid (Ext.rf w6)
          clear hu6 hx6
          rw [hLL]
          go_wp2_with fail
          refine (FI1.out _ (HXW.out.tr X6.out)).mono ?_
          rintro e w7 ⟨rfl, hx7⟩
          have X7 := hid (X6.out.tr hx7)
          have Y7 := hid hx7
          clear hx7
          have hB7 := HB2.out.mono X7.out
          have z1 : (1 : Int) ≤ ((o + 1 : Nat) : Int) := by omega
          by_cases hcp : cp2 = 1
          · subst hcp
            have hD2 := books_drop0 hB7 (i := 1) (by omega) (by omega)
            have F2 := hid (FI2.out _ (HXW.out.tr X7.out) _ hD2)
            clear hB7 hD2
            go_wp2_with fail
            refine F2.out.mono ?_
            rintro e w8 ⟨rfl, hx8⟩
            have X8 := hid (X7.out.tr hx8)
            have Y8 := hid (Y7.out.tr hx8)
            clear hx8 F2
            go_wp2_with fail
            refine (FI3.out _ (HXW.out.tr X8.out)).mono ?_
            rintro e w9 ⟨rfl, hx9⟩
            have X9 := hid (X8.out.tr hx9)
            have Y9 := hid (Y8.out.tr hx9)
            clear hx9 FI3
            go_wp2_with fail
            refine (B.out _).mono ?_
            rintro e wa ⟨rfl, hxa⟩
            have XA := hid (X9.out.tr hxa)
            have YA := hid (Y9.out.tr hxa)
            clear hxa
            go_wp2_with fail
            refine (sameLoads_is (HU.out.mono (X2.out.tr (HX2.out.tr XA.out))) (HU6.out.mono (YA.out))).mono ?_
            rintro e wb ⟨rfl, hxb⟩
            have XB := hid (HXW.out.tr (XA.out.tr hxb))
            clear hxb
            cases d1 with
            | false =>
              go_wp2_with fail
              go_ret
              exact ⟨rfl, XB.out⟩
            | true =>
              obtain rfl := H12.out rfl
              obtain rfl := H13.out rfl
              go_wp2_with fail
              go_ret
              exact ⟨rfl, XB.out⟩
          · have hD2 := books_drop1 hB7 1 (by rw [HLN.out]; omega)
            have F2 := hid (FI2.out _ (HXW.out.tr X7.out) _ hD2)
            clear hB7 hD2
            go_wp2_with fail
            refine F2.out.mono ?_
            rintro e w8 ⟨rfl, hx8⟩
            have X8 := hid (X7.out.tr hx8)
            have Y8 := hid (Y7.out.tr hx8)
            clear hx8 F2
            go_wp2_with fail
            refine (FI3.out _ (HXW.out.tr X8.out)).mono ?_
            rintro e w9 ⟨rfl, hx9⟩
            have X9 := hid (X8.out.tr hx9)
            have Y9 := hid (Y8.out.tr hx9)
            clear hx9 FI3
            go_wp2_with fail
            refine (B.out _).mono ?_
            rintro e wa ⟨rfl, hxa⟩
            have XA := hid (X9.out.tr hxa)
            have YA := hid (Y9.out.tr hxa)
            clear hxa
            go_wp2_with fail
            refine (sameLoads_is (HU.out.mono (X2.out.tr (HX2.out.tr XA.out))) (HU6.out.mono (YA.out))).mono ?_
            rintro e wb ⟨rfl, hxb⟩
            have XB := hid (HXW.out.tr (XA.out.tr hxb))
            clear hxb
            cases d1 with
            | false =>
              go_wp2_with fail
              go_ret
              exact ⟨rfl, XB.out⟩
            | true =>
              obtain rfl := H12.out rfl
              obtain rfl := H13.out rfl
              go_wp2_with fail
              go_ret
              exact ⟨rfl, XB.out⟩
        · have j1 : ¬ bc ≤ o + 1 := by omega
          have hD := books_drop1 hBW (o + 1) (by omega)
          obtain ⟨css2, hc2, hl2, hn2⟩ := cells_at (ad := (⟨bb, bo, none⟩ : Addr).add ((o + 1) * 7)) hD (by rw [List.length_drop, hzz])
          rw [addr_add] at hn2
          have H2 := hid (And.intro hc2 (And.intro hl2 hn2))
          clear hD hc2 hl2 hn2 hBW
          go_wp2_with fail
          go_region_held3 (fun W' => W'.cell? ⟨bb, bo + o * 7, none⟩ = some (.int .i64 y.Id) ∧ W'.cell? ⟨bb, bo + o * 7 + 1, none⟩ = some (.int .i64 y.Req.Queue) ∧ W'.cell? ⟨bb, bo + o * 7 + 2, none⟩ = some (.int .i64 y.Req.From) ∧ W'.cell? ⟨bb, bo + o * 7 + 3, none⟩ = some (.int .i64 y.Req.Until) ∧ W'.cell? ⟨bb, bo + o * 7 + 4, none⟩ = some (.int .i64 y.Req.Kind) ∧ W'.cell? ⟨bb, bo + o * 7 + 5, none⟩ = some (.slice pa pn pc) ∧ W'.cell? ⟨bb, bo + o * 7 + 6, none⟩ = some (.slice bia bn bic))
            ((refine keep7 ?_ c0 c1 c2 c3 c4 c5 c6; (repeat (first | exact HX2.out | exact HX1.out | exact Ext.rf _ | refine Ext.dr ?_ | refine Ext.al ?_ _))))
            (first
              | (refine step_append_own (by rfl) _ _ _ (by rfl) w1.heap.size 50 ib _ 7 88 Try.underlying23 ib1 ib2 ib3 ib4 rfl (by decide) (.slice (some ⟨w1.heap.size, 0, none⟩) 1 1) 1 [.int .i64 y.Id, .int .i64 y.Req.Queue, .int .i64 y.Req.From, .int .i64 y.Req.Until, .int .i64 y.Req.Kind, .slice pa pn pc, .slice bia bn bic] (by rfl) (own_lit7 w1.drew [.int .i64 y.Id, .int .i64 y.Req.Queue, .int .i64 y.Req.From, .int .i64 y.Req.Until, .int .i64 y.Req.Kind, .slice pa pn pc, .slice bia bn bic] _ rfl) ⟨bb, bo, none⟩ o _ css1.flatten (by rfl) H1.out.2.1 (fun j u hj => ext_ceA ((Ext.rf w1).dr.al _) (H1.out.2.2 j u hj)) H1.out.1.one (by unfold maxLen; omega) (by omega) (by simp) ?_; intro v1 W1 hown1 hgrow1; obtain ⟨g1, cp1, rfl⟩ := own_some7 hown1 (by omega); have HX1 := hid (((Ext.rf w1).dr.al _).gr hgrow1 (fun k hk => by cases hk; exact Nat.le_refl _)); have HO1 := hid hown1; clear hown1)
              | (refine step_append_own (by rfl) _ _ _ (by rfl) w1.heap.size 50 ib _ 7 88 Try.underlying23 ib1 ib2 ib3 ib4 rfl (by decide) (.slice (some ⟨g1, 0, none⟩) (1 + o) cp1) (1 + o) _ (by rfl) HO1.out ⟨bb, bo + (o + 1) * 7, none⟩ (z - (o + 1)) (bc - (o + 1)) css2.flatten (by rfl) H2.out.2.1 (fun j u hj => ext_ceA HX1.out (H2.out.2.2 j u hj)) H2.out.1.one (by unfold maxLen; omega) (by omega) HX1.out.size ?_; intro v2 W2 hown2 hgrow2; obtain ⟨g2, cp2, rfl⟩ := own_some7 hown2 (by omega); have HX2 := hid (HX1.out.gr hgrow2 (fun k hk => own_lt HO1.out k hk)); have HO2 := hid hown2; clear hown2))
          have hlen : (otherL b o y).length = z := by rw [other_len HYK.out, hzz]
          have hn3 : 1 + o + (z - (o + 1)) = z := by omega
          have HB2 := hid (show BooksV W2 (.slice (some ⟨g2, 0, none⟩) (z) cp2) (otherL b o y) from by
            rw [← hlen]
            refine books_of_owns (base := w1.heap.size) (T := 50) (css := [[.int .i64 y.Id, .int .i64 y.Req.Queue, .int .i64 y.Req.From, .int .i64 y.Req.Until, .int .i64 y.Req.Kind, .slice pa pn pc, .slice bia bn bic]] ++ css1 ++ css2) ?_ ((((Cells7.single HC7.out).append H1.out.1).append H2.out.1).mono HX2.out) (by omega)
            have h := HO2.out
            rw [hn3] at h
            rw [hlen]
            simpa using h)
          rw [hn3]
          have HXW := hid (HX.out.tr HX2.out)
          obtain ⟨d2, hd2, hd2'⟩ := fits_val (OD.out o y HYK.out) (f := at_) (by omega)
          have FI2 := hid (fun (W : World) (h : Ext w W) (v2 : Value) (h2 : BooksV W v2 ((otherL b o y).drop 1)) => Fits_is hd2 (HL.out W h) h2)
          have H12 := hid (fun h : d1 = true => hd2'.2 (FL.out o y HYK.out at_ (H1F.out h)))
          have HLN := hid hlen
          clear c0 c1 c2 c3 c4 c5 c6 HO1 HO2 HX1 H1 H2 HC7 hd2 hd2' hn3 ib1 ib2 ib3 ib4 i1 i2 i3 i4 i5 i6 i7 j1 hlen hgrow1 hgrow2
          go_wp2_with fail
          refine (LoadOf_is (loadsR_ok (OT.out o y HYK.out)) (HL.out _ HXW.out) HB2.out).mono ?_
          rintro e w6 ⟨u6, rfl, hu6, hx6⟩
          rw [other_loads HYK.out] at hu6
          obtain ⟨ua6, uc6, rfl, _, _, _⟩ := hu6.form
          have HU6 := hid hu6
          rw [hLL] at HU6
          have X6 := hid hx6
          have X66 := hid (Ext.rf w6)
          clear hu6 hx6
          rw [hLL]
          go_wp2_with fail
          refine (FI1.out _ (HXW.out.tr X6.out)).mono ?_
          rintro e w7 ⟨rfl, hx7⟩
          have X7 := hid (X6.out.tr hx7)
          have Y7 := hid hx7
          clear hx7
          have hB7 := HB2.out.mono X7.out
          have z1 : (1 : Int) ≤ ((z : Nat) : Int) := by omega
          by_cases hcp : cp2 = 1
          · subst hcp
            have hD2 := books_drop0 hB7 (i := 1) (by omega) (by omega)
            have F2 := hid (FI2.out _ (HXW.out.tr X7.out) _ hD2)
            clear hB7 hD2
            go_wp2_with fail
            refine F2.out.mono ?_
            rintro e w8 ⟨rfl, hx8⟩
            have X8 := hid (X7.out.tr hx8)
            have Y8 := hid (Y7.out.tr hx8)
            clear hx8 F2
            go_wp2_with fail
            refine (FI3.out _ (HXW.out.tr X8.out)).mono ?_
            rintro e w9 ⟨rfl, hx9⟩
            have X9 := hid (X8.out.tr hx9)
            have Y9 := hid (Y8.out.tr hx9)
            clear hx9 FI3
            go_wp2_with fail
            refine (B.out _).mono ?_
            rintro e wa ⟨rfl, hxa⟩
            have XA := hid (X9.out.tr hxa)
            have YA := hid (Y9.out.tr hxa)
            clear hxa
            go_wp2_with fail
            refine (sameLoads_is (HU.out.mono (X2.out.tr (HX2.out.tr XA.out))) (HU6.out.mono (YA.out))).mono ?_
            rintro e wb ⟨rfl, hxb⟩
            have XB := hid (HXW.out.tr (XA.out.tr hxb))
            clear hxb
            cases d1 with
            | false =>
              go_wp2_with fail
              go_ret
              exact ⟨rfl, XB.out⟩
            | true =>
              obtain rfl := H12.out rfl
              obtain rfl := H13.out rfl
              go_wp2_with fail
              go_ret
              exact ⟨rfl, XB.out⟩
          · have hD2 := books_drop1 hB7 1 (by rw [HLN.out]; omega)
            have F2 := hid (FI2.out _ (HXW.out.tr X7.out) _ hD2)
            clear hB7 hD2
            go_wp2_with fail
            refine F2.out.mono ?_
            rintro e w8 ⟨rfl, hx8⟩
            have X8 := hid (X7.out.tr hx8)
            have Y8 := hid (Y7.out.tr hx8)
            clear hx8 F2
            go_wp2_with fail
            refine (FI3.out _ (HXW.out.tr X8.out)).mono ?_
            rintro e w9 ⟨rfl, hx9⟩
            have X9 := hid (X8.out.tr hx9)
            have Y9 := hid (Y8.out.tr hx9)
            clear hx9 FI3
            go_wp2_with fail
            refine (B.out _).mono ?_
            rintro e wa ⟨rfl, hxa⟩
            have XA := hid (X9.out.tr hxa)
            have YA := hid (Y9.out.tr hxa)
            clear hxa
            go_wp2_with fail
            refine (sameLoads_is (HU.out.mono (X2.out.tr (HX2.out.tr XA.out))) (HU6.out.mono (YA.out))).mono ?_
            rintro e wb ⟨rfl, hxb⟩
            have XB := hid (HXW.out.tr (XA.out.tr hxb))
            clear hxb
            cases d1 with
            | false =>
              go_wp2_with fail
              go_ret
              exact ⟨rfl, XB.out⟩
            | true =>
              obtain rfl := H12.out rfl
              obtain rfl := H13.out rfl
              go_wp2_with fail
              go_ret
              exact ⟨rfl, XB.out⟩
    · have hp' : 0 ≤ x.Parent := by omega
      obtain ⟨p, hpe⟩ := Int.eq_ofNat_of_zero_le hp'
      have HTP := hid (TP.out p (by rw [HP.out, hpe]))
      rw [hpe] at hc hp hp' hp1 hp2
      have hpq : p < q := by omega
      obtain ⟨ub, uo, rfl, hub, hue⟩ := HUE.out (by rw [hLL]; omega)
      obtain ⟨y1, c1, hy1⟩ := hue q _ (HLK.out q hqn)
      obtain ⟨y2, c2, hy2⟩ := hue p _ (HLK.out p (by omega))
      have V1 := hid (VQ.out _ _ q hy1)
      have V2 := hid (fun (W : World) (h : Ext w1 W) => VQ.out _ _ p (hy2.mono h))
      have HC2 := hid c2
      obtain ⟨ya1, yc1, rfl, _, _, _⟩ := hy1.form
      obtain ⟨ya2, yc2, rfl, _, _, _⟩ := hy2.form
      clear hue hy1 hy2 hpe c2
      generalize (fold (takenT l b q)).length = n1 at *
      generalize (fold (takenT l b p)).length = n2 at *
      go_wp2_with fail
      refine V1.out.mono ?_
      rintro e w2 ⟨rfl, hx2⟩
      have c2 := hx2.ce' HC2.out
      have V3 := hid (V2.out _ hx2)
      clear V1 V2 c1 HC2
      go_wp2_with fail
      refine V3.out.mono ?_
      rintro e w3 ⟨rfl, hx3⟩
      have X2 := hid (hx2.tr hx3)
      have hle := HTP.out
      clear hx2 hx3 V3 c2 HTP
      generalize takenT l b q at_ = tq at *
      generalize takenT l b p at_ = tp at *
      have hgt : ¬ tp < tq := by omega
      by_cases hz0 : z = 0
      · have hz' := eqT (a := (z : Int)) (b := 0) (by omega)
        go_wp2_with fail
        refine (B.out _).mono ?_
        rintro e w5 ⟨rfl, hx5⟩
        go_wp2_with fail
        go_ret
        exact ⟨rfl, X1.out.tr (X2.out.tr hx5)⟩
      · have hz' := eqF (a := (z : Int)) (b := 0) (by omega)
        have hin := chooseR_in (c := k) (n := (z : Int)) (by omega)
        have CO := hid (fun W => choose_any k (z : Int) W hk (by omega) (I64.of (by omega) (by omega)))
        obtain ⟨o, ho⟩ : ∃ o : Nat, chooseR k (z : Int) = o := ⟨(chooseR k (z : Int)).toNat, by omega⟩
        rw [ho] at CO
        have hoz : o < z := by omega
        clear hin ho
        have HX := hid (X1.out.tr X2.out)
        go_wp2_with fail
        refine (CO.out _).mono ?_
        rintro e w5 ⟨rfl, hw⟩
        obtain rfl := hw.symm
        obtain ⟨y, hyk⟩ := getA (f := b) (k := o) (by rw [hzz]; exact hoz)
        obtain ⟨bb, bo, rfl, hbb, hE⟩ := HBE.out (by omega)
        obtain ⟨cs, hC, hcl⟩ := EBook.mono w _ bb _ y HX.out (hE o y hyk)
        have HC7 := hid hC
        obtain ⟨qs, bi, rfl, ⟨pv, rfl, hpv, _, _, _, _⟩, hbi, _⟩ := hC
        have c0 := hcl 0 _ rfl
        have c1 := hcl 1 _ rfl
        have c2 := hcl 2 _ rfl
        have c3 := hcl 3 _ rfl
        have c4 := hcl 4 _ rfl
        have c5 := hcl 5 _ rfl
        have c6 := hcl 6 _ rfl
        rw [Nat.add_zero] at c0
        obtain ⟨pa, pc, rfl, _, _, _⟩ := hpv.form
        obtain ⟨bia, bic, rfl, _, _, _⟩ := hbi.form
        have hBW := hHB.out.mono HX.out
        have hT := books_take hBW o (by rw [hzz]; omega)
        obtain ⟨css1, hc1, hl1, hn1'⟩ := cells_at hT (by rw [List.length_take, hzz]; omega)
        have H1 := hid (And.intro hc1 (And.intro hl1 hn1'))
        clear hpv hbi hE hcl hT hc1 hl1 hn1' hbb
        have HYK := hid hyk
        clear hyk
        generalize y.Req.Pieces.length = pn at *
        generalize y.Bites.length = bn at *
        have i1 : (0 : Int) ≤ (o : Int) := by omega
        have i2 : (o : Int) ≤ (bc : Int) := by omega
        have i3 : (0 : Int) ≤ (o : Int) + 1 := by omega
        have i4 : (o : Int) + 1 ≤ (z : Int) := by omega
        have i5 : (z : Int) ≤ (bc : Int) := by omega
        have i6 : IntKind.i64.wrap ((o : Int) + 1) = (o : Int) + 1 := by rw [IntKind.wrap_i64]; omega
        have i7 : ((o : Int) + 1).toNat = o + 1 := by omega
        by_cases hcap : bc = o + 1
        · subst hcap
          obtain rfl : z = o + 1 := by omega
          have j1 : (o : Int) ≤ ((o + 1 : Nat) : Int) := by omega
          have j2 : (o : Int) ≤ (o : Int) + 1 := by omega
          have j3 : o ≤ o + 1 := by omega
          have j4 := deF (show ¬ ((o + 1 : Nat) : Int) ≤ (o : Int) by omega)
          have j5 := deF (show ¬ o + 1 ≤ o by omega)
          have j6 := deF (show ¬ (o : Int) + 1 ≤ (o : Int) by omega)
          have j7 := deF (show ¬ (o : Int) < 0 by omega)
          have j8 : (o : Int) < (o : Int) + 1 := by omega
          have j9 : o < o + 1 := by omega
          have hD : BooksV w3 (.slice (some ⟨bb, bo, none⟩) 0 0) (b.drop (o + 1)) := by
            have := books_drop0 hBW (i := o + 1) (by omega) (by omega)
            rwa [Nat.sub_self] at this
          obtain ⟨css2, hc2, hl2, hn2⟩ := cells_at hD (by rw [List.length_drop, hzz]; omega)
          have H2 := hid (And.intro hc2 (And.intro hl2 hn2))
          clear hD hc2 hl2 hn2 hBW
          go_wp2_with fail
          go_region_held3 (fun W' => W'.cell? ⟨bb, bo + o * 7, none⟩ = some (.int .i64 y.Id) ∧ W'.cell? ⟨bb, bo + o * 7 + 1, none⟩ = some (.int .i64 y.Req.Queue) ∧ W'.cell? ⟨bb, bo + o * 7 + 2, none⟩ = some (.int .i64 y.Req.From) ∧ W'.cell? ⟨bb, bo + o * 7 + 3, none⟩ = some (.int .i64 y.Req.Until) ∧ W'.cell? ⟨bb, bo + o * 7 + 4, none⟩ = some (.int .i64 y.Req.Kind) ∧ W'.cell? ⟨bb, bo + o * 7 + 5, none⟩ = some (.slice pa pn pc) ∧ W'.cell? ⟨bb, bo + o * 7 + 6, none⟩ = some (.slice bia bn bic))
            ((refine keep7 ?_ c0 c1 c2 c3 c4 c5 c6; (repeat (first | exact HX2.out | exact HX1.out | exact Ext.rf _ | refine Ext.dr ?_ | refine Ext.al ?_ _))))
            (first
              | (refine step_append_own (by rfl) _ _ _ (by rfl) w3.heap.size 50 ib _ 7 88 Try.underlying23 ib1 ib2 ib3 ib4 rfl (by decide) (.slice (some ⟨w3.heap.size, 0, none⟩) 1 1) 1 [.int .i64 y.Id, .int .i64 y.Req.Queue, .int .i64 y.Req.From, .int .i64 y.Req.Until, .int .i64 y.Req.Kind, .slice pa pn pc, .slice bia bn bic] (by rfl) (own_lit7 w3.drew [.int .i64 y.Id, .int .i64 y.Req.Queue, .int .i64 y.Req.From, .int .i64 y.Req.Until, .int .i64 y.Req.Kind, .slice pa pn pc, .slice bia bn bic] _ rfl) ⟨bb, bo, none⟩ o _ css1.flatten (by rfl) H1.out.2.1 (fun j u hj => ext_ceA ((Ext.rf w3).dr.al _) (H1.out.2.2 j u hj)) H1.out.1.one (by unfold maxLen; omega) (by omega) (by simp) ?_; intro v1 W1 hown1 hgrow1; obtain ⟨g1, cp1, rfl⟩ := own_some7 hown1 (by omega); have HX1 := hid (((Ext.rf w3).dr.al _).gr hgrow1 (fun k hk => by cases hk; exact Nat.le_refl _)); have HO1 := hid hown1; clear hown1)
              | (refine step_append_own (by rfl) _ _ _ (by rfl) w3.heap.size 50 ib _ 7 88 Try.underlying23 ib1 ib2 ib3 ib4 rfl (by decide) (.slice (some ⟨g1, 0, none⟩) (1 + o) cp1) (1 + o) _ (by rfl) HO1.out ⟨bb, bo, none⟩ 0 0 css2.flatten (by rfl) H2.out.2.1 (fun j u hj => ext_ceA HX1.out (H2.out.2.2 j u hj)) H2.out.1.one (by unfold maxLen; omega) (by omega) HX1.out.size ?_; intro v2 W2 hown2 hgrow2; obtain ⟨g2, cp2, rfl⟩ := own_some7 hown2 (by omega); have HX2 := hid (HX1.out.gr hgrow2 (fun k hk => own_lt HO1.out k hk)); have HO2 := hid hown2; clear hown2))
          have hlen : (otherL b o y).length = o + 1 := by rw [other_len HYK.out, hzz]
          have hn3 : 1 + o + 0 = o + 1 := by omega
          have HB2 := hid (show BooksV W2 (.slice (some ⟨g2, 0, none⟩) (o + 1) cp2) (otherL b o y) from by
            rw [← hlen]
            refine books_of_owns (base := w3.heap.size) (T := 50) (css := [[.int .i64 y.Id, .int .i64 y.Req.Queue, .int .i64 y.Req.From, .int .i64 y.Req.Until, .int .i64 y.Req.Kind, .slice pa pn pc, .slice bia bn bic]] ++ css1 ++ css2) ?_ ((((Cells7.single HC7.out).append H1.out.1).append H2.out.1).mono HX2.out) (by omega)
            have h := HO2.out
            rw [hn3] at h
            rw [hlen]
            simpa using h)
          rw [show 1 + o = o + 1 by omega]
          have HXW := hid (HX.out.tr HX2.out)
          obtain ⟨d2, hd2, hd2'⟩ := fits_val (OD.out o y HYK.out) (f := at_) (by omega)
          have FI2 := hid (fun (W : World) (h : Ext w W) (v2 : Value) (h2 : BooksV W v2 ((otherL b o y).drop 1)) => Fits_is hd2 (HL.out W h) h2)
          have H12 := hid (fun h : d1 = true => hd2'.2 (FL.out o y HYK.out at_ (H1F.out h)))
          have HLN := hid hlen
          clear c0 c1 c2 c3 c4 c5 c6 HO1 HO2 HX1 H1 H2 HC7 hd2 hd2' hn3 ib1 ib2 ib3 ib4 i1 i2 i3 i4 i5 i6 i7 j1 j4 j5 j6 j7 j8 j9 hlen hgrow1 hgrow2
          go_wp2_with fail
          refine (LoadOf_is (loadsR_ok (OT.out o y HYK.out)) (HL.out _ HXW.out) HB2.out).mono ?_
          rintro e w6 ⟨u6, rfl, hu6, hx6⟩
          rw [other_loads HYK.out] at hu6
          obtain ⟨ua6, uc6, rfl, _, _, _⟩ := hu6.form
          have HU6 := hid hu6
          rw [hLL] at HU6
          have X6 := hid hx6
          have X66 := hid (Ext.rf w6)
          clear hu6 hx6
          rw [hLL]
          go_wp2_with fail
          refine (FI1.out _ (HXW.out.tr X6.out)).mono ?_
          rintro e w7 ⟨rfl, hx7⟩
          have X7 := hid (X6.out.tr hx7)
          have Y7 := hid hx7
          clear hx7
          have hB7 := HB2.out.mono X7.out
          have z1 : (1 : Int) ≤ ((o + 1 : Nat) : Int) := by omega
          by_cases hcp : cp2 = 1
          · subst hcp
            have hD2 := books_drop0 hB7 (i := 1) (by omega) (by omega)
            have F2 := hid (FI2.out _ (HXW.out.tr X7.out) _ hD2)
            clear hB7 hD2
            go_wp2_with fail
            refine F2.out.mono ?_
            rintro e w8 ⟨rfl, hx8⟩
            have X8 := hid (X7.out.tr hx8)
            have Y8 := hid (Y7.out.tr hx8)
            clear hx8 F2
            go_wp2_with fail
            refine (FI3.out _ (HXW.out.tr X8.out)).mono ?_
            rintro e w9 ⟨rfl, hx9⟩
            have X9 := hid (X8.out.tr hx9)
            have Y9 := hid (Y8.out.tr hx9)
            clear hx9 FI3
            go_wp2_with fail
            refine (B.out _).mono ?_
            rintro e wa ⟨rfl, hxa⟩
            have XA := hid (X9.out.tr hxa)
            have YA := hid (Y9.out.tr hxa)
            clear hxa
            go_wp2_with fail
            refine (sameLoads_is (HU.out.mono (X2.out.tr (HX2.out.tr XA.out))) (HU6.out.mono (YA.out))).mono ?_
            rintro e wb ⟨rfl, hxb⟩
            have XB := hid (HXW.out.tr (XA.out.tr hxb))
            clear hxb
            cases d1 with
            | false =>
              go_wp2_with fail
              go_ret
              exact ⟨rfl, XB.out⟩
            | true =>
              obtain rfl := H12.out rfl
              obtain rfl := H13.out rfl
              go_wp2_with fail
              go_ret
              exact ⟨rfl, XB.out⟩
          · have hD2 := books_drop1 hB7 1 (by rw [HLN.out]; omega)
            have F2 := hid (FI2.out _ (HXW.out.tr X7.out) _ hD2)
            clear hB7 hD2
            go_wp2_with fail
            refine F2.out.mono ?_
            rintro e w8 ⟨rfl, hx8⟩
            have X8 := hid (X7.out.tr hx8)
            have Y8 := hid (Y7.out.tr hx8)
            clear hx8 F2
            go_wp2_with fail
            refine (FI3.out _ (HXW.out.tr X8.out)).mono ?_
            rintro e w9 ⟨rfl, hx9⟩
            have X9 := hid (X8.out.tr hx9)
            have Y9 := hid (Y8.out.tr hx9)
            clear hx9 FI3
            go_wp2_with fail
            refine (B.out _).mono ?_
            rintro e wa ⟨rfl, hxa⟩
            have XA := hid (X9.out.tr hxa)
            have YA := hid (Y9.out.tr hxa)
            clear hxa
            go_wp2_with fail
            refine (sameLoads_is (HU.out.mono (X2.out.tr (HX2.out.tr XA.out))) (HU6.out.mono (YA.out))).mono ?_
            rintro e wb ⟨rfl, hxb⟩
            have XB := hid (HXW.out.tr (XA.out.tr hxb))
            clear hxb
            cases d1 with
            | false =>
              go_wp2_with fail
              go_ret
              exact ⟨rfl, XB.out⟩
            | true =>
              obtain rfl := H12.out rfl
              obtain rfl := H13.out rfl
              go_wp2_with fail
              go_ret
              exact ⟨rfl, XB.out⟩
        · have j1 : ¬ bc ≤ o + 1 := by omega
          have hD := books_drop1 hBW (o + 1) (by omega)
          obtain ⟨css2, hc2, hl2, hn2⟩ := cells_at (ad := (⟨bb, bo, none⟩ : Addr).add ((o + 1) * 7)) hD (by rw [List.length_drop, hzz])
          rw [addr_add] at hn2
          have H2 := hid (And.intro hc2 (And.intro hl2 hn2))
          clear hD hc2 hl2 hn2 hBW
          go_wp2_with fail
          go_region_held3 (fun W' => W'.cell? ⟨bb, bo + o * 7, none⟩ = some (.int .i64 y.Id) ∧ W'.cell? ⟨bb, bo + o * 7 + 1, none⟩ = some (.int .i64 y.Req.Queue) ∧ W'.cell? ⟨bb, bo + o * 7 + 2, none⟩ = some (.int .i64 y.Req.From) ∧ W'.cell? ⟨bb, bo + o * 7 + 3, none⟩ = some (.int .i64 y.Req.Until) ∧ W'.cell? ⟨bb, bo + o * 7 + 4, none⟩ = some (.int .i64 y.Req.Kind) ∧ W'.cell? ⟨bb, bo + o * 7 + 5, none⟩ = some (.slice pa pn pc) ∧ W'.cell? ⟨bb, bo + o * 7 + 6, none⟩ = some (.slice bia bn bic))
            ((refine keep7 ?_ c0 c1 c2 c3 c4 c5 c6; (repeat (first | exact HX2.out | exact HX1.out | exact Ext.rf _ | refine Ext.dr ?_ | refine Ext.al ?_ _))))
            (first
              | (refine step_append_own (by rfl) _ _ _ (by rfl) w3.heap.size 50 ib _ 7 88 Try.underlying23 ib1 ib2 ib3 ib4 rfl (by decide) (.slice (some ⟨w3.heap.size, 0, none⟩) 1 1) 1 [.int .i64 y.Id, .int .i64 y.Req.Queue, .int .i64 y.Req.From, .int .i64 y.Req.Until, .int .i64 y.Req.Kind, .slice pa pn pc, .slice bia bn bic] (by rfl) (own_lit7 w3.drew [.int .i64 y.Id, .int .i64 y.Req.Queue, .int .i64 y.Req.From, .int .i64 y.Req.Until, .int .i64 y.Req.Kind, .slice pa pn pc, .slice bia bn bic] _ rfl) ⟨bb, bo, none⟩ o _ css1.flatten (by rfl) H1.out.2.1 (fun j u hj => ext_ceA ((Ext.rf w3).dr.al _) (H1.out.2.2 j u hj)) H1.out.1.one (by unfold maxLen; omega) (by omega) (by simp) ?_; intro v1 W1 hown1 hgrow1; obtain ⟨g1, cp1, rfl⟩ := own_some7 hown1 (by omega); have HX1 := hid (((Ext.rf w3).dr.al _).gr hgrow1 (fun k hk => by cases hk; exact Nat.le_refl _)); have HO1 := hid hown1; clear hown1)
              | (refine step_append_own (by rfl) _ _ _ (by rfl) w3.heap.size 50 ib _ 7 88 Try.underlying23 ib1 ib2 ib3 ib4 rfl (by decide) (.slice (some ⟨g1, 0, none⟩) (1 + o) cp1) (1 + o) _ (by rfl) HO1.out ⟨bb, bo + (o + 1) * 7, none⟩ (z - (o + 1)) (bc - (o + 1)) css2.flatten (by rfl) H2.out.2.1 (fun j u hj => ext_ceA HX1.out (H2.out.2.2 j u hj)) H2.out.1.one (by unfold maxLen; omega) (by omega) HX1.out.size ?_; intro v2 W2 hown2 hgrow2; obtain ⟨g2, cp2, rfl⟩ := own_some7 hown2 (by omega); have HX2 := hid (HX1.out.gr hgrow2 (fun k hk => own_lt HO1.out k hk)); have HO2 := hid hown2; clear hown2))
          have hlen : (otherL b o y).length = z := by rw [other_len HYK.out, hzz]
          have hn3 : 1 + o + (z - (o + 1)) = z := by omega
          have HB2 := hid (show BooksV W2 (.slice (some ⟨g2, 0, none⟩) (z) cp2) (otherL b o y) from by
            rw [← hlen]
            refine books_of_owns (base := w3.heap.size) (T := 50) (css := [[.int .i64 y.Id, .int .i64 y.Req.Queue, .int .i64 y.Req.From, .int .i64 y.Req.Until, .int .i64 y.Req.Kind, .slice pa pn pc, .slice bia bn bic]] ++ css1 ++ css2) ?_ ((((Cells7.single HC7.out).append H1.out.1).append H2.out.1).mono HX2.out) (by omega)
            have h := HO2.out
            rw [hn3] at h
            rw [hlen]
            simpa using h)
          rw [hn3]
          have HXW := hid (HX.out.tr HX2.out)
          obtain ⟨d2, hd2, hd2'⟩ := fits_val (OD.out o y HYK.out) (f := at_) (by omega)
          have FI2 := hid (fun (W : World) (h : Ext w W) (v2 : Value) (h2 : BooksV W v2 ((otherL b o y).drop 1)) => Fits_is hd2 (HL.out W h) h2)
          have H12 := hid (fun h : d1 = true => hd2'.2 (FL.out o y HYK.out at_ (H1F.out h)))
          have HLN := hid hlen
          clear c0 c1 c2 c3 c4 c5 c6 HO1 HO2 HX1 H1 H2 HC7 hd2 hd2' hn3 ib1 ib2 ib3 ib4 i1 i2 i3 i4 i5 i6 i7 j1 hlen hgrow1 hgrow2
          go_wp2_with fail
          refine (LoadOf_is (loadsR_ok (OT.out o y HYK.out)) (HL.out _ HXW.out) HB2.out).mono ?_
          rintro e w6 ⟨u6, rfl, hu6, hx6⟩
          rw [other_loads HYK.out] at hu6
          obtain ⟨ua6, uc6, rfl, _, _, _⟩ := hu6.form
          have HU6 := hid hu6
          rw [hLL] at HU6
          have X6 := hid hx6
          have X66 := hid (Ext.rf w6)
          clear hu6 hx6
          rw [hLL]
          go_wp2_with fail
          refine (FI1.out _ (HXW.out.tr X6.out)).mono ?_
          rintro e w7 ⟨rfl, hx7⟩
          have X7 := hid (X6.out.tr hx7)
          have Y7 := hid hx7
          clear hx7
          have hB7 := HB2.out.mono X7.out
          have z1 : (1 : Int) ≤ ((z : Nat) : Int) := by omega
          by_cases hcp : cp2 = 1
          · subst hcp
            have hD2 := books_drop0 hB7 (i := 1) (by omega) (by omega)
            have F2 := hid (FI2.out _ (HXW.out.tr X7.out) _ hD2)
            clear hB7 hD2
            go_wp2_with fail
            refine F2.out.mono ?_
            rintro e w8 ⟨rfl, hx8⟩
            have X8 := hid (X7.out.tr hx8)
            have Y8 := hid (Y7.out.tr hx8)
            clear hx8 F2
            go_wp2_with fail
            refine (FI3.out _ (HXW.out.tr X8.out)).mono ?_
            rintro e w9 ⟨rfl, hx9⟩
            have X9 := hid (X8.out.tr hx9)
            have Y9 := hid (Y8.out.tr hx9)
            clear hx9 FI3
            go_wp2_with fail
            refine (B.out _).mono ?_
            rintro e wa ⟨rfl, hxa⟩
            have XA := hid (X9.out.tr hxa)
            have YA := hid (Y9.out.tr hxa)
            clear hxa
            go_wp2_with fail
            refine (sameLoads_is (HU.out.mono (X2.out.tr (HX2.out.tr XA.out))) (HU6.out.mono (YA.out))).mono ?_
            rintro e wb ⟨rfl, hxb⟩
            have XB := hid (HXW.out.tr (XA.out.tr hxb))
            clear hxb
            cases d1 with
            | false =>
              go_wp2_with fail
              go_ret
              exact ⟨rfl, XB.out⟩
            | true =>
              obtain rfl := H12.out rfl
              obtain rfl := H13.out rfl
              go_wp2_with fail
              go_ret
              exact ⟨rfl, XB.out⟩
          · have hD2 := books_drop1 hB7 1 (by rw [HLN.out]; omega)
            have F2 := hid (FI2.out _ (HXW.out.tr X7.out) _ hD2)
            clear hB7 hD2
            go_wp2_with fail
            refine F2.out.mono ?_
            rintro e w8 ⟨rfl, hx8⟩
            have X8 := hid (X7.out.tr hx8)
            have Y8 := hid (Y7.out.tr hx8)
            clear hx8 F2
            go_wp2_with fail
            refine (FI3.out _ (HXW.out.tr X8.out)).mono ?_
            rintro e w9 ⟨rfl, hx9⟩
            have X9 := hid (X8.out.tr hx9)
            have Y9 := hid (Y8.out.tr hx9)
            clear hx9 FI3
            go_wp2_with fail
            refine (B.out _).mono ?_
            rintro e wa ⟨rfl, hxa⟩
            have XA := hid (X9.out.tr hxa)
            have YA := hid (Y9.out.tr hxa)
            clear hxa
            go_wp2_with fail
            refine (sameLoads_is (HU.out.mono (X2.out.tr (HX2.out.tr XA.out))) (HU6.out.mono (YA.out))).mono ?_
            rintro e wb ⟨rfl, hxb⟩
            have XB := hid (HXW.out.tr (XA.out.tr hxb))
            clear hxb
            cases d1 with
            | false =>
              go_wp2_with fail
              go_ret
              exact ⟨rfl, XB.out⟩
            | true =>
              obtain rfl := H12.out rfl
              obtain rfl := H13.out rfl
              go_wp2_with fail
              go_ret
              exact ⟨rfl, XB.out⟩
  · have LO := hid (LoadOf_is (loadsR_bad h0) hl hb)
    have hne := neT h0
    obtain ⟨a1, cap, rfl, _, _, _⟩ := hl.form
    obtain ⟨ba, bc, rfl, _, _, _⟩ := hb.form
    clear hl hb h0
    generalize booksE l b = be at *
    generalize l.length = ln at *
    generalize b.length = z at *
    go_enter Try.func6, Try.ntmps6
    go_wp2_with fail
    refine LO.out.mono ?_
    rintro e w1 ⟨u, rfl, hu, hx1⟩
    obtain ⟨ua, uc, rfl, _, _, _⟩ := hu.form
    clear hu
    go_wp2_with fail
    refine (B.out _).mono ?_
    rintro e w2 ⟨rfl, hx2⟩
    go_wp2_with fail
    go_ret
    exact ⟨rfl, hx1.tr hx2⟩

end Go.Proofs.Ytoclbapkgfmphaa

