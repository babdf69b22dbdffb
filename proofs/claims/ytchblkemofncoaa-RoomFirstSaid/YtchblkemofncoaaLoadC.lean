/- What is taken, plainly; a block of slices of runs. -/
import Derived.Test.YtchblkemofncoaaLoadB
set_option linter.unusedVariables false
namespace Go.Proofs.Ytchblkemofncoaa
open Go.RowKit

/-- a right book, of right queues -/
structure BookOk (l : List Queue) (x : Book) : Prop where
  q0 : 0 ≤ x.Req.Queue
  q1 : x.Req.Queue < l.length
  meets : meetsR x.Req x.Bites = true

theorem BookOk.req {l : List Queue} {x : Book} (h : BookOk l x) : ReqOk x.Req := (meetsR_iff.1 h.meets).1
theorem BookOk.bites {l : List Queue} {x : Book} (h : BookOk l x) : ∀ k, k < x.Bites.length → BiteIn x.Req x.Bites k ∧ bA x.Bites k + pL x.Req (bP x.Bites k).toNat ≤ 48 := by
  intro k hk
  have hr := h.req
  have m := ((meetsR_ref hr).1 h.meets).1 k hk
  have hu := (req_range hr).1
  have h1 := m.low
  have h2 := m.is
  have h3 := (req_range hr).2 (bP x.Bites k).toNat (by omega)
  have h4 := m.from_
  have h5 := m.until_
  have h6 := m.fits
  exact ⟨⟨m.low, by omega, by omega, by omega⟩, by omega⟩
theorem BookOk.many {l : List Queue} {x : Book} (h : BookOk l x) : 1 ≤ x.Bites.length ∧ x.Bites.length ≤ 3 := by
  have c := (meetsR_iff.1 h.meets).2.2
  have m := h.req.many
  unfold CountOk at c
  unfold ManyOk at m
  split at c <;> omega

theorem firstE_zero {l : List Queue} : ∀ {b : List Book}, firstE l b = 0 → ∀ x ∈ b, BookOk l x
  | [], _, x, hx => by cases hx
  | y :: b, h, x, hx => by
    by_cases h1 : reqE l y.Req = 0
    · by_cases h2 : meetsR y.Req y.Bites = true
      · rcases List.mem_cons.1 hx with rfl | hx
        · obtain ⟨_, _, h3, h4⟩ := reqE_zero h1
          exact ⟨h3, h4, h2⟩
        · exact firstE_zero (by rw [← firstE_ok h1 h2]; exact h) x hx
      · rw [firstE_form h1 (by simpa using h2)] at h; omega
    · rw [firstE_bad h1] at h; exact absurd h h1

theorem booksE_zero {l : List Queue} {b : List Book} (h : booksE l b = 0) : TreeOk l ∧ checkT l = 0 ∧ b.length ≤ 12 ∧ ∀ x ∈ b, BookOk l x := by
  by_cases h0 : checkT l = 0
  · by_cases h1 : 12 < b.length
    · rw [booksE_many h0 h1] at h; omega
    · rw [booksE_first h0 h1] at h
      exact ⟨checkT_ok h0, h0, by omega, firstE_zero h⟩
  · rw [booksE_tree h0] at h; exact absurd h h0

theorem book_num {l : List Queue} {x : Book} (h : BookOk l x) (t : Nat) : 0 ≤ takesT x t ∧ takesT x t ≤ 150 := by
  have := takesUp_num h.req (fun k hk => (h.bites k hk).1) x.Bites.length (Nat.le_refl _) t
  have := h.many
  unfold takesT
  omega

/-! ### what is taken of a queue -/
def takenT (l : List Queue) : List Book → Nat → Nat → Int
  | [], _ => fun _ => 0
  | x :: b, q => fun t => (if under l x.Req.Queue q = true then takesT x t else 0) + takenT l b q t

theorem takenT_append (l : List Queue) (q t : Nat) : ∀ b c, takenT l (b ++ c) q t = takenT l b q t + takenT l c q t
  | [], c => by simp [takenT]
  | x :: b, c => by
    have := takenT_append l q t b c
    simp only [List.cons_append, takenT]; omega
theorem takenT_snoc (l : List Queue) (q t : Nat) {b : List Book} {k : Nat} {x : Book} (h : b[k]? = some x) : takenT l (b.take (k + 1)) q t = takenT l (b.take k) q t + (if under l x.Req.Queue q = true then takesT x t else 0) := by
  obtain ⟨hk, e⟩ := List.getElem?_eq_some_iff.1 h
  rw [← List.take_append_getElem hk, takenT_append, e]
  simp [takenT]
theorem takenT_num {l : List Queue} (q t : Nat) : ∀ b, (∀ x ∈ b, BookOk l x) → 0 ≤ takenT l b q t ∧ takenT l b q t ≤ 150 * (b.length : Int)
  | [], _ => by simp [takenT]
  | x :: b, h => by
    have := takenT_num q t b (fun y hy => h y (List.mem_cons_of_mem _ hy))
    have := book_num (h x (List.mem_cons_self ..)) t
    simp only [takenT, List.length_cons]
    split <;> omega

/-! ### a table of tables, turned at some places -/
def addAt (F : Nat → Nat → Int) (f : Nat → Int) (q : Nat) : Nat → Nat → Int := fun k => if k = q then fun t => F k t + f t else F k
def addAll (F : Nat → Nat → Int) (f : Nat → Int) (xs : List Nat) : Nat → Nat → Int := xs.foldl (fun F q => addAt F f q) F
theorem addAll_snoc (F : Nat → Nat → Int) (f : Nat → Int) (xs : List Nat) (q : Nat) : addAll F f (xs ++ [q]) = addAt (addAll F f xs) f q := by simp [addAll]
theorem addAll_num {f : Nat → Int} {m : Int} {t : Nat} (hf : 0 ≤ f t ∧ f t ≤ m) : ∀ (xs : List Nat) (F : Nat → Nat → Int) (a : Int), (∀ k, 0 ≤ F k t ∧ F k t ≤ a) → ∀ k, 0 ≤ addAll F f xs k t ∧ addAll F f xs k t ≤ a + m * (xs.length : Int)
  | [], F, a, hF, k => by simpa [addAll] using hF k
  | x :: xs, F, a, hF, k => by
    have ih := addAll_num hf xs (addAt F f x) (a + m) (fun j => by
      have := hF j
      unfold addAt
      split <;> (try simp only []) <;> omega) k
    rw [show a + m * ((x :: xs).length : Int) = a + m + m * (xs.length : Int) by rw [List.length_cons, Int.natCast_succ, Int.mul_add]; omega]
    exact ih
theorem addAll_line {f : Nat → Int} (k t : Nat) : ∀ (xs : List Nat) (F : Nat → Nat → Int), xs.Nodup → addAll F f xs k t = F k t + (if k ∈ xs then f t else 0)
  | [], F, _ => by simp [addAll]
  | x :: xs, F, h => by
    have ih := addAll_line (f := f) k t xs (addAt F f x) (List.nodup_cons.1 h).2
    show addAll (addAt F f x) f xs k t = _
    rw [ih]
    have hx := (List.nodup_cons.1 h).1
    by_cases e : k = x
    · subst e
      rw [if_neg hx, if_pos (List.mem_cons_self ..)]
      simp [addAt]
    · have : addAt F f x k = F k := by simp [addAt, e]
      rw [this]
      by_cases hk : k ∈ xs
      · rw [if_pos hk, if_pos (List.mem_cons_of_mem _ hk)]
      · rw [if_neg hk, if_neg (fun h' => by rcases List.mem_cons.1 h' with h' | h'; exact e h'; exact hk h')]

theorem line_nodup {l : List Queue} (hp : ParsOk l) : ∀ (n : Nat) (q : Int), q < n → q < l.length → (lineL l q).Nodup
  | 0, q, h1, _ => by rw [lineL_neg (by omega)]; exact List.nodup_nil
  | n + 1, q, h1, h2 => by
    by_cases h : q < 0
    · rw [lineL_neg h]; exact List.nodup_nil
    · obtain ⟨k, rfl⟩ := Int.eq_ofNat_of_zero_le (by omega : 0 ≤ q)
      have hk : k < l.length := by omega
      have hpk := hp k hk
      rw [lineL_pos hp hk]
      have hlt : par l k < k := hpk.2
      refine List.nodup_cons.2 ⟨fun hm => ?_, line_nodup hp n _ (by omega) (by omega)⟩
      have := (lineL_lt hp (n + 1) (par l k) (by omega) (by omega) k hm).2
      omega

theorem under_mem {l : List Queue} {q : Int} {k : Nat} : (k ∈ lineL l q) ↔ under l q k = true := by
  rw [under_iff]
  constructor
  · intro h; exact ⟨k, h, rfl⟩
  · rintro ⟨j, h, e⟩
    have : j = k := by omega
    rw [← this]; exact h

/-- one more book -/
theorem addAll_book {l : List Queue} {b : List Book} (hp : ParsOk l) {m : Nat} {x : Book} (hx : b[m]? = some x) (hq : x.Req.Queue < l.length) (k : Nat) : (∀ t, addAll (takenT l (b.take m)) (takesT x) (lineL l x.Req.Queue) k t = takenT l (b.take (m + 1)) k t) := by
  intro t
  rw [addAll_line k t _ _ (line_nodup hp l.length _ hq hq), takenT_snoc l k t hx]
  by_cases h : k ∈ lineL l x.Req.Queue
  · rw [if_pos h, if_pos (under_mem.1 h)]
  · rw [if_neg h, if_neg (fun h' => h (under_mem.2 h'))]

/-! ### a block of slices -/
/-- a slice in none of these blocks -/
def ApartL (bs : List Nat) (v : Value) : Prop := ∀ a n c, v = .slice (some a) n c → a.block ∉ bs

/-- the block B holds n slices; what lies at k is fold (F k), in none of the blocks bs -/
def LoadsAt (bs : List Nat) (W : World) (B n : Nat) (F : Nat → Nat → Int) : Prop :=
  ∃ vs : List Value, vs.length = n ∧ RowAt 40 W B vs ∧ ∀ k v, vs[k]? = some v → RunsV W v (fold (F k)) ∧ ApartL bs v

theorem fold_ne (x : Nat → Int) : fold x ≠ [] := fun h => by have := shape_fold x; rw [h] at this; exact this

theorem runs_cells {W : World} {v : Value} {f : List Run} (h : RunsV W v f) (hf : f ≠ []) : ∃ b off cap, v = .slice (some ⟨b, off, none⟩) f.length cap ∧ b < W.heap.size ∧ (∃ n m, W.cell? ⟨b, off, none⟩ = some (.int .i64 n) ∧ W.cell? ⟨b, off + 1, none⟩ = some (.int .i64 m)) := by
  rcases h with ⟨rfl, _⟩ | ⟨b, off, cap, rfl, h1, h2, hl, h3, h4⟩
  · exact absurd rfl hf
  · cases f with
    | nil => exact absurd rfl hf
    | cons x f =>
      obtain ⟨e1, e2, _⟩ := h4 0 x rfl
      rw [Nat.zero_mul, Nat.add_zero] at e1 e2
      exact ⟨b, off, cap, rfl, h3, _, _, e1, e2⟩

theorem ApartL.at {bs : List Nat} {b off n c : Nat} (h : ApartL bs (.slice (some ⟨b, off, none⟩) n c)) : b ∉ bs := h _ _ _ rfl
theorem apart_at {bs : List Nat} {b off n c : Nat} (h : b ∉ bs) : ApartL bs (.slice (some ⟨b, off, none⟩) n c) := fun a m d e => by cases e; exact h
theorem runs_grown {W W' : World} {v : Value} {f : List Run} {row : Option Nat} {bs : List Nat} (h : RunsV W v f) (ha : ApartL bs v) (hg : W.grownBy W' row) (hr : ∀ r, row = some r → r ∈ bs) : RunsV W' v f :=
  runsV_grown h hg (fun a n c e he => ha a n c e (hr _ he.symm))

/-- what lies in cells is not turned with a block that is no cells -/
theorem runs_own {W W' : World} {v : Value} {f : List Run} {row : Option Nat} (h : RunsV W v f) (hf : f ≠ []) (hg : W.grownBy W' row) (hr : ∀ r, row = some r → ∃ o : Obj, W.heap[r]? = some o ∧ o.isCells = false) : RunsV W' v f := by
  obtain ⟨b, off, cap, rfl, hb, n, m, hc, _⟩ := runs_cells h hf
  refine runsV_grown h hg (fun a n c e he => ?_)
  cases e
  obtain ⟨o, ho, hc'⟩ := hr _ he.symm
  unfold World.cell? at hc
  rw [ho] at hc
  cases o <;> simp [Obj.isCells] at hc' <;> simp at hc

theorem LoadsAt.row {bs : List Nat} {W : World} {B n : Nat} {F : Nat → Nat → Int} (h : LoadsAt bs W B n F) {k : Nat} (hk : k < n) : ∃ v, W.cell? ⟨B, k, none⟩ = some v ∧ W.frozen? ⟨B, k, none⟩ = false ∧ RunsV W v (fold (F k)) ∧ ApartL bs v := by
  obtain ⟨vs, h1, h2, h3⟩ := h
  obtain ⟨v, hv⟩ := getA (f := vs) (k := k) (by omega)
  exact ⟨v, h2.cell hv, h2.free k, h3 k v hv⟩
theorem LoadsAt.ext {bs : List Nat} {W W' : World} {B n : Nat} {F : Nat → Nat → Int} (h : LoadsAt bs W B n F) (hx : Ext W W') : LoadsAt bs W' B n F := by
  obtain ⟨vs, h1, h2, h3⟩ := h
  exact ⟨vs, h1, h2.ext hx, fun k v hk => ⟨(h3 k v hk).1.mono hx, (h3 k v hk).2⟩⟩
theorem LoadsAt.grown {bs : List Nat} {W W' : World} {B n : Nat} {F : Nat → Nat → Int} {row : Option Nat} (h : LoadsAt bs W B n F) (hg : W.grownBy W' row) (hr : ∀ r, row = some r → r ∈ bs ∧ r ≠ B) : LoadsAt bs W' B n F := by
  obtain ⟨vs, h1, h2, h3⟩ := h
  exact ⟨vs, h1, h2.kept hg (fun e => (hr B e.symm).2 rfl), fun k v hk => ⟨runs_grown (h3 k v hk).1 (h3 k v hk).2 hg (fun r e => (hr r e).1), (h3 k v hk).2⟩⟩
theorem LoadsAt.own {bs : List Nat} {W W' : World} {B n : Nat} {F : Nat → Nat → Int} {row : Option Nat} (h : LoadsAt bs W B n F) (hg : W.grownBy W' row) (hr : ∀ r, row = some r → ∃ o : Obj, W.heap[r]? = some o ∧ o.isCells = false) : LoadsAt bs W' B n F := by
  obtain ⟨vs, h1, h2, h3⟩ := h
  refine ⟨vs, h1, h2.kept hg (fun e => ?_), fun k v hk => ⟨runs_own (h3 k v hk).1 (fold_ne _) hg hr, (h3 k v hk).2⟩⟩
  obtain ⟨o, ho, hc⟩ := hr B e.symm
  rw [show W.heap[B]? = _ from h2] at ho
  cases ho
  simp [Obj.isCells] at hc
theorem LoadsAt.set {bs : List Nat} {W : World} {B n : Nat} {F : Nat → Nat → Int} (h : LoadsAt bs W B n F) (hB : B ∈ bs) {q : Nat} {v : Value} {G : Nat → Int} (hv : RunsV W v (fold G)) (ha : ApartL bs v) : LoadsAt bs (W.setCell ⟨B, q, none⟩ v) B n (fun k => if k = q then G else F k) := by
  obtain ⟨vs, h1, h2, h3⟩ := h
  have hg := grown_set W B q v
  have hr : ∀ r, some B = some r → r ∈ bs := fun r e => by cases e; exact hB
  refine ⟨vs.set q v, by simpa using h1, h2.set q v, fun k u hk => ?_⟩
  by_cases e : k = q
  · subst e
    show RunsV _ u (fold (if k = k then G else F k)) ∧ _
    rw [if_pos rfl]
    have hlt : k < vs.length := by have := (List.getElem?_eq_some_iff.1 hk).1; simpa using this
    rw [List.getElem?_set_self hlt] at hk
    cases hk
    exact ⟨runs_grown hv ha hg hr, ha⟩
  · show RunsV _ u (fold (if k = q then G else F k)) ∧ _
    rw [if_neg e]
    rw [List.getElem?_set_ne (fun h => e h.symm)] at hk
    exact ⟨runs_grown (h3 k u hk).1 (h3 k u hk).2 hg hr, (h3 k u hk).2⟩
/-- a block that was not there yet is none of theirs -/
theorem LoadsAt.also {bs : List Nat} {W : World} {B n : Nat} {F : Nat → Nat → Int} (h : LoadsAt bs W B n F) {q : Nat} (hq : W.heap.size ≤ q) : LoadsAt (q :: bs) W B n F := by
  obtain ⟨vs, h1, h2, h3⟩ := h
  refine ⟨vs, h1, h2, fun k v hk => ⟨(h3 k v hk).1, ?_⟩⟩
  obtain ⟨b, off, cap, rfl, hb, _⟩ := runs_cells (h3 k v hk).1 (fold_ne _)
  have := (h3 k _ hk).2.at
  exact apart_at (fun h => by rcases List.mem_cons.1 h with h | h; omega; exact this h)
theorem LoadsAt.less {bs cs : List Nat} {W : World} {B n : Nat} {F : Nat → Nat → Int} (h : LoadsAt bs W B n F) (hs : ∀ x ∈ cs, x ∈ bs) : LoadsAt cs W B n F := by
  obtain ⟨vs, h1, h2, h3⟩ := h
  exact ⟨vs, h1, h2, fun k v hk => ⟨(h3 k v hk).1, fun a m c e hm => (h3 k v hk).2 a m c e (hs _ hm)⟩⟩
theorem LoadsAt.congr {bs : List Nat} {W : World} {B n : Nat} {F G : Nat → Nat → Int} (h : LoadsAt bs W B n F) (e : ∀ k, k < n → ∀ t, F k t = G k t) : LoadsAt bs W B n G := by
  obtain ⟨vs, h1, h2, h3⟩ := h
  refine ⟨vs, h1, h2, fun k v hk => ?_⟩
  have hk' : k < n := by have := (List.getElem?_eq_some_iff.1 hk).1; omega
  rw [show G k = F k from funext fun t => (e k hk' t).symm]
  exact h3 k v hk
/-- runs of numbers do not lie in a block of slices -/
theorem LoadsAt.apart {bs : List Nat} {W : World} {B n : Nat} {F : Nat → Nat → Int} (h : LoadsAt bs W B n F) {v : Value} {f : List Run} (hv : RunsV W v f) (hf : f ≠ []) : ApartL [B] v := by
  obtain ⟨vs, h1, h2, h3⟩ := h
  obtain ⟨b, off, cap, rfl, hb, m, _, hc, _⟩ := runs_cells hv hf
  refine apart_at (fun h => ?_)
  rcases List.mem_cons.1 h with rfl | h
  · rw [cell_of_row _ _ _ _ _ _ h2] at hc
    have hk := hc
    rw [List.getElem?_toArray] at hk
    obtain ⟨b', off', cap', e, _⟩ := runs_cells (h3 _ _ hk).1 (fold_ne _)
    cases e
  · cases h
/-- as a slice -/
theorem LoadsAt.loads {bs : List Nat} {W : World} {B n : Nat} {F : Nat → Nat → Int} (h : LoadsAt bs W B n F) (hn : n ≤ 5) : LoadsV W (.slice (some ⟨B, 0, none⟩) n n) ((List.range n).map fun k => fold (F k)) := by
  obtain ⟨vs, h1, h2, h3⟩ := h
  refine .inr ⟨B, 0, n, by simp, by simp, by omega, by simp; omega, h2.lt, fun k x hk => ?_⟩
  have hkn : k < n := by have := (List.getElem?_eq_some_iff.1 hk).1; simpa using this
  obtain ⟨v, hv⟩ := getA (f := vs) (k := k) (by omega)
  have e : x = fold (F k) := by simp [hkn] at hk; exact hk.symm
  rw [e, Nat.zero_add, Nat.mul_one]
  exact ⟨v, h2.cell hv, (h3 k v hv).1⟩

end Go.Proofs.Ytchblkemofncoaa
