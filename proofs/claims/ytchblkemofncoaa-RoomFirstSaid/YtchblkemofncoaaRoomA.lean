/- Walk of room.In: what is free in a queue, and in all above it. -/
import Derived.Test.YtchblkemofncoaaLoadD
set_option linter.unusedVariables false
set_option linter.unusedSimpArgs false
namespace Go.Proofs.Ytchblkemofncoaa
open Go.RowKit
attribute [local go_sem] Oper.semAt_some

/-- the least of some numbers, in their order -/
def minTo (g : Nat → Int) : List Nat → Int
  | [] => 0
  | k :: ks => ks.foldl (fun a k => min a (g k)) (g k)
theorem minTo_one (g : Nat → Int) (k : Nat) : minTo g [k] = g k := rfl
theorem minTo_snoc (g : Nat → Int) {ks : List Nat} (k : Nat) (h : ks ≠ []) : minTo g (ks ++ [k]) = min (minTo g ks) (g k) := by
  cases ks with
  | nil => exact absurd rfl h
  | cons j ks => simp [minTo, List.foldl_append]
theorem minTo_num {g : Nat → Int} {a b : Int} : ∀ (ks : List Nat), (∀ k ∈ ks, a ≤ g k ∧ g k ≤ b) → ks ≠ [] → a ≤ minTo g ks ∧ minTo g ks ≤ b
  | [], _, h => absurd rfl h
  | k :: ks, hg, _ => by
    have key : ∀ (ks : List Nat) (c : Int), (∀ k ∈ ks, a ≤ g k ∧ g k ≤ b) → a ≤ c ∧ c ≤ b → a ≤ ks.foldl (fun a k => min a (g k)) c ∧ ks.foldl (fun a k => min a (g k)) c ≤ b := by
      intro ks
      induction ks with
      | nil => intro c _ h; exact h
      | cons j ks ih =>
        intro c hk h
        refine ih _ (fun i hi => hk i (List.mem_cons_of_mem _ hi)) ?_
        have := hk j (List.mem_cons_self ..)
        show a ≤ min c (g j) ∧ min c (g j) ≤ b
        omega
    exact key ks _ (fun i hi => hg i (List.mem_cons_of_mem _ hi)) (hg k (List.mem_cons_self ..))
def minF (G : Nat → Nat → Int) (ks : List Nat) : Nat → Int := fun t => minTo (fun k => G k t) ks

/-- what is left of a queue, and room -/
def leftT (l : List Queue) (b : List Book) (k : Nat) : Nat → Int := fun t => sp (cp l k) t - takenT l b k t
def roomT (l : List Queue) (b : List Book) (q : Int) : Nat → Int := minF (leftT l b) (lineL l q)

theorem cap_num {l : List Queue} (h : TreeOk l) {k : Nat} (hk : k < l.length) (t : Nat) : 0 ≤ sp (cp l k) t ∧ sp (cp l k) t ≤ 50 := by
  have hc := h.caps k hk
  obtain ⟨r, hr, e⟩ := sp_mem (cp l k) t (fun e => by have := hc.1.1; rw [e] at this; exact this)
  rw [e]
  exact hc.2 r hr
theorem left_num {l : List Queue} {b : List Book} (h : TreeOk l) (hb : ∀ x ∈ b, BookOk l x) (h12 : b.length ≤ 12) (k t : Nat) (hk : k < l.length) : -1800 ≤ leftT l b k t ∧ leftT l b k t ≤ 50 := by
  have h1 := cap_num h hk t
  have h2 := takenT_num (l := l) k t b hb
  unfold leftT
  omega

theorem room1 (a b : Int) (w : World) (ha : -1000000000 ≤ a) (ha' : a ≤ 1000000000) (hb : -1000000000 ≤ b) (hb' : b ≤ 1000000000) : Calls Try.prog 138 #[.int .i64 a, .int .i64 b] w fun e w' => e = .returned (.int .i64 (a - b)) ∧ w' = w := by
  go_enter Try.func138, Try.ntmps138
  go_wp2
  go_ret
  exact ⟨rfl, rfl⟩
theorem room2 (a b : Int) (w : World) : Calls Try.prog 139 #[.int .i64 a, .int .i64 b] w fun e w' => e = .returned (.int .i64 (min a b)) ∧ w' = w := by
  by_cases h : b < a
  · rw [show min a b = b by omega]
    go_enter Try.func139, Try.ntmps139
    go_wp2
    go_ret
    exact ⟨rfl, rfl⟩
  · rw [show min a b = a by omega]
    go_enter Try.func139, Try.ntmps139
    go_wp2
    go_ret
    exact ⟨rfl, rfl⟩

/-- what is left of one queue, by Zip -/
theorem zip_left (G : Nat) (heg : ∀ (args : Array Value) (w : World), (callFunc G args).run Try.prog w = .ok (.enter G args) w)
    (hof : ∀ (a b : Int) (w : World), -1000000000 ≤ a → a ≤ 1000000000 → -1000000000 ≤ b → b ≤ 1000000000 → Calls Try.prog G #[.int .i64 a, .int .i64 b] w fun e w' => e = .returned (.int .i64 (a - b)) ∧ w' = w)
    (w : World) (vf vg : Value) (l : List Queue) (b : List Book) (k : Nat) (hk : k < l.length) (ok : TreeOk l) (hb : ∀ x ∈ b, BookOk l x) (h12 : b.length ≤ 12) (hf : RunsV w vf (cp l k)) (hg : RunsV w vg (fold (takenT l b k))) :
    Calls Try.prog 118 #[vf, vg, .func (.func G) #[] #[]] w (RetRunsF w (fold (leftT l b k))) := by
  have hc := ok.caps k hk
  have h := Zip_anyF w vf vg _ _ hf hg hc.1.1 (shape_fold _) G (fun a b => a - b) heg (fun a ha c hcm => by
    have h1 := hc.2 a ha
    unfold CapNum at h1
    have h2 := fold_all (p := fun m => 0 ≤ m ∧ m ≤ 1800) (fun t _ => by have := takenT_num (l := l) k t b hb; omega) c hcm
    exact ⟨I64.of (by omega) (by omega), fun V => hof _ _ V (by omega) (by omega) (by omega) (by omega)⟩)
  rw [fold_congr (y := leftT l b k) (fun t ht => by rw [sp_fold ht]; rfl)] at h
  exact h
/-- the lesser, by Zip -/
theorem zip_min (w : World) (vf vg : Value) (x y : Nat → Int) (hf : RunsV w vf (fold x)) (hg : RunsV w vg (fold y)) (hx : ∀ t, t < 48 → -100000000 ≤ x t ∧ x t ≤ 100000000) (hy : ∀ t, t < 48 → -100000000 ≤ y t ∧ y t ≤ 100000000) :
    Calls Try.prog 118 #[vf, vg, .func (.func 139) #[] #[]] w (RetRunsF w (fold fun t => min (x t) (y t))) := by
  have h := Zip_anyF w vf vg _ _ hf hg (shape_fold x) (shape_fold y) 139 (fun a b => min a b) (enters_of Try.func139 (by kernel_rfl) rfl) (fun a ha b hb => by
    have h1 := fold_all (p := fun m => -100000000 ≤ m ∧ m ≤ 100000000) hx a ha
    have h2 := fold_all (p := fun m => -100000000 ≤ m ∧ m ≤ 100000000) hy b hb
    exact ⟨I64.of (by omega) (by omega), fun V => room2 _ _ V⟩)
  rw [fold_congr (y := fun t => min (x t) (y t)) (fun t ht => by rw [sp_fold ht, sp_fold ht])] at h
  exact h

/-- what has come out, behind the queues pre -/
def OutV (bs : List Nat) (W : World) (v : Value) (G : Nat → Nat → Int) (pre : List Nat) : Prop :=
  (pre = [] ∧ v = .slice none 0 0) ∨ (pre ≠ [] ∧ RunsV W v (fold (minF G pre)) ∧ ApartL bs v)

/-- between two rounds -/
structure RoomIn (w w1 : World) (BT BO Bq top : Nat) (tv : Value) (G : Nat → Nat → Int) (pre : List Nat) (W : World) : Prop where
  boxt : Boxed W BT 125 tv
  boxo : ∃ v, Boxed W BO 40 v ∧ OutV [BO, Bq] W v G pre
  ext : Ext w1 W
  hi : top ≤ W.heap.size

structure RoomLie (w1 : World) (BT BO Bq top : Nat) : Prop where
  t : w1.heap.size ≤ BT ∧ BT < top ∧ BT ≠ Bq ∧ BT ≠ BO
  o : w1.heap.size ≤ BO ∧ BO < top ∧ BO ≠ Bq
  q : w1.heap.size ≤ Bq ∧ Bq < top

section
variable {w w1 : World} {BT BO Bq top : Nat} {tv : Value} {G : Nat → Nat → Int} {pre : List Nat} {W W' : World}
theorem OutV.grown {bs : List Nat} {v : Value} {row : Option Nat} (h : OutV bs W v G pre) (hg : W.grownBy W' row) (hr : ∀ r, row = some r → r ∈ bs) : OutV bs W' v G pre := by
  rcases h with h | ⟨h1, h2, h3⟩
  · exact .inl h
  · exact .inr ⟨h1, runs_grown h2 h3 hg hr, h3⟩
theorem RoomIn.grown {row : Option Nat} (h : RoomIn w w1 BT BO Bq top tv G pre W) (hl : RoomLie w1 BT BO Bq top) (hg : W.grownBy W' row) (hr : ∀ r, row = some r → r = Bq) : RoomIn w w1 BT BO Bq top tv G pre W' := by
  obtain ⟨v, hv, ho⟩ := h.boxo
  exact ⟨h.boxt.kept hg (fun e => hl.t.2.2.1 (hr _ e.symm)), ⟨v, hv.kept hg (fun e => hl.o.2.2 (hr _ e.symm)), ho.grown hg (fun r e => by rw [hr r e]; simp)⟩,
    Below.grown h.ext hg h.ext.size (fun k e => by rw [hr k e]; exact hl.q.1), Nat.le_trans h.hi hg.size⟩
theorem RoomIn.ownFrom {β : Type} (hl : RoomLie w1 BT BO Bq top) (G : Nat → Nat → Int) (f : β → List Nat) : OwnFrom top (fun s W => RoomIn w w1 BT BO Bq top tv G (f s) W) := fun s W W' row h hg hr => by
  obtain ⟨v, hv, ho⟩ := h.boxo
  refine ⟨h.boxt.kept hg (fun e => by have := (hr _ e.symm).1; have := hl.t.2.1; omega), ⟨v, hv.kept hg (fun e => by have := (hr _ e.symm).1; have := hl.o.2.1; omega), ?_⟩,
    Below.grown h.ext hg h.ext.size (fun k e => by have := (hr k e).1; have := hl.q; omega), Nat.le_trans h.hi hg.size⟩
  rcases ho with ho | ⟨h1, h2, h3⟩
  · exact .inl ho
  · exact .inr ⟨h1, runs_own h2 (fold_ne _) hg (fun r e => (hr r e).2), h3⟩
theorem RoomIn.mono (h : RoomIn w w1 BT BO Bq top tv G pre W) (hx : Ext W W') : RoomIn w w1 BT BO Bq top tv G pre W' := by
  obtain ⟨v, hv, ho⟩ := h.boxo
  refine ⟨(hx.block BT h.boxt.lt).trans h.boxt, ⟨v, (hx.block BO hv.lt).trans hv, ?_⟩, h.ext.tr hx, Nat.le_trans h.hi hx.size⟩
  rcases ho with ho | ⟨h1, h2, h3⟩
  · exact .inl ho
  · exact .inr ⟨h1, h2.mono hx, h3⟩
/-- the store into out -/
theorem RoomIn.step (h : RoomIn w w1 BT BO Bq top tv G pre W) (hl : RoomLie w1 BT BO Bq top) {V : World} (hx : Ext W V) {v : Value} {k : Nat} (hv : RunsV V v (fold (minF G (pre ++ [k])))) (hf : ∀ a n c, v = .slice (some a) n c → top ≤ a.block) :
    RoomIn w w1 BT BO Bq top tv G (pre ++ [k]) (V.setCell ⟨BO, 0, none⟩ v) := by
  have hg := grown_set V BO 0 v
  have ha : ApartL [BO, Bq] v := by
    obtain ⟨b, off, cap, rfl, _⟩ := runs_cells hv (fold_ne _)
    have := hf _ _ _ rfl
    have h1 := hl.o
    have h2 := hl.q
    exact apart_at (fun hm => by simp at hm; rcases hm with rfl | rfl <;> simp at this <;> omega)
  obtain ⟨u, hu, _⟩ := h.boxo
  have hu1 : Boxed V BO 40 u := (hx.block BO hu.lt).trans hu
  have ht1 : Boxed V BT 125 tv := (hx.block BT h.boxt.lt).trans h.boxt
  exact ⟨ht1.kept hg (fun e => hl.t.2.2.2 (by have := Option.some.inj e; exact this)), ⟨v, hu1.set v, .inr ⟨by simp, runs_grown hv ha hg (fun r e => by cases e; simp), ha⟩⟩,
    (h.ext.tr hx).se hl.o.1 _, Nat.le_trans (Nat.le_trans h.hi hx.size) hg.size⟩
end

end Go.Proofs.Ytchblkemofncoaa
