/- Who cancels makes room for what he had; the law BookFree. -/
import Derived.Test.YtfbcmifclaaacaaRight
set_option linter.unusedVariables false
namespace Go.Proofs.Ytfbcmifclaaacaa
open Go.RowKit

/-! ### the plain law -/
theorem sumH_num {r : Request} {t : Nat} : ∀ {b : List Bite}, (∀ x ∈ b, 0 ≤ pN r x.Piece.toNat) → 0 ≤ sumH r b t
  | [], _ => Int.le_refl _
  | x :: b, h => by
    have h1 := sumH_num (r := r) (t := t) (fun y hy => h y (List.mem_cons_of_mem _ hy))
    have h2 := h x (List.mem_cons_self ..)
    simp only [sumH]
    unfold hillT
    split <;> omega
/-- bites that are well made, and whose sum there is room for, are held -/
theorem held_at_of {r : Request} : ∀ (b : List Bite) (y : Nat → Int), (∀ x ∈ b, (0 ≤ x.Piece ∧ x.Piece < r.Pieces.length ∧ 0 ≤ x.At) ∧ 1 ≤ pN r x.Piece.toNat ∧ 1 ≤ pL r x.Piece.toNat ∧ x.At.toNat + (pL r x.Piece.toNat).toNat ≤ r.Until.toNat) → r.Until ≤ 48 →
    (∀ t, t < 48 → sumH r b t = 0 ∨ sumH r b t ≤ y t) → HeldAt r y b
  | [], _, _, _, _ => trivial
  | x :: b, y, h, h48, hs => by
    obtain ⟨g1, g2, g3, g4⟩ := h x (List.mem_cons_self ..)
    have hb := fun z hz => h z (List.mem_cons_of_mem _ hz)
    have e : (x.At + pL r x.Piece.toNat).toNat = x.At.toNat + (pL r x.Piece.toNat).toNat := by omega
    have hn : ∀ t, 0 ≤ sumH r b t := fun t => sumH_num (fun z hz => by have := (hb z hz).2.1; omega)
    refine ⟨g1, ⟨g4, fun i k1 k2 => ?_⟩, held_at_of b _ hb h48 (fun t ht => ?_)⟩
    · have h1 := hs i (by omega)
      have h2 := hn i
      simp only [sumH] at h1
      rw [e, hillT_in k1 k2] at h1
      omega
    · have h1 := hs t ht
      have h2 := hn t
      simp only [sumH] at h1
      rw [e] at h1
      show sumH r b t = 0 ∨ sumH r b t ≤ y t + hillT x.At.toNat (x.At.toNat + (pL r x.Piece.toNat).toNat) (-(pN r x.Piece.toNat)) t
      rw [hillT_neg]
      have h3 : 0 ≤ hillT x.At.toNat (x.At.toNat + (pL r x.Piece.toNat).toNat) (pN r x.Piece.toNat) t := by unfold hillT; split <;> omega
      omega
theorem book_at_is {s : State} (h : stateE s = 0) {o : Nat} {y : Book} (ho : s.Books[o]? = some y) : findB s y.Id = ((o : Int), 0) := by
  obtain ⟨hf, _⟩ := stateE_zero h
  obtain ⟨_, _, hids, _⟩ := formE_zero hf
  have hol := (List.getElem?_eq_some_iff.1 ho).1
  have hix : idxOf (isId y.Id) s.Books = (o : Int) := idxOf_at ho (by unfold isId; exact decide_eq_true rfl) (fun j z hj hz => by
    have := ids_mono hids j o hj hol
    rw [idAt_some hz, idAt_some ho] at this
    unfold isId; exact decide_eq_false (by omega))
  rw [findB_is h (by rw [hix]; omega), hix]
theorem takenT_less {l : List Queue} {b : List Book} {o : Nat} {y : Book} (ho : b[o]? = some y) (q t : Nat) : takenT l b q t = takenT l (b.eraseIdx o) q t + (if under l y.Req.Queue q = true then takesT y t else 0) := by
  obtain ⟨hk, e⟩ := List.getElem?_eq_some_iff.1 ho
  rw [List.eraseIdx_eq_take_drop_succ]
  conv => lhs; rw [← List.take_append_drop o b, List.drop_eq_getElem_cons hk, e]
  rw [takenT_append, takenT_append]
  simp only [takenT]
  omega
theorem less_right {s : State} (h : stateE s = 0) (o : Nat) : stateE (lessS s o) = 0 := by
  obtain ⟨hf, _⟩ := stateE_zero h
  obtain ⟨_, ⟨k1, k2, _, _⟩, _, h4⟩ := formE_zero hf
  have hsub : (s.Books.eraseIdx o).Sublist s.Books := List.eraseIdx_sublist ..
  exact right_sub h hsub (Int.le_refl _) k2 (by
    rw [List.any_eq_false] at h4 ⊢
    exact fun x hx => h4 x (hsub.subset hx))
/-- what a book takes there is room for, when it is gone -/
theorem freed_held {s : State} (h : stateE s = 0) {o : Nat} {y : Book} (ho : s.Books[o]? = some y) (hfrom : ¬ y.Req.From < s.Clock) :
    heldGo y.Req (fold (roomT s.Tree (s.Books.eraseIdx o) y.Req.Queue)) y.Bites = true := by
  have hX := less_right h o
  obtain ⟨hf, _⟩ := stateE_zero h
  obtain ⟨h1, ⟨k1, k2, k3, k4⟩, _, _⟩ := formE_zero hf
  obtain ⟨ok, h0, h12, hbok⟩ := booksE_zero h1
  have bk := hbok y (List.mem_of_getElem? ho)
  have hfit := right_fits h
  have hro := bk.req
  obtain ⟨⟨q1, q2, q3⟩, q4⟩ := req_range hro
  have hm := bk.meets
  rw [meetsR_iff] at hm
  obtain ⟨_, m2, _⟩ := hm
  have hlow := step_low m2
  obtain ⟨Q, hQ⟩ : ∃ Q : Nat, y.Req.Queue = (Q : Int) := ⟨y.Req.Queue.toNat, by have := bk.q0; omega⟩
  have hQl : Q < s.Tree.length := by have := bk.q1; omega
  have hfine : Fine (fold (roomT s.Tree (s.Books.eraseIdx o) y.Req.Queue)) := by rw [hQ]; exact room_fine hX hQl
  have hmem : ∀ x ∈ y.Bites, ∃ k, k < y.Bites.length ∧ bP y.Bites k = x.Piece ∧ bA y.Bites k = x.At := fun x hx => by
    obtain ⟨k, hk, rfl⟩ := List.mem_iff_getElem.1 hx
    obtain ⟨e1, e2⟩ := bite_at (List.getElem?_eq_getElem hk)
    exact ⟨k, hk, e1, e2⟩
  have hx0 : ∀ x ∈ y.Bites, (0 ≤ x.Piece ∧ x.Piece < y.Req.Pieces.length ∧ 0 ≤ x.At) ∧ 1 ≤ pN y.Req x.Piece.toNat ∧ 1 ≤ pL y.Req x.Piece.toNat ∧ x.At.toNat + (pL y.Req x.Piece.toNat).toNat ≤ y.Req.Until.toNat ∧ s.Clock ≤ x.At := fun x hx => by
    obtain ⟨k, hk, e1, e2⟩ := hmem x hx
    have s1 := (m2 k hk).is
    have s2 := (m2 k hk).from_
    have s4 := (m2 k hk).fits
    have s5 := hlow k hk
    obtain ⟨⟨p1, p2⟩, p3, p4⟩ := q4 (bP y.Bites k).toNat (by omega)
    rw [e1] at s1 s4 s5 p1 p2 p3 p4
    rw [e2] at s2 s4
    exact ⟨⟨s5, s1, by omega⟩, p3, p1, by omega, by omega⟩
  refine held_of hro _ _ (sp (fold (roomT s.Tree (s.Books.eraseIdx o) y.Req.Queue))) hfine (fun _ _ => rfl) (held_at_of _ _ (fun x hx => ⟨(hx0 x hx).1, (hx0 x hx).2.1, (hx0 x hx).2.2.1, (hx0 x hx).2.2.2.1⟩) (by omega) (fun t ht => ?_))
  by_cases hc : s.Clock ≤ (t : Int)
  · right
    rw [sp_fold ht, ← takes_sum bk t, hQ]
    have hge : ∀ j ∈ lineL s.Tree (Q : Int), takesT y t ≤ leftT s.Tree (s.Books.eraseIdx o) j t ∧ leftT s.Tree (s.Books.eraseIdx o) j t ≤ 50 := fun j hj => by
      have hjl := (lineL_lt ok.pars s.Tree.length (Q : Int) (by omega) (by omega) j hj).1
      have g1 := hfit t (by omega) ht j hjl
      have g2 := takenT_less (l := s.Tree) ho j t
      rw [if_pos (by rw [hQ]; exact under_mem.1 hj)] at g2
      have hsub : (s.Books.eraseIdx o).Sublist s.Books := List.eraseIdx_sublist ..
      have g3 := (left_num ok (fun x hx => hbok x (hsub.subset hx)) (by have := hsub.length_le; omega) j t hjl).2
      refine ⟨?_, g3⟩
      unfold leftT at g1 ⊢
      omega
    exact (minTo_num (g := fun j => leftT s.Tree (s.Books.eraseIdx o) j t) (a := takesT y t) (b := 50) (lineL s.Tree (Q : Int)) hge (by rw [lineL_pos ok.pars hQl]; simp)).1
  · left
    have key : ∀ (b : List Bite), (∀ x ∈ b, s.Clock ≤ x.At) → sumH y.Req b t = 0 := by
      intro b
      induction b with
      | nil => intro _; rfl
      | cons x b ih =>
        intro hb
        have h1 := hb x (List.mem_cons_self ..)
        simp only [sumH]
        rw [ih (fun z hz => hb z (List.mem_cons_of_mem _ hz)), hillT_out (by omega)]
        rfl
    exact key _ (fun x hx => (hx0 x hx).2.2.2.2)
/-- who is cancelled, and asked for again -/
theorem free_law {s : State} (h : stateE s = 0) {o : Nat} {y : Book} (ho : s.Books[o]? = some y) :
    cancelR s y.Id = (lessS s o, 0) ∧ ∃ X m f, submitR (lessS s o) y.Req = (X, m, f) ∧ (f = 0 ∨ f = 9 ∨ f = 2 ∨ y.Req.Kind = 1) := by
  refine ⟨cancelR_ok (book_at_is h ho), ?_⟩
  have hX := less_right h o
  obtain ⟨hf, _⟩ := stateE_zero h
  obtain ⟨h1, _⟩ := formE_zero hf
  obtain ⟨ok, h0, h12, hbok⟩ := booksE_zero h1
  have hmy := List.mem_of_getElem? ho
  have bk := hbok y hmy
  have hq : reqE (lessS s o).Tree y.Req = 0 := reqE_ok h0 bk.req ⟨bk.q0, bk.q1⟩
  by_cases hlate : y.Req.From < s.Clock
  · have hm := mayE_late hX hq hlate
    exact ⟨_, _, _, submitR_bad (by rw [hm]; decide), .inr (.inl hm)⟩
  · have hm := mayE_ok hX hq hlate
    by_cases h2 : (lessS s o).Books.length = 12 ∨ (lessS s o).Next = 1048576
    · exact ⟨_, _, _, submitR_many hm h2, .inr (.inr (.inl rfl))⟩
    · by_cases h3 : placeL (plotT (lessS s o) y.Req) y.Req = []
      · refine ⟨_, _, _, submitR_full hm h2 h3, .inr (.inr (.inr ?_))⟩
        apply Classical.byContradiction
        intro hk
        exact (place_sure bk.req hk bk.meets (freed_held h ho hlate)).1 h3
      · exact ⟨_, _, _, submitR_ok hm h2 h3, .inl rfl⟩

theorem keep8' {w1 w' : World} {a0 a1 a2 a3 a4 a5 a6 a7 : Addr} {z a b c d e f g : Value} (hx : Ext w1 w') (h0 : w1.cell? a0 = some z) (b0 : w1.cell? a1 = some a) (b1 : w1.cell? a2 = some b) (b2 : w1.cell? a3 = some c) (b3 : w1.cell? a4 = some d) (b4 : w1.cell? a5 = some e) (b5 : w1.cell? a6 = some f) (b6 : w1.cell? a7 = some g) :
    w'.cell? a0 = some z ∧ w'.cell? a1 = some a ∧ w'.cell? a2 = some b ∧ w'.cell? a3 = some c ∧ w'.cell? a4 = some d ∧ w'.cell? a5 = some e ∧ w'.cell? a6 = some f ∧ w'.cell? a7 = some g := by
  have k : ∀ {a : Addr} {v : Value}, w1.cell? a = some v → w'.cell? a = some v := fun {a v} h => by
    rw [hx.cell (World.block_lt_of_cell? w1 a h)]; exact h
  exact ⟨k h0, k b0, k b1, k b2, k b3, k b4, k b5, k b6⟩
theorem books_few {s : State} (h : stateE s = 0) : s.Books.length ≤ 12 := by
  obtain ⟨hf, _⟩ := stateE_zero h
  obtain ⟨hb, _⟩ := formE_zero hf
  exact (booksE_zero hb).2.2.1
/-- what is told of a place that is asked for again -/
def FreeE (f kind : Int) : Prop := f = 0 ∨ f = 9 ∨ f = 2 ∨ (f ≠ 0 ∧ f ≠ 9 ∧ f ≠ 2 ∧ kind = 1)
theorem freeE_of {f kind : Int} (h : f = 0 ∨ f = 9 ∨ f = 2 ∨ kind = 1) : FreeE f kind := by unfold FreeE; omega

set_option maxRecDepth 100000 in
set_option maxHeartbeats 8000000 in
theorem bookFree_any (w : World) (sv : Value) (s : State) (k : Int) (hs : StateV w sv s) (hk : I64 k) :
    Calls Try.prog 7 #[sv, .int .i64 k] w fun e w' => e = .returned (.bool true) ∧ Ext w w' := by
  obtain ⟨cs, rfl, tv, bv, rfl, ht, hb, _⟩ := hs
  have BG := hid (fun (W : World) => bookBegun_true W)
  have CK := hid (fun (W : World) (h : Ext w W) => planCheck_any W tv bv s (ht.mono h) (hb.mono h))
  have HS := hid (fun (W : World) (hx : Ext (w.alloc (.cells #[.int .i64 s.Clock, .int .i64 s.Next, tv, bv] 25)) W) => stateCells hx)
  have X0 := hid ((Ext.rf w).al (.cells #[.int .i64 s.Clock, .int .i64 s.Next, tv, bv] 25))
  by_cases h0 : stateE s = 0
  · rw [h0] at CK
    have hz12 := books_few h0
    by_cases hz0 : s.Books.length = 0
    · have hz' := eqT (a := (s.Books.length : Int)) (b := 0) (by omega)
      obtain ⟨ta, tc, rfl, _, _, _⟩ := ht.form
      obtain ⟨ba, bc, rfl, _, _, _⟩ := hb.form
      clear ht hb h0 hz0 hz12
      generalize s.Tree.length = tn at *
      generalize s.Books.length = z at *
      go_enter Try.func7, Try.ntmps7
      go_wp2_with fail
      refine (CK.out _ X0.out).mono ?_
      rintro e w2 ⟨rfl, hx2⟩
      obtain ⟨a0, a1, a2, a3⟩ := HS.out w2 hx2
      go_wp2_with fail
      refine (BG.out _).mono ?_
      rintro e w5 ⟨rfl, hx5⟩
      go_wp2_with fail
      go_ret
      exact ⟨rfl, X0.out.tr (hx2.tr hx5)⟩
    · have hz' := eqF (a := (s.Books.length : Int)) (b := 0) (by omega)
      have hin := chooseR_in (c := k) (n := (s.Books.length : Int)) (by omega)
      have CO := hid (fun W => choose_any k (s.Books.length : Int) W hk (by omega) (I64.of (by omega) (by omega)))
      obtain ⟨o, ho⟩ : ∃ o : Nat, chooseR k (s.Books.length : Int) = o := ⟨(chooseR k (s.Books.length : Int)).toNat, by omega⟩
      rw [ho] at CO
      have hoz : o < s.Books.length := by omega
      clear hin ho
      obtain ⟨y, hyk⟩ := getA (f := s.Books) (k := o) hoz
      obtain ⟨hcan, X, m, f, hsub, hff⟩ := free_law h0 hyk
      have HFF := freeE_of hff
      have CA := hid (fun (W : World) (h : Ext w W) => Cancel_is (w := W) (c := s.Clock) (n := s.Next) (l := s.Tree) (b := s.Books) (c' := s.Clock) (n' := s.Next) (l' := s.Tree) (b' := s.Books.eraseIdx o) hcan (ht.mono h) (hb.mono h))
      obtain ⟨ba, bc, rfl, _, _, _, hbE⟩ := books_at hb
      obtain ⟨bb, bo, rfl, hbb, hE⟩ := hbE (by omega)
      obtain ⟨pv, biv, g0, g1, g2, g3, g4, g5, g6, hpv, hbi⟩ := ebook_cells (hE o y hyk)
      have hyI : I64 y.Req.Queue ∧ I64 y.Req.From ∧ I64 y.Req.Until ∧ I64 y.Req.Kind := by
        obtain ⟨cs, ⟨qs, _, _, ⟨_, _, _, hI⟩, _, _⟩, _⟩ := hE o y hyk
        exact hI
      have SU := hid (fun (W : World) (a b : Value) (h : Ext w W) (h1 : QueuesV W a s.Tree) (h2 : BooksV W b (s.Books.eraseIdx o)) => Submit_is (w := W) (c := s.Clock) (n := s.Next) (c' := X.Clock) (n' := X.Next) (l' := X.Tree) (b' := X.Books) hsub h1 h2 (hpv.mono h) hyI)
      have HG0 := hid g0
      have HG1 := hid g1
      have HG2 := hid g2
      have HG3 := hid g3
      have HG4 := hid g4
      have HG5 := hid g5
      have HG6 := hid g6
      obtain ⟨ta, tc, rfl, _, _, _⟩ := ht.form
      obtain ⟨pa, pc, rfl, _, _, _⟩ := hpv.form
      obtain ⟨bia, bic, rfl, _, _, _⟩ := hbi.form
      clear ht hb h0 hcan hsub hff hbE hE hyk hpv hbi hyI g0 g1 g2 g3 g4 g5 g6 hbb
      generalize s.Tree.length = tn at *
      generalize s.Books.length = z at *
      generalize y.Req.Pieces.length = pn at *
      generalize y.Bites.length = bn at *
      have i1 : (0 : Int) ≤ (o : Int) := by omega
      have i2 : (o : Int) < (z : Int) := by omega
      have i3 := deF (show ¬ (o : Int) < 0 by omega)
      have i4 := deF (show ¬ (z : Int) ≤ (o : Int) by omega)
      have i5 := deF (show ¬ z ≤ o by omega)
      go_enter Try.func7, Try.ntmps7
      go_wp2_with fail
      refine (CK.out _ X0.out).mono ?_
      rintro e w4 ⟨rfl, hx4⟩
      have X14 := hid hx4
      have X04 := hid (X0.out.tr hx4)
      obtain ⟨a0, a1, a2, a3⟩ := HS.out w4 hx4
      have c0 := X04.out.ce' HG0.out
      have c1 := X04.out.ce' HG1.out
      have c2 := X04.out.ce' HG2.out
      have c3 := X04.out.ce' HG3.out
      have c4 := X04.out.ce' HG4.out
      have c5 := X04.out.ce' HG5.out
      have c6 := X04.out.ce' HG6.out
      clear hx4
      go_wp2_with fail
      clear a0 a1 a2
      have X6 := hid (((Ext.rf w4).al (.cells #[.int .i64 y.Id, .int .i64 y.Req.Queue, .int .i64 y.Req.From, .int .i64 y.Req.Until, .int .i64 y.Req.Kind, .slice pa pn pc, .slice bia bn bic] 40)).dr)
      have HBC := hid (fun (V : World) (h : Ext (w4.alloc (.cells #[.int .i64 y.Id, .int .i64 y.Req.Queue, .int .i64 y.Req.From, .int .i64 y.Req.Until, .int .i64 y.Req.Kind, .slice pa pn pc, .slice bia bn bic] 40)).drew V) => bookCells ((Ext.dr (Ext.rf (w4.alloc (.cells #[.int .i64 y.Id, .int .i64 y.Req.Queue, .int .i64 y.Req.From, .int .i64 y.Req.Until, .int .i64 y.Req.Kind, .slice pa pn pc, .slice bia bn bic] 40)))).tr h))
      have HB0 := hid (fun (V : World) (h : Ext (w4.alloc (.cells #[.int .i64 y.Id, .int .i64 y.Req.Queue, .int .i64 y.Req.From, .int .i64 y.Req.Until, .int .i64 y.Req.Kind, .slice pa pn pc, .slice bia bn bic] 40)).drew V) => show V.cell? ⟨w4.heap.size, 0, none⟩ = some (.int .i64 y.Id) from ((Ext.dr (Ext.rf (w4.alloc (.cells #[.int .i64 y.Id, .int .i64 y.Req.Queue, .int .i64 y.Req.From, .int .i64 y.Req.Until, .int .i64 y.Req.Kind, .slice pa pn pc, .slice bia bn bic] 40)))).tr h).ce' (by rw [cell_of_row _ _ _ _ _ _ (heap_alloc_new w4 (.cells #[.int .i64 y.Id, .int .i64 y.Req.Queue, .int .i64 y.Req.From, .int .i64 y.Req.Until, .int .i64 y.Req.Kind, .slice pa pn pc, .slice bia bn bic] 40))]; rfl))
      go_region_held3 (fun W' => W'.cell? ⟨w.heap.size, 3, none⟩ = some (.slice (some ⟨bb, bo, none⟩) z bc) ∧ W'.cell? ⟨bb, bo + o * 7, none⟩ = some (.int .i64 y.Id) ∧ W'.cell? ⟨bb, bo + o * 7 + 1, none⟩ = some (.int .i64 y.Req.Queue) ∧ W'.cell? ⟨bb, bo + o * 7 + 2, none⟩ = some (.int .i64 y.Req.From) ∧ W'.cell? ⟨bb, bo + o * 7 + 3, none⟩ = some (.int .i64 y.Req.Until) ∧ W'.cell? ⟨bb, bo + o * 7 + 4, none⟩ = some (.int .i64 y.Req.Kind) ∧ W'.cell? ⟨bb, bo + o * 7 + 5, none⟩ = some (.slice pa pn pc) ∧ W'.cell? ⟨bb, bo + o * 7 + 6, none⟩ = some (.slice bia bn bic))
        ((refine keep8' ?_ a3 c0 c1 c2 c3 c4 c5 c6; (repeat (first | exact Ext.rf _ | refine Ext.dr ?_ | refine Ext.al ?_ _ | refine Ext.se ?_ (by simp) _))))
        (first
          | (go_at_call 12; refine (CO.out _).mono ?_; rintro e wq ⟨rfl, rfl⟩))
      clear a3 c0 c1 c2 c3 c4 c5 c6 i1 i2 i3 i4 i5
      all_goals generalize (w4.alloc (.cells #[.int .i64 y.Id, .int .i64 y.Req.Queue, .int .i64 y.Req.From, .int .i64 y.Req.Until, .int .i64 y.Req.Kind, .slice pa pn pc, .slice bia bn bic] 40)).drew = w6 at *
      all_goals obtain ⟨a0, a1, a2, a3⟩ := HS.out w6 (X14.out.tr X6.out)
      all_goals have f0 := HB0.out w6 (Ext.rf _)
      all_goals go_wp2_with fail
      all_goals clear a0 a1 a2 a3 f0
      all_goals refine (CA.out _ (X04.out.tr X6.out)).mono ?_
      all_goals rintro e w7 ⟨u, v, rfl, hu, hv, hx7⟩
      all_goals obtain ⟨ux, cx, rfl, _, _, _⟩ := hu.form
      all_goals obtain ⟨vx, dx, rfl, _, _, _⟩ := hv.form
      all_goals have hal := (Ext.rf w7).al (.cells #[.int .i64 s.Clock, .int .i64 s.Next, .slice ux s.Tree.length cx, .slice vx (s.Books.eraseIdx o).length dx] 25)
      all_goals have SU' := hid (SU.out _ _ _ (X04.out.tr (X6.out.tr (hx7.tr hal))) (hu.mono hal) (hv.mono hal))
      all_goals have X7 := hid (hx7.tr hal)
      all_goals obtain ⟨f1, f2, f3, f4, f5, f6⟩ := HBC.out w7 hx7
      all_goals have hlt := World.block_lt_of_cell? _ _ f1
      all_goals clear SU CA hu hv hx7 hal
      all_goals go_wp2_with fail
      all_goals clear f1 f2 f3 f4 f5 f6 hlt
      all_goals refine SU'.out.mono ?_
      all_goals rintro e w8 ⟨u, v, rfl, hu, hv, hx8⟩
      all_goals obtain ⟨uz, cz, rfl, _, _, _⟩ := hu.form
      all_goals obtain ⟨vz, dz, rfl, _, _, _⟩ := hv.form
      all_goals have hal := (Ext.rf w8).al (.cells #[.int .i64 X.Clock, .int .i64 X.Next, .slice uz X.Tree.length cz, .slice vz X.Books.length dz] 25)
      all_goals have X8 := hid (X7.out.tr (hx8.tr hal))
      all_goals clear SU' hu hv hx8 hal
      all_goals go_wp2_with fail
      all_goals refine (BG.out _).mono ?_
      all_goals rintro e w9 ⟨rfl, hx9⟩
      all_goals have X9 := hid (X8.out.tr hx9)
      all_goals obtain ⟨f1, f2, f3, f4, f5, f6⟩ := HBC.out w9 X9.out
      all_goals clear hx9
      all_goals rcases HFF with rfl | rfl | rfl | ⟨j1, j2, j3, j4⟩
      all_goals first
        | (rw [j4] at f4; replace j1 := eqF j1; replace j2 := eqF j2; replace j3 := eqF j3; go_wp2_with fail)
        | go_wp2_with fail
      all_goals go_ret
      all_goals exact ⟨rfl, X04.out.tr (X6.out.tr X9.out)⟩
  · have hne := neT h0
    obtain ⟨ta, tc, rfl, _, _, _⟩ := ht.form
    obtain ⟨ba, bc, rfl, _, _, _⟩ := hb.form
    clear ht hb h0
    generalize s.Tree.length = tn at *
    generalize s.Books.length = z at *
    generalize stateE s = se at *
    go_enter Try.func7, Try.ntmps7
    go_wp2_with fail
    refine (CK.out _ X0.out).mono ?_
    rintro e w2 ⟨rfl, hx2⟩
    go_wp2_with fail
    refine (BG.out _).mono ?_
    rintro e w5 ⟨rfl, hx5⟩
    go_wp2_with fail
    go_ret
    exact ⟨rfl, X0.out.tr (hx2.tr hx5)⟩

end Go.Proofs.Ytfbcmifclaaacaa
