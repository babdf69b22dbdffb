/- The laws on requests: ReqTells, ReqTrue. -/
import Derived.Test.YtchblkemofncoaaLawR
set_option linter.unusedVariables false
namespace Go.Proofs.Ytchblkemofncoaa
open Go.RowKit

/-! ### plainly -/
theorem maxTo_le {x : Nat → Int} {m : Int} : ∀ {n}, (∀ k, k ≤ n → x k ≤ m) → maxTo x n ≤ m
  | 0, h => h 0 (Nat.le_refl _)
  | n + 1, h => by
    have h1 := maxTo_le (x := x) (m := m) (n := n) (fun k hk => h k (by omega))
    have h2 := h (n + 1) (Nat.le_refl _)
    simp only [maxTo]; omega
theorem le_maxTo {x : Nat → Int} : ∀ {n k}, k ≤ n → x k ≤ maxTo x n
  | 0, k, h => by obtain rfl : k = 0 := by omega
                  exact Int.le_refl _
  | n + 1, k, h => by
    simp only [maxTo]
    by_cases e : k = n + 1
    · subst e; omega
    · have := le_maxTo (x := x) (n := n) (k := k) (by omega); omega

/-- a request of another kind -/
def ofKind (r : Request) (k : Int) : Request := ⟨r.Queue, r.From, r.Until, k, r.Pieces⟩
theorem reqOk_kind {r : Request} {k m : Int} (h : ReqOk (ofKind r k)) (hm : KindOk m) : ReqOk (ofKind r m) := ⟨hm, h.many, h.range⟩
theorem meets_order {r : Request} {b : List Bite} (h : meetsR (ofKind r 4) b = true) : meetsR (ofKind r 3) b = true := by
  rw [meetsR_iff] at h ⊢
  obtain ⟨h1, h2, h3⟩ := h
  refine ⟨reqOk_kind h1 (by decide), fun k hk => ?_, ?_⟩
  · have s := h2 k hk
    exact ⟨s.up, s.is, s.from_, s.until_, s.fits, fun h0 _ => by have := s.tight h0 rfl; exact Int.le_of_eq this.symm, fun _ h4 => absurd h4 (by show ¬ (3 : Int) = 4; decide)⟩
  · unfold CountOk at h3 ⊢
    rw [if_neg (by show ¬ (4 : Int) = 2; decide)] at h3
    rw [if_neg (by show ¬ (3 : Int) = 2; decide)]; exact h3
theorem meets_all {r : Request} {b : List Bite} (h : meetsR (ofKind r 3) b = true) : meetsR (ofKind r 1) b = true := by
  rw [meetsR_iff] at h ⊢
  obtain ⟨h1, h2, h3⟩ := h
  refine ⟨reqOk_kind h1 (by decide), fun k hk => ?_, ?_⟩
  · have s := h2 k hk
    exact ⟨s.up, s.is, s.from_, s.until_, s.fits, fun _ h3 => absurd h3 (by show ¬ (1 : Int) = 3; decide), fun _ h4 => absurd h4 (by show ¬ (1 : Int) = 4; decide)⟩
  · unfold CountOk at h3 ⊢
    rw [if_neg (by show ¬ (3 : Int) = 2; decide)] at h3
    rw [if_neg (by show ¬ (1 : Int) = 2; decide)]; exact h3

/-- what meets a request is over within it -/
theorem meets_over {r : Request} {b : List Bite} (h : meetsR r b = true) : ∃ n, overR r b = (n, 0) ∧ 1 ≤ b.length ∧ n ≤ r.Until ∧ r.From < n ∧ bA b 0 < n ∧ I64 n := by
  rw [meetsR_iff] at h
  obtain ⟨h1, h2, h3⟩ := h
  obtain ⟨m1, m3⟩ := h1.many
  obtain ⟨s0, s1, s2⟩ := h1.range.1
  have hlen : 1 ≤ b.length := by
    unfold CountOk at h3
    split at h3 <;> omega
  have hlow := step_low h2
  have hin : ∀ k, k < b.length → BiteIn r b k := fun k hk => ⟨hlow k hk, (h2 k hk).is, by have := (h2 k hk).from_; omega, by have := (h2 k hk).until_; omega⟩
  have hov : ∀ k, k < b.length → overA r b k ≤ r.Until := fun k hk => by have := (h2 k hk).fits; unfold overA; omega
  have n0 := over_num h1 (hin 0 (by omega))
  have hm1 : maxTo (overA r b) (b.length - 1) ≤ r.Until := maxTo_le (fun k hk => hov k (by omega))
  have hm2 : overA r b 0 ≤ maxTo (overA r b) (b.length - 1) := le_maxTo (by omega)
  have f0 := (h2 0 (by omega)).from_
  have e0 : overA r b 0 = bA b 0 + pL r (bP b 0).toNat := rfl
  refine ⟨_, overR_yes h1 hlen hin, hlen, hm1, by omega, by omega, I64.of (by omega) (by omega)⟩

/-! ### the laws -/
set_option maxRecDepth 100000 in
set_option maxHeartbeats 8000000 in
theorem reqTells_any (w : World) (v : Value) (l : List Queue) (rv : Value) (r : Request) (bv : Value) (b : List Bite) (hv : QueuesV w v l) (hr : ReqV w rv r) (hb : BitesV w bv b) :
    Calls Try.prog 5 #[v, rv, bv] w fun e w' => e = .returned (.bool true) ∧ Ext w w' := by
  obtain ⟨cs, rfl, pv, rfl, hp, i1, i2, i3, i4⟩ := hr
  have hal := hid (fun (o : Obj) => (Ext.rf w).al o)
  have O := hid (fun (W : World) (h : Ext w W) => Over_any W pv bv r b (hp.mono h) (hb.mono h))
  have O2 := hid (fun (W : World) (h : Ext w W) => OverOf_any W pv bv r b (hp.mono h) (hb.mono h))
  have B := hid (fun (W : World) => reqBegun_true W)
  have C1 := hid (fun (W : World) (h : Ext w W) => reqCheck_any W v pv l r (hv.mono h) (hp.mono h))
  have C2 := hid (fun (W : World) (h : Ext w W) => CheckReq_any W v pv l r (hv.mono h) (hp.mono h))
  have M1 := hid (fun (W : World) (h : Ext w W) => Meets_any W pv bv r b (hp.mono h) (hb.mono h))
  have M2 := hid (fun (W : World) (h : Ext w W) => MeetsOf_any W pv bv r b (hp.mono h) (hb.mono h))
  obtain ⟨pa, pc, rfl, _, _, hpl⟩ := hp.form
  obtain ⟨ba, bc, rfl, _, _, hbl⟩ := hb.form
  obtain ⟨qa, qc, rfl, _, _, hql⟩ := hv.form
  clear hp hb hv i1 i2 i3 i4
  generalize overR r b = ov at *
  obtain ⟨n, e⟩ := ov
  generalize meetsR r b = m at *
  generalize reqE l r = c at *
  have hnn : (n == n) = true := by simp
  have hee : (e == e) = true := by simp
  have hcc : (c == c) = true := by simp
  have hmm : (m == m) = true := by simp
  generalize r.Pieces.length = pn at *
  generalize b.length = bn at *
  generalize l.length = qn at *
  go_enter Try.func5, Try.ntmps5
  go_wp2_with fail
  refine (O.out _ (hal.out _)).mono ?_
  rintro e1 w1 ⟨rfl, hx1⟩
  obtain ⟨_, _, _, _, _⟩ := reqCells hx1
  have hx01 := (hal.out _).tr hx1
  go_wp2_with fail
  refine (O2.out _ hx01).mono ?_
  rintro e2 w2 ⟨rfl, hx2⟩
  obtain ⟨b0, b1, b2, b3, b4⟩ := reqCells (hx1.tr hx2)
  have hx02 := hid (hx01.tr hx2)
  have hbl : w.heap.size < w2.heap.size := by have := (hx1.tr hx2).size; simp at this; omega
  generalize w.heap.size = BR at *
  clear hx1 hx2 hx01
  go_wp2_with fail
  replace b0 := fun p : Later w2 => p.cell b0
  replace b1 := fun p : Later w2 => p.cell b1
  replace b2 := fun p : Later w2 => p.cell b2
  replace b3 := fun p : Later w2 => p.cell b3
  replace b4 := fun p : Later w2 => p.cell b4
  have QB := hid (fun p : Later w2 => later_of p (B.out p.v))
  have QC1 := hid (fun p : Later w2 => later_of p (C1.out p.v (hx02.out.tr p.h)))
  have QC2 := hid (fun p : Later w2 => later_of p (C2.out p.v (hx02.out.tr p.h)))
  have QM1 := hid (fun p : Later w2 => later_of p (M1.out p.v (hx02.out.tr p.h)))
  have QM2 := hid (fun p : Later w2 => later_of p (M2.out p.v (hx02.out.tr p.h)))
  clear O O2 B C1 C2 M1 M2
  refine region_later (by kernel_rfl) (by kernel_rfl) ?_
  repeat (go_big_quiet_step (first | (go_at_call 30; exact QB.out _) | (go_at_call 31; exact QC1.out _) | (go_at_call 32; exact QC2.out _) | (go_at_call 33; exact QM1.out _) | (go_at_call 34; exact QM2.out _)))
  refine wpQuiet_nil ?_
  rintro w' ⟨p, rfl⟩
  go_wp2_with fail
  go_ret
  exact ⟨rfl, hx02.out.tr p.h⟩

theorem three_new (w : World) (o : Obj) : (((w.alloc o).alloc o).alloc o).drew.heap[w.heap.size]? = some o ∧ (((w.alloc o).alloc o).alloc o).drew.heap[w.heap.size + 1]? = some o ∧ (((w.alloc o).alloc o).alloc o).drew.heap[w.heap.size + 1 + 1]? = some o ∧ Ext w (((w.alloc o).alloc o).alloc o).drew := by
  obtain ⟨h1, h2, h3, h4, hx⟩ := four_new w o o o o
  have keep : ∀ (W : World) (o : Obj) (j : Nat), j < W.heap.size → (W.alloc o).heap[j]? = W.heap[j]? := fun W o j h => ((Ext.rf W).al o).block j h
  have s1 : w.heap.size < (((w.alloc o).alloc o).alloc o).heap.size := by simp; omega
  have s2 : w.heap.size + 1 < (((w.alloc o).alloc o).alloc o).heap.size := by simp
  have s3 : w.heap.size + 1 + 1 < (((w.alloc o).alloc o).alloc o).heap.size := by simp
  rw [keep _ _ _ s1] at h1
  rw [keep _ _ _ s2] at h2
  rw [keep _ _ _ s3] at h3
  exact ⟨h1, h2, h3, ((((Ext.rf w).al o).al o).al o).dr⟩
theorem three_kinds {V : World} {x5 x6 x7 : Nat} {a b c d e : Value} {t : TypeId} (h5 : V.heap[x5]? = some (.cells #[a, b, c, d, e] t (0, 0))) (h6 : V.heap[x6]? = some (.cells #[a, b, c, d, e] t (0, 0))) (h7 : V.heap[x7]? = some (.cells #[a, b, c, d, e] t (0, 0))) (n1 : x5 ≠ x6) (n2 : x5 ≠ x7) (n3 : x6 ≠ x7) :
    (((V.setCell ⟨x5, 3, none⟩ (.int .i64 4)).setCell ⟨x6, 3, none⟩ (.int .i64 3)).setCell ⟨x7, 3, none⟩ (.int .i64 1)).heap[x5]? = some (.cells #[a, b, c, .int .i64 4, e] t (0, 0)) ∧
    (((V.setCell ⟨x5, 3, none⟩ (.int .i64 4)).setCell ⟨x6, 3, none⟩ (.int .i64 3)).setCell ⟨x7, 3, none⟩ (.int .i64 1)).heap[x6]? = some (.cells #[a, b, c, .int .i64 3, e] t (0, 0)) ∧
    (((V.setCell ⟨x5, 3, none⟩ (.int .i64 4)).setCell ⟨x6, 3, none⟩ (.int .i64 3)).setCell ⟨x7, 3, none⟩ (.int .i64 1)).heap[x7]? = some (.cells #[a, b, c, .int .i64 1, e] t (0, 0)) := by
  have s5 : (V.setCell ⟨x5, 3, none⟩ (.int .i64 4)).heap[x5]? = some (.cells #[a, b, c, .int .i64 4, e] t (0, 0)) := by rw [heap_setCell_same V x5 3 _ _ _ h5]; rfl
  have s6 : (V.setCell ⟨x5, 3, none⟩ (.int .i64 4)).heap[x6]? = some (.cells #[a, b, c, d, e] t (0, 0)) := by rw [heap_setCell_other V ⟨x5, 3, none⟩ x6 _ (fun e => n1 e.symm)]; exact h6
  have s7 : (V.setCell ⟨x5, 3, none⟩ (.int .i64 4)).heap[x7]? = some (.cells #[a, b, c, d, e] t (0, 0)) := by rw [heap_setCell_other V ⟨x5, 3, none⟩ x7 _ (fun e => n2 e.symm)]; exact h7
  generalize V.setCell ⟨x5, 3, none⟩ (.int .i64 4) = V1 at *
  have t5 : (V1.setCell ⟨x6, 3, none⟩ (.int .i64 3)).heap[x5]? = some (.cells #[a, b, c, .int .i64 4, e] t (0, 0)) := by rw [heap_setCell_other V1 ⟨x6, 3, none⟩ x5 _ n1]; exact s5
  have t6 : (V1.setCell ⟨x6, 3, none⟩ (.int .i64 3)).heap[x6]? = some (.cells #[a, b, c, .int .i64 3, e] t (0, 0)) := by rw [heap_setCell_same V1 x6 3 _ _ _ s6]; rfl
  have t7 : (V1.setCell ⟨x6, 3, none⟩ (.int .i64 3)).heap[x7]? = some (.cells #[a, b, c, d, e] t (0, 0)) := by rw [heap_setCell_other V1 ⟨x6, 3, none⟩ x7 _ (fun e => n3 e.symm)]; exact s7
  generalize V1.setCell ⟨x6, 3, none⟩ (.int .i64 3) = V2 at *
  refine ⟨?_, ?_, ?_⟩
  · rw [heap_setCell_other V2 ⟨x7, 3, none⟩ x5 _ n2]; exact t5
  · rw [heap_setCell_other V2 ⟨x7, 3, none⟩ x6 _ n3]; exact t6
  · rw [heap_setCell_same V2 x7 3 _ _ _ t7]; rfl

theorem keepR {w1 w' : World} {BR : Nat} {a b c d e : Value} (hx : Ext w1 w') (b0 : w1.cell? ⟨BR, 0, none⟩ = some a) (b1 : w1.cell? ⟨BR, 1, none⟩ = some b) (b2 : w1.cell? ⟨BR, 2, none⟩ = some c) (b3 : w1.cell? ⟨BR, 3, none⟩ = some d) (b4 : w1.cell? ⟨BR, 4, none⟩ = some e) :
    w'.cell? ⟨BR, 0, none⟩ = some a ∧ w'.cell? ⟨BR, 1, none⟩ = some b ∧ w'.cell? ⟨BR, 2, none⟩ = some c ∧ w'.cell? ⟨BR, 3, none⟩ = some d ∧ w'.cell? ⟨BR, 4, none⟩ = some e :=
  ⟨hx.ce' b0, hx.ce' b1, hx.ce' b2, hx.ce' b3, hx.ce' b4⟩

set_option maxRecDepth 100000 in
set_option maxHeartbeats 8000000 in
theorem reqTrue_any (w : World) (rv : Value) (r : Request) (bv : Value) (b : List Bite) (hr : ReqV w rv r) (hb : BitesV w bv b) :
    Calls Try.prog 6 #[rv, bv] w fun e w' => e = .returned (.bool true) ∧ Ext w w' := by
  obtain ⟨cs, rfl, pv, rfl, hp, i1, i2, i3, i4⟩ := hr
  have hal := hid (fun (o : Obj) => (Ext.rf w).al o)
  have MX4 := hid (show ∀ (W : World), Ext w W → Calls Try.prog 33 #[.agg #[.int .i64 r.Queue, .int .i64 r.From, .int .i64 r.Until, .int .i64 4, pv], bv] W fun e w' => e = .returned (.bool (meetsR (ofKind r 4) b)) ∧ Ext W w' from fun W h => Meets_any W pv bv (ofKind r 4) b (hp.mono h) (hb.mono h))
  have MX3 := hid (show ∀ (W : World), Ext w W → Calls Try.prog 33 #[.agg #[.int .i64 r.Queue, .int .i64 r.From, .int .i64 r.Until, .int .i64 3, pv], bv] W fun e w' => e = .returned (.bool (meetsR (ofKind r 3) b)) ∧ Ext W w' from fun W h => Meets_any W pv bv (ofKind r 3) b (hp.mono h) (hb.mono h))
  have MX1 := hid (show ∀ (W : World), Ext w W → Calls Try.prog 33 #[.agg #[.int .i64 r.Queue, .int .i64 r.From, .int .i64 r.Until, .int .i64 1, pv], bv] W fun e w' => e = .returned (.bool (meetsR (ofKind r 1) b)) ∧ Ext W w' from fun W h => Meets_any W pv bv (ofKind r 1) b (hp.mono h) (hb.mono h))
  have O := hid (fun (W : World) (h : Ext w W) => Over_any W pv bv r b (hp.mono h) (hb.mono h))
  have B := hid (fun (W : World) => reqBegun_true W)
  have M := hid (fun (W : World) (h : Ext w W) => Meets_any W pv bv r b (hp.mono h) (hb.mono h))
  have HXY := hid (show meetsR (ofKind r 4) b = true → meetsR (ofKind r 3) b = true from fun h => meets_order h)
  have HYZ := hid (show meetsR (ofKind r 3) b = true → meetsR (ofKind r 1) b = true from fun h => meets_all h)
  have HOV := hid (show meetsR r b = true → ∃ n, overR r b = (n, 0) ∧ 1 ≤ b.length ∧ n ≤ r.Until ∧ r.From < n ∧ bA b 0 < n ∧ I64 n from fun h => meets_over h)
  have HB0 := hid (show 1 ≤ b.length → ∃ bb bo bc, bv = .slice (some ⟨bb, bo, none⟩) b.length bc ∧ w.cell? ⟨bb, bo + 1, none⟩ = some (.int .i64 (bA b 0)) ∧ I64 (bA b 0) from fun h1 => by
    rcases hb with ⟨rfl, _⟩ | ⟨bb, bo, bc, rfl, h2, h3, h4, h5, h6⟩
    · simp at h1
    · obtain ⟨x, hx⟩ := getA (f := b) (k := 0) (by omega)
      have := h6 0 x hx
      refine ⟨bb, bo, bc, rfl, ?_, ?_⟩
      · have e := this.2.1; rw [Nat.zero_mul, Nat.add_zero] at e; rw [(bite_at hx).2]; exact e
      · rw [(bite_at hx).2]; exact this.2.2.2)
  obtain ⟨pa, pc, rfl, _, _, hpl⟩ := hp.form
  obtain ⟨ba, bc, rfl, _, _, hbl⟩ := hb.form
  clear hp hb
  generalize meetsR (ofKind r 4) b = x at *
  generalize meetsR (ofKind r 3) b = y at *
  generalize meetsR (ofKind r 1) b = z at *
  generalize meetsR r b = m at *
  generalize overR r b = ov at *
  generalize bA b 0 = b0A at *
  generalize r.Pieces.length = pn at *
  generalize b.length = bn at *
  go_enter Try.func6, Try.ntmps6
  go_wp2_with fail
  have hx1 := hal.out (.cells #[.int .i64 r.Queue, .int .i64 r.From, .int .i64 r.Until, .int .i64 r.Kind, .slice pa pn pc] 46)
  obtain ⟨b0, b1, b2, b3, b4⟩ := reqCells (Ext.rf (w.alloc (.cells #[.int .i64 r.Queue, .int .i64 r.From, .int .i64 r.Until, .int .i64 r.Kind, .slice pa pn pc] 46)))
  have hbw : w.heap.size < (w.alloc (.cells #[.int .i64 r.Queue, .int .i64 r.From, .int .i64 r.Until, .int .i64 r.Kind, .slice pa pn pc] 46)).heap.size := by simp
  generalize w.alloc (.cells #[.int .i64 r.Queue, .int .i64 r.From, .int .i64 r.Until, .int .i64 r.Kind, .slice pa pn pc] 46) = w1 at *
  have HX1 := hid hx1
  clear hx1 hal
  have HBR := hid (fun (W : World) (h : Ext w1 W) => keepR h b0 b1 b2 b3 b4)
  go_region_held3 (fun w' => w'.cell? ⟨w.heap.size, 0, none⟩ = some (.int .i64 r.Queue) ∧ w'.cell? ⟨w.heap.size, 1, none⟩ = some (.int .i64 r.From) ∧ w'.cell? ⟨w.heap.size, 2, none⟩ = some (.int .i64 r.Until) ∧ w'.cell? ⟨w.heap.size, 3, none⟩ = some (.int .i64 r.Kind) ∧ w'.cell? ⟨w.heap.size, 4, none⟩ = some (.slice pa pn pc)) ((refine keepR ?_ b0 b1 b2 b3 b4; (repeat (first | exact Ext.rf _ | refine Ext.dr ?_ | refine Ext.al ?_ _ | refine Ext.se ?_ (by simp) _)))) (fail)
  -- SIX WAYS
  · obtain ⟨r0, r1, r2, hx12⟩ := three_new w1 (.cells #[.int .i64 r.Queue, .int .i64 r.From, .int .i64 r.Until, .int .i64 r.Kind, .slice pa pn pc] 46)
    obtain ⟨V, hV⟩ : ∃ V, (((w1.alloc (.cells #[.int .i64 r.Queue, .int .i64 r.From, .int .i64 r.Until, .int .i64 r.Kind, .slice pa pn pc] 46)).alloc (.cells #[.int .i64 r.Queue, .int .i64 r.From, .int .i64 r.Until, .int .i64 r.Kind, .slice pa pn pc] 46)).alloc (.cells #[.int .i64 r.Queue, .int .i64 r.From, .int .i64 r.Until, .int .i64 r.Kind, .slice pa pn pc] 46)).drew = V := ⟨_, rfl⟩
    rw [hV] at r0 r1 r2 hx12 ⊢
    have hSw : w.heap.size ≤ w1.heap.size := HX1.out.size
    have HXV := hid hx12
    clear hV hx12 b0 b1 b2 b3 b4
    obtain ⟨S0, hS0⟩ : ∃ S0, w1.heap.size = S0 := ⟨_, rfl⟩
    rw [hS0] at r0 r1 r2 hSw ⊢
    obtain ⟨d0, d1, d2, d3, d4⟩ := rowCells5 r0 (Ext.rf V)
    obtain ⟨e0, e1, e2, e3, e4⟩ := rowCells5 r1 (Ext.rf V)
    obtain ⟨g0, g1, g2, g3, g4⟩ := rowCells5 r2 (Ext.rf V)
    have z0 := frozen_of_row _ _ 3 _ _ r0
    have z1 := frozen_of_row _ _ 3 _ _ r1
    have z2 := frozen_of_row _ _ 3 _ _ r2
    obtain ⟨q5, q6, q7⟩ := three_kinds (x5 := S0) (x6 := (S0 + 1)) (x7 := (S0 + 1 + 1)) r0 r1 r2 (by omega) (by omega) (by omega)
    have HX5 := hid (((HXV.out.se (b := S0) (o := 3) (by omega) (.int .i64 4)).se (b := (S0 + 1)) (o := 3) (by omega) (.int .i64 3)).se (b := (S0 + 1 + 1)) (o := 3) (by omega) (.int .i64 1))
    have Q5 := hid q5
    have Q6 := hid q6
    have Q7 := hid q7
    clear q5 q6 q7 r0 r1 r2 HXV hS0
    go_wp2_with fail
    obtain ⟨V', hV'⟩ : ∃ V', ((V.setCell ⟨S0, 3, none⟩ (.int .i64 4)).setCell ⟨(S0 + 1), 3, none⟩ (.int .i64 3)).setCell ⟨(S0 + 1 + 1), 3, none⟩ (.int .i64 1) = V' := ⟨_, rfl⟩
    rw [hV'] at Q5 Q6 Q7 HX5 ⊢
    clear hV' z0 z1 z2 d0 d1 d2 d3 d4 e0 e1 e2 e3 e4 g0 g1 g2 g3 g4 hSw
    replace d0 := fun p : Later V' => (rowCells5 Q5.out p.h).1
    replace d1 := fun p : Later V' => (rowCells5 Q5.out p.h).2.1
    replace d2 := fun p : Later V' => (rowCells5 Q5.out p.h).2.2.1
    replace d3 := fun p : Later V' => (rowCells5 Q5.out p.h).2.2.2.1
    replace d4 := fun p : Later V' => (rowCells5 Q5.out p.h).2.2.2.2
    replace e0 := fun p : Later V' => (rowCells5 Q6.out p.h).1
    replace e1 := fun p : Later V' => (rowCells5 Q6.out p.h).2.1
    replace e2 := fun p : Later V' => (rowCells5 Q6.out p.h).2.2.1
    replace e3 := fun p : Later V' => (rowCells5 Q6.out p.h).2.2.2.1
    replace e4 := fun p : Later V' => (rowCells5 Q6.out p.h).2.2.2.2
    replace g0 := fun p : Later V' => (rowCells5 Q7.out p.h).1
    replace g1 := fun p : Later V' => (rowCells5 Q7.out p.h).2.1
    replace g2 := fun p : Later V' => (rowCells5 Q7.out p.h).2.2.1
    replace g3 := fun p : Later V' => (rowCells5 Q7.out p.h).2.2.2.1
    replace g4 := fun p : Later V' => (rowCells5 Q7.out p.h).2.2.2.2
    have QX := hid (fun p : Later V' => later_of p (MX4.out p.v (HX1.out.tr (HX5.out.tr p.h))))
    have QY := hid (fun p : Later V' => later_of p (MX3.out p.v (HX1.out.tr (HX5.out.tr p.h))))
    have QZ := hid (fun p : Later V' => later_of p (MX1.out p.v (HX1.out.tr (HX5.out.tr p.h))))
    refine region_later (by kernel_rfl) (by kernel_rfl) ?_
    repeat (go_big_quiet_step (first | (with_reducible exact QX.out _) | (with_reducible exact QY.out _) | (with_reducible exact QZ.out _)))
    refine wpQuiet_nil ?_
    rintro w' ⟨p, rfl⟩
    have HXP := hid (HX5.out.tr p.h)
    obtain ⟨b0, b1, b2, b3, b4⟩ := HBR.out p.v HXP.out
    generalize p.v = P1 at *
    clear d0 d1 d2 d3 d4 e0 e1 e2 e3 e4 g0 g1 g2 g3 g4 Q5 Q6 Q7 QX QY QZ HX5 p
    have fin : Hid (x = true → y = true) ∧ Hid (y = true → z = true) := ⟨HXY, HYZ⟩
    clear HXY HYZ
    cases x <;> cases y <;> cases z <;> first | exact absurd (fin.1.out rfl) Bool.false_ne_true | exact absurd (fin.2.out rfl) Bool.false_ne_true | skip
    all_goals
      clear fin
      cases m
      · go_wp2_with fail
        refine (M.out _ (HX1.out.tr HXP.out)).mono ?_
        rintro e1 P2 ⟨rfl, hp2⟩
        go_wp2_with fail
        refine (B.out _).mono ?_
        rintro e1 P3 ⟨rfl, hp3⟩
        go_wp2_with fail
        go_ret
        exact ⟨rfl, HX1.out.tr (HXP.out.tr (hp2.tr hp3))⟩
      · obtain ⟨n, rfl, h1, h2, h3, h4, h5⟩ := HOV.out rfl
        obtain ⟨bb, bo, bc', hbv, hbc, hbi⟩ := HB0.out h1
        simp only [Value.slice.injEq, true_and] at hbv
        obtain ⟨rfl, rfl⟩ := hbv
        have hn0 := eqF (a := (bn : Int)) (b := 0) (by omega)
        have h4' : ¬ n ≤ b0A := by omega
        go_wp2_with fail
        refine (M.out _ (HX1.out.tr HXP.out)).mono ?_
        rintro e1 P2 ⟨rfl, hp2⟩
        obtain ⟨b0', b1', b2', b3', b4'⟩ := HBR.out P2 (HXP.out.tr hp2)
        clear b0 b1 b2 b3 b4
        go_wp2_with fail
        refine (O.out _ (HX1.out.tr (HXP.out.tr hp2))).mono ?_
        rintro e1 P3 ⟨rfl, hp3⟩
        go_wp2_with fail
        refine (B.out _).mono ?_
        rintro e1 P4 ⟨rfl, hp4⟩
        obtain ⟨b0, b1, b2, b3, b4⟩ := HBR.out P4 (HXP.out.tr (hp2.tr (hp3.tr hp4)))
        have hbc4 := (HX1.out.tr (HXP.out.tr (hp2.tr (hp3.tr hp4)))).ce' hbc
        clear b0' b1' b2' b3' b4'
        go_wp2_with fail
        go_ret
        exact ⟨rfl, HX1.out.tr (HXP.out.tr (hp2.tr (hp3.tr hp4)))⟩
  · obtain ⟨r0, r1, r2, hx12⟩ := three_new w1 (.cells #[.int .i64 r.Queue, .int .i64 r.From, .int .i64 r.Until, .int .i64 r.Kind, .slice pa pn pc] 46)
    obtain ⟨V, hV⟩ : ∃ V, (((w1.alloc (.cells #[.int .i64 r.Queue, .int .i64 r.From, .int .i64 r.Until, .int .i64 r.Kind, .slice pa pn pc] 46)).alloc (.cells #[.int .i64 r.Queue, .int .i64 r.From, .int .i64 r.Until, .int .i64 r.Kind, .slice pa pn pc] 46)).alloc (.cells #[.int .i64 r.Queue, .int .i64 r.From, .int .i64 r.Until, .int .i64 r.Kind, .slice pa pn pc] 46)).drew = V := ⟨_, rfl⟩
    rw [hV] at r0 r1 r2 hx12 ⊢
    have hSw : w.heap.size ≤ w1.heap.size := HX1.out.size
    have HXV := hid hx12
    clear hV hx12 b0 b1 b2 b3 b4
    obtain ⟨S0, hS0⟩ : ∃ S0, w1.heap.size = S0 := ⟨_, rfl⟩
    rw [hS0] at r0 r1 r2 hSw ⊢
    obtain ⟨d0, d1, d2, d3, d4⟩ := rowCells5 r0 (Ext.rf V)
    obtain ⟨e0, e1, e2, e3, e4⟩ := rowCells5 r1 (Ext.rf V)
    obtain ⟨g0, g1, g2, g3, g4⟩ := rowCells5 r2 (Ext.rf V)
    have z0 := frozen_of_row _ _ 3 _ _ r0
    have z1 := frozen_of_row _ _ 3 _ _ r1
    have z2 := frozen_of_row _ _ 3 _ _ r2
    obtain ⟨q5, q6, q7⟩ := three_kinds (x5 := S0) (x6 := (S0 + 1 + 1)) (x7 := (S0 + 1)) r0 r2 r1 (by omega) (by omega) (by omega)
    have HX5 := hid (((HXV.out.se (b := S0) (o := 3) (by omega) (.int .i64 4)).se (b := (S0 + 1 + 1)) (o := 3) (by omega) (.int .i64 3)).se (b := (S0 + 1)) (o := 3) (by omega) (.int .i64 1))
    have Q5 := hid q5
    have Q6 := hid q6
    have Q7 := hid q7
    clear q5 q6 q7 r0 r1 r2 HXV hS0
    go_wp2_with fail
    obtain ⟨V', hV'⟩ : ∃ V', ((V.setCell ⟨S0, 3, none⟩ (.int .i64 4)).setCell ⟨(S0 + 1 + 1), 3, none⟩ (.int .i64 3)).setCell ⟨(S0 + 1), 3, none⟩ (.int .i64 1) = V' := ⟨_, rfl⟩
    rw [hV'] at Q5 Q6 Q7 HX5 ⊢
    clear hV' z0 z1 z2 d0 d1 d2 d3 d4 e0 e1 e2 e3 e4 g0 g1 g2 g3 g4 hSw
    replace d0 := fun p : Later V' => (rowCells5 Q5.out p.h).1
    replace d1 := fun p : Later V' => (rowCells5 Q5.out p.h).2.1
    replace d2 := fun p : Later V' => (rowCells5 Q5.out p.h).2.2.1
    replace d3 := fun p : Later V' => (rowCells5 Q5.out p.h).2.2.2.1
    replace d4 := fun p : Later V' => (rowCells5 Q5.out p.h).2.2.2.2
    replace e0 := fun p : Later V' => (rowCells5 Q6.out p.h).1
    replace e1 := fun p : Later V' => (rowCells5 Q6.out p.h).2.1
    replace e2 := fun p : Later V' => (rowCells5 Q6.out p.h).2.2.1
    replace e3 := fun p : Later V' => (rowCells5 Q6.out p.h).2.2.2.1
    replace e4 := fun p : Later V' => (rowCells5 Q6.out p.h).2.2.2.2
    replace g0 := fun p : Later V' => (rowCells5 Q7.out p.h).1
    replace g1 := fun p : Later V' => (rowCells5 Q7.out p.h).2.1
    replace g2 := fun p : Later V' => (rowCells5 Q7.out p.h).2.2.1
    replace g3 := fun p : Later V' => (rowCells5 Q7.out p.h).2.2.2.1
    replace g4 := fun p : Later V' => (rowCells5 Q7.out p.h).2.2.2.2
    have QX := hid (fun p : Later V' => later_of p (MX4.out p.v (HX1.out.tr (HX5.out.tr p.h))))
    have QY := hid (fun p : Later V' => later_of p (MX3.out p.v (HX1.out.tr (HX5.out.tr p.h))))
    have QZ := hid (fun p : Later V' => later_of p (MX1.out p.v (HX1.out.tr (HX5.out.tr p.h))))
    refine region_later (by kernel_rfl) (by kernel_rfl) ?_
    repeat (go_big_quiet_step (first | (with_reducible exact QX.out _) | (with_reducible exact QY.out _) | (with_reducible exact QZ.out _)))
    refine wpQuiet_nil ?_
    rintro w' ⟨p, rfl⟩
    have HXP := hid (HX5.out.tr p.h)
    obtain ⟨b0, b1, b2, b3, b4⟩ := HBR.out p.v HXP.out
    generalize p.v = P1 at *
    clear d0 d1 d2 d3 d4 e0 e1 e2 e3 e4 g0 g1 g2 g3 g4 Q5 Q6 Q7 QX QY QZ HX5 p
    have fin : Hid (x = true → y = true) ∧ Hid (y = true → z = true) := ⟨HXY, HYZ⟩
    clear HXY HYZ
    cases x <;> cases y <;> cases z <;> first | exact absurd (fin.1.out rfl) Bool.false_ne_true | exact absurd (fin.2.out rfl) Bool.false_ne_true | skip
    all_goals
      clear fin
      cases m
      · go_wp2_with fail
        refine (M.out _ (HX1.out.tr HXP.out)).mono ?_
        rintro e1 P2 ⟨rfl, hp2⟩
        go_wp2_with fail
        refine (B.out _).mono ?_
        rintro e1 P3 ⟨rfl, hp3⟩
        go_wp2_with fail
        go_ret
        exact ⟨rfl, HX1.out.tr (HXP.out.tr (hp2.tr hp3))⟩
      · obtain ⟨n, rfl, h1, h2, h3, h4, h5⟩ := HOV.out rfl
        obtain ⟨bb, bo, bc', hbv, hbc, hbi⟩ := HB0.out h1
        simp only [Value.slice.injEq, true_and] at hbv
        obtain ⟨rfl, rfl⟩ := hbv
        have hn0 := eqF (a := (bn : Int)) (b := 0) (by omega)
        have h4' : ¬ n ≤ b0A := by omega
        go_wp2_with fail
        refine (M.out _ (HX1.out.tr HXP.out)).mono ?_
        rintro e1 P2 ⟨rfl, hp2⟩
        obtain ⟨b0', b1', b2', b3', b4'⟩ := HBR.out P2 (HXP.out.tr hp2)
        clear b0 b1 b2 b3 b4
        go_wp2_with fail
        refine (O.out _ (HX1.out.tr (HXP.out.tr hp2))).mono ?_
        rintro e1 P3 ⟨rfl, hp3⟩
        go_wp2_with fail
        refine (B.out _).mono ?_
        rintro e1 P4 ⟨rfl, hp4⟩
        obtain ⟨b0, b1, b2, b3, b4⟩ := HBR.out P4 (HXP.out.tr (hp2.tr (hp3.tr hp4)))
        have hbc4 := (HX1.out.tr (HXP.out.tr (hp2.tr (hp3.tr hp4)))).ce' hbc
        clear b0' b1' b2' b3' b4'
        go_wp2_with fail
        go_ret
        exact ⟨rfl, HX1.out.tr (HXP.out.tr (hp2.tr (hp3.tr hp4)))⟩
  · obtain ⟨r0, r1, r2, hx12⟩ := three_new w1 (.cells #[.int .i64 r.Queue, .int .i64 r.From, .int .i64 r.Until, .int .i64 r.Kind, .slice pa pn pc] 46)
    obtain ⟨V, hV⟩ : ∃ V, (((w1.alloc (.cells #[.int .i64 r.Queue, .int .i64 r.From, .int .i64 r.Until, .int .i64 r.Kind, .slice pa pn pc] 46)).alloc (.cells #[.int .i64 r.Queue, .int .i64 r.From, .int .i64 r.Until, .int .i64 r.Kind, .slice pa pn pc] 46)).alloc (.cells #[.int .i64 r.Queue, .int .i64 r.From, .int .i64 r.Until, .int .i64 r.Kind, .slice pa pn pc] 46)).drew = V := ⟨_, rfl⟩
    rw [hV] at r0 r1 r2 hx12 ⊢
    have hSw : w.heap.size ≤ w1.heap.size := HX1.out.size
    have HXV := hid hx12
    clear hV hx12 b0 b1 b2 b3 b4
    obtain ⟨S0, hS0⟩ : ∃ S0, w1.heap.size = S0 := ⟨_, rfl⟩
    rw [hS0] at r0 r1 r2 hSw ⊢
    obtain ⟨d0, d1, d2, d3, d4⟩ := rowCells5 r0 (Ext.rf V)
    obtain ⟨e0, e1, e2, e3, e4⟩ := rowCells5 r1 (Ext.rf V)
    obtain ⟨g0, g1, g2, g3, g4⟩ := rowCells5 r2 (Ext.rf V)
    have z0 := frozen_of_row _ _ 3 _ _ r0
    have z1 := frozen_of_row _ _ 3 _ _ r1
    have z2 := frozen_of_row _ _ 3 _ _ r2
    obtain ⟨q5, q6, q7⟩ := three_kinds (x5 := (S0 + 1)) (x6 := S0) (x7 := (S0 + 1 + 1)) r1 r0 r2 (by omega) (by omega) (by omega)
    have HX5 := hid (((HXV.out.se (b := (S0 + 1)) (o := 3) (by omega) (.int .i64 4)).se (b := S0) (o := 3) (by omega) (.int .i64 3)).se (b := (S0 + 1 + 1)) (o := 3) (by omega) (.int .i64 1))
    have Q5 := hid q5
    have Q6 := hid q6
    have Q7 := hid q7
    clear q5 q6 q7 r0 r1 r2 HXV hS0
    go_wp2_with fail
    obtain ⟨V', hV'⟩ : ∃ V', ((V.setCell ⟨(S0 + 1), 3, none⟩ (.int .i64 4)).setCell ⟨S0, 3, none⟩ (.int .i64 3)).setCell ⟨(S0 + 1 + 1), 3, none⟩ (.int .i64 1) = V' := ⟨_, rfl⟩
    rw [hV'] at Q5 Q6 Q7 HX5 ⊢
    clear hV' z0 z1 z2 d0 d1 d2 d3 d4 e0 e1 e2 e3 e4 g0 g1 g2 g3 g4 hSw
    replace d0 := fun p : Later V' => (rowCells5 Q5.out p.h).1
    replace d1 := fun p : Later V' => (rowCells5 Q5.out p.h).2.1
    replace d2 := fun p : Later V' => (rowCells5 Q5.out p.h).2.2.1
    replace d3 := fun p : Later V' => (rowCells5 Q5.out p.h).2.2.2.1
    replace d4 := fun p : Later V' => (rowCells5 Q5.out p.h).2.2.2.2
    replace e0 := fun p : Later V' => (rowCells5 Q6.out p.h).1
    replace e1 := fun p : Later V' => (rowCells5 Q6.out p.h).2.1
    replace e2 := fun p : Later V' => (rowCells5 Q6.out p.h).2.2.1
    replace e3 := fun p : Later V' => (rowCells5 Q6.out p.h).2.2.2.1
    replace e4 := fun p : Later V' => (rowCells5 Q6.out p.h).2.2.2.2
    replace g0 := fun p : Later V' => (rowCells5 Q7.out p.h).1
    replace g1 := fun p : Later V' => (rowCells5 Q7.out p.h).2.1
    replace g2 := fun p : Later V' => (rowCells5 Q7.out p.h).2.2.1
    replace g3 := fun p : Later V' => (rowCells5 Q7.out p.h).2.2.2.1
    replace g4 := fun p : Later V' => (rowCells5 Q7.out p.h).2.2.2.2
    have QX := hid (fun p : Later V' => later_of p (MX4.out p.v (HX1.out.tr (HX5.out.tr p.h))))
    have QY := hid (fun p : Later V' => later_of p (MX3.out p.v (HX1.out.tr (HX5.out.tr p.h))))
    have QZ := hid (fun p : Later V' => later_of p (MX1.out p.v (HX1.out.tr (HX5.out.tr p.h))))
    refine region_later (by kernel_rfl) (by kernel_rfl) ?_
    repeat (go_big_quiet_step (first | (with_reducible exact QX.out _) | (with_reducible exact QY.out _) | (with_reducible exact QZ.out _)))
    refine wpQuiet_nil ?_
    rintro w' ⟨p, rfl⟩
    have HXP := hid (HX5.out.tr p.h)
    obtain ⟨b0, b1, b2, b3, b4⟩ := HBR.out p.v HXP.out
    generalize p.v = P1 at *
    clear d0 d1 d2 d3 d4 e0 e1 e2 e3 e4 g0 g1 g2 g3 g4 Q5 Q6 Q7 QX QY QZ HX5 p
    have fin : Hid (x = true → y = true) ∧ Hid (y = true → z = true) := ⟨HXY, HYZ⟩
    clear HXY HYZ
    cases x <;> cases y <;> cases z <;> first | exact absurd (fin.1.out rfl) Bool.false_ne_true | exact absurd (fin.2.out rfl) Bool.false_ne_true | skip
    all_goals
      clear fin
      cases m
      · go_wp2_with fail
        refine (M.out _ (HX1.out.tr HXP.out)).mono ?_
        rintro e1 P2 ⟨rfl, hp2⟩
        go_wp2_with fail
        refine (B.out _).mono ?_
        rintro e1 P3 ⟨rfl, hp3⟩
        go_wp2_with fail
        go_ret
        exact ⟨rfl, HX1.out.tr (HXP.out.tr (hp2.tr hp3))⟩
      · obtain ⟨n, rfl, h1, h2, h3, h4, h5⟩ := HOV.out rfl
        obtain ⟨bb, bo, bc', hbv, hbc, hbi⟩ := HB0.out h1
        simp only [Value.slice.injEq, true_and] at hbv
        obtain ⟨rfl, rfl⟩ := hbv
        have hn0 := eqF (a := (bn : Int)) (b := 0) (by omega)
        have h4' : ¬ n ≤ b0A := by omega
        go_wp2_with fail
        refine (M.out _ (HX1.out.tr HXP.out)).mono ?_
        rintro e1 P2 ⟨rfl, hp2⟩
        obtain ⟨b0', b1', b2', b3', b4'⟩ := HBR.out P2 (HXP.out.tr hp2)
        clear b0 b1 b2 b3 b4
        go_wp2_with fail
        refine (O.out _ (HX1.out.tr (HXP.out.tr hp2))).mono ?_
        rintro e1 P3 ⟨rfl, hp3⟩
        go_wp2_with fail
        refine (B.out _).mono ?_
        rintro e1 P4 ⟨rfl, hp4⟩
        obtain ⟨b0, b1, b2, b3, b4⟩ := HBR.out P4 (HXP.out.tr (hp2.tr (hp3.tr hp4)))
        have hbc4 := (HX1.out.tr (HXP.out.tr (hp2.tr (hp3.tr hp4)))).ce' hbc
        clear b0' b1' b2' b3' b4'
        go_wp2_with fail
        go_ret
        exact ⟨rfl, HX1.out.tr (HXP.out.tr (hp2.tr (hp3.tr hp4)))⟩
  · obtain ⟨r0, r1, r2, hx12⟩ := three_new w1 (.cells #[.int .i64 r.Queue, .int .i64 r.From, .int .i64 r.Until, .int .i64 r.Kind, .slice pa pn pc] 46)
    obtain ⟨V, hV⟩ : ∃ V, (((w1.alloc (.cells #[.int .i64 r.Queue, .int .i64 r.From, .int .i64 r.Until, .int .i64 r.Kind, .slice pa pn pc] 46)).alloc (.cells #[.int .i64 r.Queue, .int .i64 r.From, .int .i64 r.Until, .int .i64 r.Kind, .slice pa pn pc] 46)).alloc (.cells #[.int .i64 r.Queue, .int .i64 r.From, .int .i64 r.Until, .int .i64 r.Kind, .slice pa pn pc] 46)).drew = V := ⟨_, rfl⟩
    rw [hV] at r0 r1 r2 hx12 ⊢
    have hSw : w.heap.size ≤ w1.heap.size := HX1.out.size
    have HXV := hid hx12
    clear hV hx12 b0 b1 b2 b3 b4
    obtain ⟨S0, hS0⟩ : ∃ S0, w1.heap.size = S0 := ⟨_, rfl⟩
    rw [hS0] at r0 r1 r2 hSw ⊢
    obtain ⟨d0, d1, d2, d3, d4⟩ := rowCells5 r0 (Ext.rf V)
    obtain ⟨e0, e1, e2, e3, e4⟩ := rowCells5 r1 (Ext.rf V)
    obtain ⟨g0, g1, g2, g3, g4⟩ := rowCells5 r2 (Ext.rf V)
    have z0 := frozen_of_row _ _ 3 _ _ r0
    have z1 := frozen_of_row _ _ 3 _ _ r1
    have z2 := frozen_of_row _ _ 3 _ _ r2
    obtain ⟨q5, q6, q7⟩ := three_kinds (x5 := (S0 + 1 + 1)) (x6 := S0) (x7 := (S0 + 1)) r2 r0 r1 (by omega) (by omega) (by omega)
    have HX5 := hid (((HXV.out.se (b := (S0 + 1 + 1)) (o := 3) (by omega) (.int .i64 4)).se (b := S0) (o := 3) (by omega) (.int .i64 3)).se (b := (S0 + 1)) (o := 3) (by omega) (.int .i64 1))
    have Q5 := hid q5
    have Q6 := hid q6
    have Q7 := hid q7
    clear q5 q6 q7 r0 r1 r2 HXV hS0
    go_wp2_with fail
    obtain ⟨V', hV'⟩ : ∃ V', ((V.setCell ⟨(S0 + 1 + 1), 3, none⟩ (.int .i64 4)).setCell ⟨S0, 3, none⟩ (.int .i64 3)).setCell ⟨(S0 + 1), 3, none⟩ (.int .i64 1) = V' := ⟨_, rfl⟩
    rw [hV'] at Q5 Q6 Q7 HX5 ⊢
    clear hV' z0 z1 z2 d0 d1 d2 d3 d4 e0 e1 e2 e3 e4 g0 g1 g2 g3 g4 hSw
    replace d0 := fun p : Later V' => (rowCells5 Q5.out p.h).1
    replace d1 := fun p : Later V' => (rowCells5 Q5.out p.h).2.1
    replace d2 := fun p : Later V' => (rowCells5 Q5.out p.h).2.2.1
    replace d3 := fun p : Later V' => (rowCells5 Q5.out p.h).2.2.2.1
    replace d4 := fun p : Later V' => (rowCells5 Q5.out p.h).2.2.2.2
    replace e0 := fun p : Later V' => (rowCells5 Q6.out p.h).1
    replace e1 := fun p : Later V' => (rowCells5 Q6.out p.h).2.1
    replace e2 := fun p : Later V' => (rowCells5 Q6.out p.h).2.2.1
    replace e3 := fun p : Later V' => (rowCells5 Q6.out p.h).2.2.2.1
    replace e4 := fun p : Later V' => (rowCells5 Q6.out p.h).2.2.2.2
    replace g0 := fun p : Later V' => (rowCells5 Q7.out p.h).1
    replace g1 := fun p : Later V' => (rowCells5 Q7.out p.h).2.1
    replace g2 := fun p : Later V' => (rowCells5 Q7.out p.h).2.2.1
    replace g3 := fun p : Later V' => (rowCells5 Q7.out p.h).2.2.2.1
    replace g4 := fun p : Later V' => (rowCells5 Q7.out p.h).2.2.2.2
    have QX := hid (fun p : Later V' => later_of p (MX4.out p.v (HX1.out.tr (HX5.out.tr p.h))))
    have QY := hid (fun p : Later V' => later_of p (MX3.out p.v (HX1.out.tr (HX5.out.tr p.h))))
    have QZ := hid (fun p : Later V' => later_of p (MX1.out p.v (HX1.out.tr (HX5.out.tr p.h))))
    refine region_later (by kernel_rfl) (by kernel_rfl) ?_
    repeat (go_big_quiet_step (first | (with_reducible exact QX.out _) | (with_reducible exact QY.out _) | (with_reducible exact QZ.out _)))
    refine wpQuiet_nil ?_
    rintro w' ⟨p, rfl⟩
    have HXP := hid (HX5.out.tr p.h)
    obtain ⟨b0, b1, b2, b3, b4⟩ := HBR.out p.v HXP.out
    generalize p.v = P1 at *
    clear d0 d1 d2 d3 d4 e0 e1 e2 e3 e4 g0 g1 g2 g3 g4 Q5 Q6 Q7 QX QY QZ HX5 p
    have fin : Hid (x = true → y = true) ∧ Hid (y = true → z = true) := ⟨HXY, HYZ⟩
    clear HXY HYZ
    cases x <;> cases y <;> cases z <;> first | exact absurd (fin.1.out rfl) Bool.false_ne_true | exact absurd (fin.2.out rfl) Bool.false_ne_true | skip
    all_goals
      clear fin
      cases m
      · go_wp2_with fail
        refine (M.out _ (HX1.out.tr HXP.out)).mono ?_
        rintro e1 P2 ⟨rfl, hp2⟩
        go_wp2_with fail
        refine (B.out _).mono ?_
        rintro e1 P3 ⟨rfl, hp3⟩
        go_wp2_with fail
        go_ret
        exact ⟨rfl, HX1.out.tr (HXP.out.tr (hp2.tr hp3))⟩
      · obtain ⟨n, rfl, h1, h2, h3, h4, h5⟩ := HOV.out rfl
        obtain ⟨bb, bo, bc', hbv, hbc, hbi⟩ := HB0.out h1
        simp only [Value.slice.injEq, true_and] at hbv
        obtain ⟨rfl, rfl⟩ := hbv
        have hn0 := eqF (a := (bn : Int)) (b := 0) (by omega)
        have h4' : ¬ n ≤ b0A := by omega
        go_wp2_with fail
        refine (M.out _ (HX1.out.tr HXP.out)).mono ?_
        rintro e1 P2 ⟨rfl, hp2⟩
        obtain ⟨b0', b1', b2', b3', b4'⟩ := HBR.out P2 (HXP.out.tr hp2)
        clear b0 b1 b2 b3 b4
        go_wp2_with fail
        refine (O.out _ (HX1.out.tr (HXP.out.tr hp2))).mono ?_
        rintro e1 P3 ⟨rfl, hp3⟩
        go_wp2_with fail
        refine (B.out _).mono ?_
        rintro e1 P4 ⟨rfl, hp4⟩
        obtain ⟨b0, b1, b2, b3, b4⟩ := HBR.out P4 (HXP.out.tr (hp2.tr (hp3.tr hp4)))
        have hbc4 := (HX1.out.tr (HXP.out.tr (hp2.tr (hp3.tr hp4)))).ce' hbc
        clear b0' b1' b2' b3' b4'
        go_wp2_with fail
        go_ret
        exact ⟨rfl, HX1.out.tr (HXP.out.tr (hp2.tr (hp3.tr hp4)))⟩
  · obtain ⟨r0, r1, r2, hx12⟩ := three_new w1 (.cells #[.int .i64 r.Queue, .int .i64 r.From, .int .i64 r.Until, .int .i64 r.Kind, .slice pa pn pc] 46)
    obtain ⟨V, hV⟩ : ∃ V, (((w1.alloc (.cells #[.int .i64 r.Queue, .int .i64 r.From, .int .i64 r.Until, .int .i64 r.Kind, .slice pa pn pc] 46)).alloc (.cells #[.int .i64 r.Queue, .int .i64 r.From, .int .i64 r.Until, .int .i64 r.Kind, .slice pa pn pc] 46)).alloc (.cells #[.int .i64 r.Queue, .int .i64 r.From, .int .i64 r.Until, .int .i64 r.Kind, .slice pa pn pc] 46)).drew = V := ⟨_, rfl⟩
    rw [hV] at r0 r1 r2 hx12 ⊢
    have hSw : w.heap.size ≤ w1.heap.size := HX1.out.size
    have HXV := hid hx12
    clear hV hx12 b0 b1 b2 b3 b4
    obtain ⟨S0, hS0⟩ : ∃ S0, w1.heap.size = S0 := ⟨_, rfl⟩
    rw [hS0] at r0 r1 r2 hSw ⊢
    obtain ⟨d0, d1, d2, d3, d4⟩ := rowCells5 r0 (Ext.rf V)
    obtain ⟨e0, e1, e2, e3, e4⟩ := rowCells5 r1 (Ext.rf V)
    obtain ⟨g0, g1, g2, g3, g4⟩ := rowCells5 r2 (Ext.rf V)
    have z0 := frozen_of_row _ _ 3 _ _ r0
    have z1 := frozen_of_row _ _ 3 _ _ r1
    have z2 := frozen_of_row _ _ 3 _ _ r2
    obtain ⟨q5, q6, q7⟩ := three_kinds (x5 := (S0 + 1)) (x6 := (S0 + 1 + 1)) (x7 := S0) r1 r2 r0 (by omega) (by omega) (by omega)
    have HX5 := hid (((HXV.out.se (b := (S0 + 1)) (o := 3) (by omega) (.int .i64 4)).se (b := (S0 + 1 + 1)) (o := 3) (by omega) (.int .i64 3)).se (b := S0) (o := 3) (by omega) (.int .i64 1))
    have Q5 := hid q5
    have Q6 := hid q6
    have Q7 := hid q7
    clear q5 q6 q7 r0 r1 r2 HXV hS0
    go_wp2_with fail
    obtain ⟨V', hV'⟩ : ∃ V', ((V.setCell ⟨(S0 + 1), 3, none⟩ (.int .i64 4)).setCell ⟨(S0 + 1 + 1), 3, none⟩ (.int .i64 3)).setCell ⟨S0, 3, none⟩ (.int .i64 1) = V' := ⟨_, rfl⟩
    rw [hV'] at Q5 Q6 Q7 HX5 ⊢
    clear hV' z0 z1 z2 d0 d1 d2 d3 d4 e0 e1 e2 e3 e4 g0 g1 g2 g3 g4 hSw
    replace d0 := fun p : Later V' => (rowCells5 Q5.out p.h).1
    replace d1 := fun p : Later V' => (rowCells5 Q5.out p.h).2.1
    replace d2 := fun p : Later V' => (rowCells5 Q5.out p.h).2.2.1
    replace d3 := fun p : Later V' => (rowCells5 Q5.out p.h).2.2.2.1
    replace d4 := fun p : Later V' => (rowCells5 Q5.out p.h).2.2.2.2
    replace e0 := fun p : Later V' => (rowCells5 Q6.out p.h).1
    replace e1 := fun p : Later V' => (rowCells5 Q6.out p.h).2.1
    replace e2 := fun p : Later V' => (rowCells5 Q6.out p.h).2.2.1
    replace e3 := fun p : Later V' => (rowCells5 Q6.out p.h).2.2.2.1
    replace e4 := fun p : Later V' => (rowCells5 Q6.out p.h).2.2.2.2
    replace g0 := fun p : Later V' => (rowCells5 Q7.out p.h).1
    replace g1 := fun p : Later V' => (rowCells5 Q7.out p.h).2.1
    replace g2 := fun p : Later V' => (rowCells5 Q7.out p.h).2.2.1
    replace g3 := fun p : Later V' => (rowCells5 Q7.out p.h).2.2.2.1
    replace g4 := fun p : Later V' => (rowCells5 Q7.out p.h).2.2.2.2
    have QX := hid (fun p : Later V' => later_of p (MX4.out p.v (HX1.out.tr (HX5.out.tr p.h))))
    have QY := hid (fun p : Later V' => later_of p (MX3.out p.v (HX1.out.tr (HX5.out.tr p.h))))
    have QZ := hid (fun p : Later V' => later_of p (MX1.out p.v (HX1.out.tr (HX5.out.tr p.h))))
    refine region_later (by kernel_rfl) (by kernel_rfl) ?_
    repeat (go_big_quiet_step (first | (with_reducible exact QX.out _) | (with_reducible exact QY.out _) | (with_reducible exact QZ.out _)))
    refine wpQuiet_nil ?_
    rintro w' ⟨p, rfl⟩
    have HXP := hid (HX5.out.tr p.h)
    obtain ⟨b0, b1, b2, b3, b4⟩ := HBR.out p.v HXP.out
    generalize p.v = P1 at *
    clear d0 d1 d2 d3 d4 e0 e1 e2 e3 e4 g0 g1 g2 g3 g4 Q5 Q6 Q7 QX QY QZ HX5 p
    have fin : Hid (x = true → y = true) ∧ Hid (y = true → z = true) := ⟨HXY, HYZ⟩
    clear HXY HYZ
    cases x <;> cases y <;> cases z <;> first | exact absurd (fin.1.out rfl) Bool.false_ne_true | exact absurd (fin.2.out rfl) Bool.false_ne_true | skip
    all_goals
      clear fin
      cases m
      · go_wp2_with fail
        refine (M.out _ (HX1.out.tr HXP.out)).mono ?_
        rintro e1 P2 ⟨rfl, hp2⟩
        go_wp2_with fail
        refine (B.out _).mono ?_
        rintro e1 P3 ⟨rfl, hp3⟩
        go_wp2_with fail
        go_ret
        exact ⟨rfl, HX1.out.tr (HXP.out.tr (hp2.tr hp3))⟩
      · obtain ⟨n, rfl, h1, h2, h3, h4, h5⟩ := HOV.out rfl
        obtain ⟨bb, bo, bc', hbv, hbc, hbi⟩ := HB0.out h1
        simp only [Value.slice.injEq, true_and] at hbv
        obtain ⟨rfl, rfl⟩ := hbv
        have hn0 := eqF (a := (bn : Int)) (b := 0) (by omega)
        have h4' : ¬ n ≤ b0A := by omega
        go_wp2_with fail
        refine (M.out _ (HX1.out.tr HXP.out)).mono ?_
        rintro e1 P2 ⟨rfl, hp2⟩
        obtain ⟨b0', b1', b2', b3', b4'⟩ := HBR.out P2 (HXP.out.tr hp2)
        clear b0 b1 b2 b3 b4
        go_wp2_with fail
        refine (O.out _ (HX1.out.tr (HXP.out.tr hp2))).mono ?_
        rintro e1 P3 ⟨rfl, hp3⟩
        go_wp2_with fail
        refine (B.out _).mono ?_
        rintro e1 P4 ⟨rfl, hp4⟩
        obtain ⟨b0, b1, b2, b3, b4⟩ := HBR.out P4 (HXP.out.tr (hp2.tr (hp3.tr hp4)))
        have hbc4 := (HX1.out.tr (HXP.out.tr (hp2.tr (hp3.tr hp4)))).ce' hbc
        clear b0' b1' b2' b3' b4'
        go_wp2_with fail
        go_ret
        exact ⟨rfl, HX1.out.tr (HXP.out.tr (hp2.tr (hp3.tr hp4)))⟩
  · obtain ⟨r0, r1, r2, hx12⟩ := three_new w1 (.cells #[.int .i64 r.Queue, .int .i64 r.From, .int .i64 r.Until, .int .i64 r.Kind, .slice pa pn pc] 46)
    obtain ⟨V, hV⟩ : ∃ V, (((w1.alloc (.cells #[.int .i64 r.Queue, .int .i64 r.From, .int .i64 r.Until, .int .i64 r.Kind, .slice pa pn pc] 46)).alloc (.cells #[.int .i64 r.Queue, .int .i64 r.From, .int .i64 r.Until, .int .i64 r.Kind, .slice pa pn pc] 46)).alloc (.cells #[.int .i64 r.Queue, .int .i64 r.From, .int .i64 r.Until, .int .i64 r.Kind, .slice pa pn pc] 46)).drew = V := ⟨_, rfl⟩
    rw [hV] at r0 r1 r2 hx12 ⊢
    have hSw : w.heap.size ≤ w1.heap.size := HX1.out.size
    have HXV := hid hx12
    clear hV hx12 b0 b1 b2 b3 b4
    obtain ⟨S0, hS0⟩ : ∃ S0, w1.heap.size = S0 := ⟨_, rfl⟩
    rw [hS0] at r0 r1 r2 hSw ⊢
    obtain ⟨d0, d1, d2, d3, d4⟩ := rowCells5 r0 (Ext.rf V)
    obtain ⟨e0, e1, e2, e3, e4⟩ := rowCells5 r1 (Ext.rf V)
    obtain ⟨g0, g1, g2, g3, g4⟩ := rowCells5 r2 (Ext.rf V)
    have z0 := frozen_of_row _ _ 3 _ _ r0
    have z1 := frozen_of_row _ _ 3 _ _ r1
    have z2 := frozen_of_row _ _ 3 _ _ r2
    obtain ⟨q5, q6, q7⟩ := three_kinds (x5 := (S0 + 1 + 1)) (x6 := (S0 + 1)) (x7 := S0) r2 r1 r0 (by omega) (by omega) (by omega)
    have HX5 := hid (((HXV.out.se (b := (S0 + 1 + 1)) (o := 3) (by omega) (.int .i64 4)).se (b := (S0 + 1)) (o := 3) (by omega) (.int .i64 3)).se (b := S0) (o := 3) (by omega) (.int .i64 1))
    have Q5 := hid q5
    have Q6 := hid q6
    have Q7 := hid q7
    clear q5 q6 q7 r0 r1 r2 HXV hS0
    go_wp2_with fail
    obtain ⟨V', hV'⟩ : ∃ V', ((V.setCell ⟨(S0 + 1 + 1), 3, none⟩ (.int .i64 4)).setCell ⟨(S0 + 1), 3, none⟩ (.int .i64 3)).setCell ⟨S0, 3, none⟩ (.int .i64 1) = V' := ⟨_, rfl⟩
    rw [hV'] at Q5 Q6 Q7 HX5 ⊢
    clear hV' z0 z1 z2 d0 d1 d2 d3 d4 e0 e1 e2 e3 e4 g0 g1 g2 g3 g4 hSw
    replace d0 := fun p : Later V' => (rowCells5 Q5.out p.h).1
    replace d1 := fun p : Later V' => (rowCells5 Q5.out p.h).2.1
    replace d2 := fun p : Later V' => (rowCells5 Q5.out p.h).2.2.1
    replace d3 := fun p : Later V' => (rowCells5 Q5.out p.h).2.2.2.1
    replace d4 := fun p : Later V' => (rowCells5 Q5.out p.h).2.2.2.2
    replace e0 := fun p : Later V' => (rowCells5 Q6.out p.h).1
    replace e1 := fun p : Later V' => (rowCells5 Q6.out p.h).2.1
    replace e2 := fun p : Later V' => (rowCells5 Q6.out p.h).2.2.1
    replace e3 := fun p : Later V' => (rowCells5 Q6.out p.h).2.2.2.1
    replace e4 := fun p : Later V' => (rowCells5 Q6.out p.h).2.2.2.2
    replace g0 := fun p : Later V' => (rowCells5 Q7.out p.h).1
    replace g1 := fun p : Later V' => (rowCells5 Q7.out p.h).2.1
    replace g2 := fun p : Later V' => (rowCells5 Q7.out p.h).2.2.1
    replace g3 := fun p : Later V' => (rowCells5 Q7.out p.h).2.2.2.1
    replace g4 := fun p : Later V' => (rowCells5 Q7.out p.h).2.2.2.2
    have QX := hid (fun p : Later V' => later_of p (MX4.out p.v (HX1.out.tr (HX5.out.tr p.h))))
    have QY := hid (fun p : Later V' => later_of p (MX3.out p.v (HX1.out.tr (HX5.out.tr p.h))))
    have QZ := hid (fun p : Later V' => later_of p (MX1.out p.v (HX1.out.tr (HX5.out.tr p.h))))
    refine region_later (by kernel_rfl) (by kernel_rfl) ?_
    repeat (go_big_quiet_step (first | (with_reducible exact QX.out _) | (with_reducible exact QY.out _) | (with_reducible exact QZ.out _)))
    refine wpQuiet_nil ?_
    rintro w' ⟨p, rfl⟩
    have HXP := hid (HX5.out.tr p.h)
    obtain ⟨b0, b1, b2, b3, b4⟩ := HBR.out p.v HXP.out
    generalize p.v = P1 at *
    clear d0 d1 d2 d3 d4 e0 e1 e2 e3 e4 g0 g1 g2 g3 g4 Q5 Q6 Q7 QX QY QZ HX5 p
    have fin : Hid (x = true → y = true) ∧ Hid (y = true → z = true) := ⟨HXY, HYZ⟩
    clear HXY HYZ
    cases x <;> cases y <;> cases z <;> first | exact absurd (fin.1.out rfl) Bool.false_ne_true | exact absurd (fin.2.out rfl) Bool.false_ne_true | skip
    all_goals
      clear fin
      cases m
      · go_wp2_with fail
        refine (M.out _ (HX1.out.tr HXP.out)).mono ?_
        rintro e1 P2 ⟨rfl, hp2⟩
        go_wp2_with fail
        refine (B.out _).mono ?_
        rintro e1 P3 ⟨rfl, hp3⟩
        go_wp2_with fail
        go_ret
        exact ⟨rfl, HX1.out.tr (HXP.out.tr (hp2.tr hp3))⟩
      · obtain ⟨n, rfl, h1, h2, h3, h4, h5⟩ := HOV.out rfl
        obtain ⟨bb, bo, bc', hbv, hbc, hbi⟩ := HB0.out h1
        simp only [Value.slice.injEq, true_and] at hbv
        obtain ⟨rfl, rfl⟩ := hbv
        have hn0 := eqF (a := (bn : Int)) (b := 0) (by omega)
        have h4' : ¬ n ≤ b0A := by omega
        go_wp2_with fail
        refine (M.out _ (HX1.out.tr HXP.out)).mono ?_
        rintro e1 P2 ⟨rfl, hp2⟩
        obtain ⟨b0', b1', b2', b3', b4'⟩ := HBR.out P2 (HXP.out.tr hp2)
        clear b0 b1 b2 b3 b4
        go_wp2_with fail
        refine (O.out _ (HX1.out.tr (HXP.out.tr hp2))).mono ?_
        rintro e1 P3 ⟨rfl, hp3⟩
        go_wp2_with fail
        refine (B.out _).mono ?_
        rintro e1 P4 ⟨rfl, hp4⟩
        obtain ⟨b0, b1, b2, b3, b4⟩ := HBR.out P4 (HXP.out.tr (hp2.tr (hp3.tr hp4)))
        have hbc4 := (HX1.out.tr (HXP.out.tr (hp2.tr (hp3.tr hp4)))).ce' hbc
        clear b0' b1' b2' b3' b4'
        go_wp2_with fail
        go_ret
        exact ⟨rfl, HX1.out.tr (HXP.out.tr (hp2.tr (hp3.tr hp4)))⟩

end Go.Proofs.Ytchblkemofncoaa
