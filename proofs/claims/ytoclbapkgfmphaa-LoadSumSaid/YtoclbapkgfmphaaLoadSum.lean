/- The law LoadSum. -/
import Derived.Test.YtoclbapkgfmphaaRoomRef
import Derived.Test.YtoclbapkgfmphaaLawD
import Derived.Deep.RegionHeld3
set_option linter.unusedVariables false
namespace Go.Proofs.Ytoclbapkgfmphaa
open Go.RowKit

theorem firstE_all {l : List Queue} : ∀ {b : List Book}, firstE l b = 0 ↔ ∀ x ∈ b, reqE l x.Req = 0 ∧ meetsR x.Req x.Bites = true
  | [] => by simp [firstE]
  | y :: b => by
    by_cases h1 : reqE l y.Req = 0
    · by_cases h2 : meetsR y.Req y.Bites = true
      · rw [firstE_ok h1 h2, firstE_all]
        constructor
        · intro h x hx
          rcases List.mem_cons.1 hx with rfl | hx
          · exact ⟨h1, h2⟩
          · exact h x hx
        · exact fun h x hx => h x (List.mem_cons_of_mem _ hx)
      · constructor
        · intro h; rw [firstE_form h1 (by simpa using h2)] at h; omega
        · intro h; exact absurd (h y (List.mem_cons_self ..)).2 h2
    · constructor
      · intro h; rw [firstE_bad h1] at h; exact absurd h h1
      · intro h; exact absurd (h y (List.mem_cons_self ..)).1 h1
/-- books out of right ones are right -/
theorem booksE_sub {l : List Queue} {b c : List Book} (h : booksE l b = 0) (hm : ∀ x ∈ c, x ∈ b) (hc : c.length ≤ 12) : booksE l c = 0 := by
  obtain ⟨_, h0, h12, _⟩ := booksE_zero h
  rw [booksE_first h0 (by omega)] at h
  rw [booksE_first h0 (by omega)]
  exact firstE_all.2 fun x hx => firstE_all.1 h x (hm x hx)

theorem loads_sum {l : List Queue} {b c d : List Book} (he : b = c ++ d) (hc : ∀ x ∈ c, BookOk l x) (hd : ∀ x ∈ d, BookOk l x) (h1 : c.length ≤ 12) (h2 : d.length ≤ 12) (q : Nat) :
    bothR (fold (takenT l c q)) (fold (takenT l d q)) (fun a b => a + b) = (fold (takenT l b q), 0) := by
  have n1 := fun t => takenT_num (l := l) q t c hc
  have n2 := fun t => takenT_num (l := l) q t d hd
  have e : ∀ t, takenT l b q t = takenT l c q t + takenT l d q t := fun t => by rw [he, takenT_append]
  rw [bothR_yes (fine_fold fun t _ => ⟨by have := n1 t; omega, by have := n1 t; omega⟩) (fine_fold fun t _ => ⟨by have := n2 t; omega, by have := n2 t; omega⟩),
    toldT_congr (y := takenT l b q) (fun t ht => by rw [sp_fold ht, sp_fold ht, e]), toldT_yes (fun t _ => ⟨by have := n1 t; have := n2 t; have := e t; omega, by have := n1 t; have := n2 t; have := e t; omega⟩)]

theorem books_take {w : World} {b : List Book} {a : Option Addr} {z c : Nat} (h : BooksV w (.slice a z c) b) (i : Nat) (hi : i ≤ b.length) : BooksV w (.slice a i c) (b.take i) := by
  rcases h with ⟨rfl, a0, cap, e, h1⟩ | ⟨b0, off, cap, e, h1, h2, h3, h4, h5⟩
  · cases e
    obtain rfl : i = 0 := by simpa using hi
    exact .inl ⟨rfl, _, _, rfl, h1⟩
  · cases e
    have hlen : (b.take i).length = i := by rw [List.length_take]; omega
    refine .inr ⟨b0, off, c, by rw [hlen], by rw [hlen]; omega, h2, by rw [hlen]; omega, h4, fun k x hk => ?_⟩
    have hki : k < i := by have := (List.getElem?_eq_some_iff.1 hk).1; omega
    rw [List.getElem?_take_of_lt hki] at hk
    exact h5 k x hk

theorem books_drop0 {w : World} {b : List Book} {a : Option Addr} {z i c : Nat} (h : BooksV w (.slice a z c) b) (hi : i ≤ z) (hc : c ≤ i) : BooksV w (.slice a (z - i) 0) (b.drop i) := by
  obtain ⟨a0, cap, e, h1, h2, _⟩ := h.form
  cases e
  refine .inl ⟨List.drop_eq_nil_of_le (by omega), a, 0, ?_, by omega⟩
  rw [show b.length - i = 0 by omega]
theorem books_drop1 {w : World} {b : List Book} {a : Option Addr} {z c : Nat} (h : BooksV w (.slice a z c) b) (i : Nat) (hi : i ≤ b.length) : BooksV w (.slice (Option.map (fun x => x.add (i * 7)) a) (z - i) (c - i)) (b.drop i) := by
  rcases h with ⟨rfl, a0, cap, e, h1⟩ | ⟨b0, off, cap, e, h1, h2, h3, h4, h5⟩
  · cases e
    exact .inl ⟨by simp, _, _, by rw [Nat.zero_sub], by omega⟩
  · cases e
    have hlen : (b.drop i).length = b.length - i := List.length_drop
    by_cases hz : i = b.length
    · exact .inl ⟨List.drop_eq_nil_of_le (by omega), _, _, by rw [show b.length - i = 0 by omega], by omega⟩
    · refine .inr ⟨b0, off + i * 7, c - i, ?_, by rw [hlen]; omega, by omega, by rw [hlen]; omega, h4, fun k x hk => ?_⟩
      · rw [hlen]
        by_cases hi0 : i * 7 = 0 <;> simp [Addr.add, hi0]
      · rw [List.getElem?_drop] at hk
        have := h5 (i + k) x hk
        rwa [show off + (i + k) * 7 = off + i * 7 + k * 7 by omega] at this

set_option maxRecDepth 100000 in
set_option maxHeartbeats 8000000 in
theorem loadSum_any (w : World) (v : Value) (l : List Queue) (bv : Value) (b : List Book) (k : Int) (hl : QueuesV w v l) (hb : BooksV w bv b) (hk : I64 k) :
    Calls Try.prog 4 #[v, bv, .int .i64 k] w fun e w' => e = .returned (.bool true) ∧ Ext w w' := by
  have B := hid (fun (W : World) => loadBegun_true W)
  by_cases h0 : booksE l b = 0
  · have LO := hid (LoadOf_is (loadsR_ok h0) hl hb)
    obtain ⟨ok, _, h12, hbok⟩ := booksE_zero h0
    have hin := chooseR_in (c := k) (n := (b.length : Int) + 1) (by omega)
    have C := hid (fun (W : World) => choose_any k ((b.length : Int) + 1) W hk (by omega) (I64.of (by omega) (by omega)))
    obtain ⟨i, hi⟩ : ∃ i : Nat, chooseR k ((b.length : Int) + 1) = i := ⟨(chooseR k ((b.length : Int) + 1)).toNat, by omega⟩
    rw [hi] at C hin
    have hiz : i ≤ b.length := by omega
    have hw : IntKind.i64.wrap ((b.length : Int) + 1) = (b.length : Int) + 1 := by rw [IntKind.wrap_i64]; omega
    obtain ⟨a, cap, rfl, _, _, _⟩ := hl.form
    obtain ⟨ba, bc, rfl, hbc, hbc9, _⟩ := hb.form
    have T1 := hid (fun (W : World) (h : Ext w W) => LoadOf_is (loadsR_ok (booksE_sub h0 (fun x hx => List.mem_of_mem_take hx) (by rw [List.length_take]; omega))) (hl.mono h) (books_take (hb.mono h) i hiz))
    clear hi hin
    have T2 := hid (fun (W : World) (h : Ext w W) (v2 : Value) (h2 : BooksV W v2 (b.drop i)) => LoadOf_is (loadsR_ok (booksE_sub h0 (fun x hx => List.mem_of_mem_drop hx) (by rw [List.length_drop]; omega))) (hl.mono h) h2)
    have HB := hid hb
    have hL1 : ∀ c, (loadsL l c).length = l.length := fun c => by simp [loadsL]
    have HK := hid (fun c q (hq : q < l.length) => show (loadsL l c)[q]? = some (fold (takenT l c q)) by simp [loadsL, hq])
    have LS := hid (fun q => loads_sum (l := l) (b := b) (c := b.take i) (d := b.drop i) (List.take_append_drop i b).symm (fun x hx => hbok x (List.mem_of_mem_take hx)) (fun x hx => hbok x (List.mem_of_mem_drop hx)) (by rw [List.length_take]; omega) (by rw [List.length_drop]; omega) q)
    have Hiz := hid hiz
    clear hl hb h0 hbok ok
    generalize hzz : b.length = z at *
    generalize hll : l.length = n at *
    go_enter Try.func4, Try.ntmps4
    go_wp2_with fail
    refine LO.out.mono ?_
    rintro e w1 ⟨u, rfl, hu, hx1⟩
    obtain ⟨ua, uc, rfl, _, _, _, huE⟩ := loads_at hu
    have HU := hid huE
    have X1 := hid hx1
    clear hu huE hx1 LO
    rw [hL1]
    go_wp2_with fail
    refine (C.out _).mono ?_
    rintro e w2 ⟨rfl, rfl⟩
    go_wp2_with fail
    refine (T1.out _ X1.out).mono ?_
    rintro e w3 ⟨u2, rfl, hu2, hx3⟩
    obtain ⟨ua2, uc2, rfl, _, _, _, hu2E⟩ := loads_at hu2
    have HU2 := hid hu2E
    have X2 := hid hx3
    clear hu2 hu2E hx3 T1
    rw [hL1]
    go_wp2_with fail
    all_goals refine (T2.out _ (X1.out.tr X2.out) _ (by first | exact books_drop0 (HB.out.mono (X1.out.tr X2.out)) Hiz.out (by omega) | exact books_drop1 (HB.out.mono (X1.out.tr X2.out)) i (by rw [hzz]; exact Hiz.out))).mono ?_
    all_goals rintro e w4 ⟨u3, rfl, hu3, hx4⟩
    all_goals obtain ⟨ua3, uc3, rfl, _, _, _, hu3E⟩ := loads_at hu3
    all_goals have HU3 := hid hu3E
    all_goals have X3 := hid hx4
    all_goals clear hu3 hu3E hx4 T2
    all_goals rw [hL1]
    all_goals clear hL1
    all_goals go_wp2_with fail
    · go_loopw [14] (fun c wr => ∃ q : Nat, c = .int .i64 q ∧ q ≤ n ∧ Ext w4 wr) (fun c _ => n - (intOf c).toNat)
      case atStart => exact ⟨0, rfl, by omega, Ext.rf _⟩
      case round =>
        obtain ⟨q, rfl, hq, hx⟩ := hrel
        by_cases hqn : q < n
        · have hqn' : (q : Int) < (n : Int) := by omega
          have k1 := HK.out b q hqn
          have k2 := HK.out (b.take i) q hqn
          have k3 := HK.out (b.drop i) q hqn
          obtain ⟨ub, uo, rfl, hub, hue⟩ := HU.out (by simp [loadsL]; omega)
          obtain ⟨ub2, uo2, rfl, hub2, hue2⟩ := HU2.out (by simp [loadsL]; omega)
          obtain ⟨ub3, uo3, rfl, hub3, hue3⟩ := HU3.out (by simp [loadsL]; omega)
          obtain ⟨y1, c1, hy1⟩ := hue q _ k1
          obtain ⟨y2, c2, hy2⟩ := hue2 q _ k2
          obtain ⟨y3, c3, hy3⟩ := hue3 q _ k3
          replace c1 := hx.ce' (X3.out.ce' (X2.out.ce' c1))
          replace c2 := hx.ce' (X3.out.ce' c2)
          replace c3 := hx.ce' c3
          replace hy1 := hy1.mono (X2.out.tr (X3.out.tr hx))
          replace hy2 := hy2.mono (X3.out.tr hx)
          replace hy3 := hy3.mono hx
          have PL := hid (fun (W : World) (h : Ext wr W) => Plus_is (LS.out q) (hy2.mono h) (hy3.mono h))
          have HY := hid (fun (W : World) (h : Ext wr W) (v : Value) (hv : RunsV W v (fold (takenT l b q))) => sameRuns_yes (w := W) hv (hy1.mono h))
          have HC1 := hid c1
          obtain ⟨ya1, yc1, rfl, _, _, _⟩ := hy1.form
          obtain ⟨ya2, yc2, rfl, _, _, _⟩ := hy2.form
          obtain ⟨ya3, yc3, rfl, _, _, _⟩ := hy3.form
          clear hue hue2 hue3 hy1 hy2 hy3 k1 k2 k3 c1
          generalize (fold (takenT l b q)).length = n1 at *
          generalize (fold (takenT l (b.take i) q)).length = n2 at *
          generalize (fold (takenT l (b.drop i) q)).length = n3 at *
          go_wp2_with fail
          go_region_held3 (fun w' => w'.cell? ⟨ub2, uo2 + q, none⟩ = some (.slice ya2 n2 yc2) ∧ w'.cell? ⟨ub3, uo3 + q, none⟩ = some (.slice ya3 n3 yc3)) (first | go_keep | exact ⟨hx5.ce' (by assumption), hx5.ce' (by assumption)⟩)
            (first
              | (go_at_call 19; refine (PL.out _ (Ext.dr (Ext.rf wr))).mono ?_; rintro e w5 ⟨sv, rfl, hsv, hx5⟩; have HSV := hid hsv; have X5 := hid ((Ext.dr (Ext.rf wr)).tr hx5); clear hsv))
          obtain ⟨sa, sc, rfl, _, _, _⟩ := HSV.out.form
          have c1 := X5.out.ce' HC1.out
          clear c2 c3 HC1 PL hx5
          generalize (fold (takenT l b q)).length = n4 at *
          go_wp2_with fail
          refine (HY.out _ X5.out _ HSV.out).mono ?_
          rintro e w6 ⟨rfl, hx6⟩
          have X6 := hid (hx.tr (X5.out.tr hx6))
          clear HY hx6 c1
          go_wp2_with fail
          go_roundw
          case rel => exact ⟨q + 1, by go_num, by omega, X6.out⟩
          case measure => simp [intOf]; omega
        · obtain rfl : q = n := by omega
          have hqn' : ¬ (q : Int) < (q : Int) := by omega
          go_wp2_with fail
          refine (B.out _).mono ?_
          rintro e w5 ⟨rfl, hx5⟩
          go_wp2_with fail
          go_ret
          exact ⟨rfl, X1.out.tr (X2.out.tr (X3.out.tr (hx.tr hx5)))⟩
    · go_loopw [14] (fun c wr => ∃ q : Nat, c = .int .i64 q ∧ q ≤ n ∧ Ext w4 wr) (fun c _ => n - (intOf c).toNat)
      case atStart => exact ⟨0, rfl, by omega, Ext.rf _⟩
      case round =>
        obtain ⟨q, rfl, hq, hx⟩ := hrel
        by_cases hqn : q < n
        · have hqn' : (q : Int) < (n : Int) := by omega
          have k1 := HK.out b q hqn
          have k2 := HK.out (b.take i) q hqn
          have k3 := HK.out (b.drop i) q hqn
          obtain ⟨ub, uo, rfl, hub, hue⟩ := HU.out (by simp [loadsL]; omega)
          obtain ⟨ub2, uo2, rfl, hub2, hue2⟩ := HU2.out (by simp [loadsL]; omega)
          obtain ⟨ub3, uo3, rfl, hub3, hue3⟩ := HU3.out (by simp [loadsL]; omega)
          obtain ⟨y1, c1, hy1⟩ := hue q _ k1
          obtain ⟨y2, c2, hy2⟩ := hue2 q _ k2
          obtain ⟨y3, c3, hy3⟩ := hue3 q _ k3
          replace c1 := hx.ce' (X3.out.ce' (X2.out.ce' c1))
          replace c2 := hx.ce' (X3.out.ce' c2)
          replace c3 := hx.ce' c3
          replace hy1 := hy1.mono (X2.out.tr (X3.out.tr hx))
          replace hy2 := hy2.mono (X3.out.tr hx)
          replace hy3 := hy3.mono hx
          have PL := hid (fun (W : World) (h : Ext wr W) => Plus_is (LS.out q) (hy2.mono h) (hy3.mono h))
          have HY := hid (fun (W : World) (h : Ext wr W) (v : Value) (hv : RunsV W v (fold (takenT l b q))) => sameRuns_yes (w := W) hv (hy1.mono h))
          have HC1 := hid c1
          obtain ⟨ya1, yc1, rfl, _, _, _⟩ := hy1.form
          obtain ⟨ya2, yc2, rfl, _, _, _⟩ := hy2.form
          obtain ⟨ya3, yc3, rfl, _, _, _⟩ := hy3.form
          clear hue hue2 hue3 hy1 hy2 hy3 k1 k2 k3 c1
          generalize (fold (takenT l b q)).length = n1 at *
          generalize (fold (takenT l (b.take i) q)).length = n2 at *
          generalize (fold (takenT l (b.drop i) q)).length = n3 at *
          go_wp2_with fail
          go_region_held3 (fun w' => w'.cell? ⟨ub2, uo2 + q, none⟩ = some (.slice ya2 n2 yc2) ∧ w'.cell? ⟨ub3, uo3 + q, none⟩ = some (.slice ya3 n3 yc3)) (first | go_keep | exact ⟨hx5.ce' (by assumption), hx5.ce' (by assumption)⟩)
            (first
              | (go_at_call 19; refine (PL.out _ (Ext.dr (Ext.rf wr))).mono ?_; rintro e w5 ⟨sv, rfl, hsv, hx5⟩; have HSV := hid hsv; have X5 := hid ((Ext.dr (Ext.rf wr)).tr hx5); clear hsv))
          obtain ⟨sa, sc, rfl, _, _, _⟩ := HSV.out.form
          have c1 := X5.out.ce' HC1.out
          clear c2 c3 HC1 PL hx5
          generalize (fold (takenT l b q)).length = n4 at *
          go_wp2_with fail
          refine (HY.out _ X5.out _ HSV.out).mono ?_
          rintro e w6 ⟨rfl, hx6⟩
          have X6 := hid (hx.tr (X5.out.tr hx6))
          clear HY hx6 c1
          go_wp2_with fail
          go_roundw
          case rel => exact ⟨q + 1, by go_num, by omega, X6.out⟩
          case measure => simp [intOf]; omega
        · obtain rfl : q = n := by omega
          have hqn' : ¬ (q : Int) < (q : Int) := by omega
          go_wp2_with fail
          refine (B.out _).mono ?_
          rintro e w5 ⟨rfl, hx5⟩
          go_wp2_with fail
          go_ret
          exact ⟨rfl, X1.out.tr (X2.out.tr (X3.out.tr (hx.tr hx5)))⟩
  · have LO := hid (LoadOf_is (loadsR_bad h0) hl hb)
    have hne := neT h0
    obtain ⟨a, cap, rfl, _, _, _⟩ := hl.form
    obtain ⟨ba, bc, rfl, _, _, _⟩ := hb.form
    clear hl hb h0
    generalize booksE l b = be at *
    generalize l.length = n at *
    generalize b.length = z at *
    go_enter Try.func4, Try.ntmps4
    go_wp2_with fail
    refine LO.out.mono ?_
    rintro e w1 ⟨u, rfl, hu, hx1⟩
    obtain ⟨ua, uc, rfl, _, _, _⟩ := hu.form
    clear hu
    go_wp2_with fail
    refine (B.out _).mono ?_
    rintro e w2 ⟨rfl, hx2⟩
    go_wp2_with fail
    go_ret
    exact ⟨rfl, hx1.tr hx2⟩

end Go.Proofs.Ytoclbapkgfmphaa
