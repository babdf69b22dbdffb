/- What is told of room and of the soonest place is so; the law AskTrue. -/
import Derived.Test.YtfbcmifclaaacaaRight
set_option linter.unusedVariables false
namespace Go.Proofs.Ytfbcmifclaaacaa
open Go.RowKit

/-! ### the plain law -/
theorem soonTo_low {l : List Bite} : ∀ n, n ≤ l.length → ∀ (k : Nat) (x : Bite), k < n → l[k]? = some x → soonTo l n ≤ x.At
  | 0, _, k, x, h, _ => absurd h (Nat.not_lt_zero _)
  | n + 1, hn, k, x, hk, hx => by
    obtain ⟨y, hy⟩ := getA (f := l) (k := n) (by omega)
    rw [soonTo_succ hy]
    by_cases h : k = n
    · subst h
      rw [hx] at hy; cases hy
      omega
    · have := soonTo_low n (by omega) k x (by omega) hx
      omega
theorem soonTo_is {l : List Bite} (h48 : ∀ (k : Nat) (x : Bite), l[k]? = some x → x.At ≤ 48) : ∀ n, 1 ≤ n → n ≤ l.length → ∃ (k : Nat) (x : Bite), k < n ∧ l[k]? = some x ∧ x.At = soonTo l n
  | 0, h, _ => absurd h (by decide)
  | n + 1, _, hn => by
    obtain ⟨y, hy⟩ := getA (f := l) (k := n) (by omega)
    rw [soonTo_succ hy]
    by_cases h0 : n = 0
    · subst h0
      refine ⟨0, y, by omega, hy, ?_⟩
      have := h48 0 y hy
      show y.At = min 48 y.At
      omega
    · obtain ⟨k, x, h1, h2, h3⟩ := soonTo_is h48 n (by omega) (by omega)
      by_cases h : soonTo l n ≤ y.At
      · exact ⟨k, x, by omega, h2, by omega⟩
      · exact ⟨n, y, by omega, hy, by omega⟩
/-- what is busy and left, where all may be asked -/
theorem busy_law {s : State} {q t : Int} (h : askE s q t = 0) : ∃ (k : Nat) (x : Queue) (c n m : Int), q = (k : Int) ∧ s.Tree[k]? = some x ∧ valueR x.Cap t = (c, 0) ∧ busyR s q t = (n, 0) ∧ leftR s q t = (m, 0) ∧
    (0 ≤ c ∧ c ≤ 50) ∧ (0 ≤ n ∧ n ≤ 1800) ∧ m ≤ c - n ∧ (s.Clock ≤ t → 0 ≤ m) ∧ k < s.Tree.length ∧ s.Tree.length ≤ 5 := by
  obtain ⟨h0, ⟨q1, q2⟩, t1, t2⟩ := askE_zero h
  obtain ⟨hf, _⟩ := stateE_zero h0
  obtain ⟨hb, ⟨k1, k2, _, _⟩, _, _⟩ := formE_zero hf
  obtain ⟨ok, _, h12, hbok⟩ := booksE_zero hb
  obtain ⟨k, rfl⟩ : ∃ k : Nat, q = (k : Int) := ⟨q.toNat, by omega⟩
  obtain ⟨i, rfl⟩ : ∃ i : Nat, t = (i : Int) := ⟨t.toNat, by omega⟩
  have hk : k < s.Tree.length := by omega
  obtain ⟨x, hx⟩ := getA (f := s.Tree) (k := k) hk
  have hcp : cp s.Tree k = x.Cap := by unfold cp; simp [List.getD_eq_getElem?_getD, hx]
  have hfine : Fine x.Cap := by have := (ok.caps k hk).1; rwa [hcp] at this
  have hcn := cap_num ok hk i
  rw [hcp] at hcn
  have htn := takenT_num (l := s.Tree) k i s.Books hbok
  have hself : under s.Tree (k : Int) (k : Nat) = true := under_mem.1 (by rw [lineL_pos ok.pars hk]; exact List.mem_cons_self ..)
  have hrb := room_below (b := s.Books) (t := i) hself
  have hfit := right_fits h0
  refine ⟨k, x, _, _, _, rfl, hx, valueR_fine hfine t1 t2, busyR_ok h, leftR_ok h, ?_, ?_, ?_, fun hc => ?_, hk, ok.n5⟩
  · rw [Int.toNat_natCast]; exact hcn
  · simp only [Int.toNat_natCast]; omega
  · simp only [Int.toNat_natCast]
    unfold leftT at hrb
    rw [hcp] at hrb
    exact hrb
  · simp only [Int.toNat_natCast]
    have := minTo_num (g := fun j => leftT s.Tree s.Books j i) (a := 0) (b := 50) (lineL s.Tree (k : Int)) (fun j hj => by
      have h1 := (lineL_lt ok.pars s.Tree.length (k : Int) (by omega) (by omega) j hj).1
      exact ⟨hfit i (by omega) (by omega) j h1, (left_num ok hbok h12 j i h1).2⟩) (by rw [lineL_pos ok.pars hk]; simp)
    exact this.1
/-- what is told of the soonest, and submitted -/
theorem soon_law (s : State) (r : Request) : ∃ (a : Int) (is : Bool) (g : Int) (X : State) (n h : Int), soonR s r = (a, is, g) ∧ submitR s r = (X, n, h) ∧
    ((g ≠ 0 ∧ g = h) ∨ (g = 0 ∧ h = 2) ∨ (g = 0 ∧ h = 8 ∧ is = false) ∨
      (g = 0 ∧ h = 0 ∧ is = true ∧ ∃ l, X = moreS s r l ∧ 1 ≤ l.length ∧ l.length ≤ 3 ∧ (∀ (k : Nat) (x : Bite), l[k]? = some x → a ≤ x.At) ∧ ∃ (k : Nat) (x : Bite), l[k]? = some x ∧ x.At = a)) := by
  by_cases h0 : mayE s r = 0
  · by_cases h1 : s.Books.length = 12 ∨ s.Next = 1048576
    · obtain ⟨⟨a, is, g⟩, hsr⟩ : ∃ x, soonR s r = x := ⟨_, rfl⟩
      have hg : g = 0 := by
        by_cases h2 : placeL (plotT s r) r = []
        · rw [soonR_none h0 h2] at hsr; exact (congrArg (fun p => p.2.2) hsr).symm
        · rw [soonR_is h0 h2] at hsr; exact (congrArg (fun p => p.2.2) hsr).symm
      exact ⟨a, is, g, _, _, _, hsr, submitR_many h0 h1, .inr (.inl ⟨hg, rfl⟩)⟩
    · by_cases h2 : placeL (plotT s r) r = []
      · exact ⟨_, _, _, _, _, _, soonR_none h0 h2, submitR_full h0 h1 h2, .inr (.inr (.inl ⟨rfl, rfl, rfl⟩))⟩
      · have hro := (may_of h0).2.1
        have hm := found_meets hro h2
        have hq := may_of h0
        have hok : BookOk s.Tree ⟨s.Next, r, placeL (plotT s r) r⟩ := ⟨hq.2.2.1, hq.2.2.2.1, hm⟩
        have hmany : 1 ≤ (placeL (plotT s r) r).length ∧ (placeL (plotT s r) r).length ≤ 3 := hok.many
        refine ⟨_, _, _, _, _, _, soonR_is h0 h2, submitR_ok h0 h1 h2, .inr (.inr (.inr ⟨rfl, rfl, rfl, _, rfl, hmany.1, hmany.2, fun k x hx => ?_, ?_⟩))⟩
        · exact soonTo_low _ (Nat.le_refl _) k x (List.getElem?_eq_some_iff.1 hx).1 hx
        · obtain ⟨k, x, _, e1, e2⟩ := soonTo_is (fun k x hx => (found_at hro hx).2.2.2) _ hmany.1 (Nat.le_refl _)
          exact ⟨k, x, e1, e2⟩
  · exact ⟨_, _, _, _, _, _, soonR_bad h0, submitR_bad h0, .inl ⟨h0, rfl⟩⟩

set_option maxRecDepth 100000 in
set_option maxHeartbeats 16000000 in
theorem askTrue_any (w : World) (sv : Value) (s : State) (q t : Int) (rv : Value) (r : Request) (hs : StateV w sv s) (hr : ReqV w rv r) :
    Calls Try.prog 4 #[sv, .int .i64 q, .int .i64 t, rv] w fun e w' => e = .returned (.bool true) ∧ Ext w w' := by
  obtain ⟨cs, rfl, tv, bv, rfl, ht, hb, _⟩ := hs
  obtain ⟨rs, rfl, pv, rfl, hp, hI⟩ := hr
  have BG := hid (fun (W : World) => askBegun_true W)
  obtain ⟨a, is, g, X, n, h, hso, hsu, hcase⟩ := soon_law s r
  have SO := hid (fun (W : World) (h : Ext w W) => Soonest_is (w := W) (c := s.Clock) (n := s.Next) (l := s.Tree) (b := s.Books) hso (ht.mono h) (hb.mono h) (hp.mono h))
  have SU := hid (fun (c' n' : Int) (l' : List Queue) (b' : List Book) (n2 h2 : Int) (e : submitR s r = (⟨c', n', l', b'⟩, n2, h2)) (W : World) (h : Ext w W) => Submit_is (w := W) (c := s.Clock) (n := s.Next) (l := s.Tree) (b := s.Books) e (ht.mono h) (hb.mono h) (hp.mono h) hI)
  obtain ⟨wb, hwb, HX, HSS, HRR, hszb⟩ := two_boxes w s r tv bv pv
  have HX0 := hid HX
  have HS0 := hid HSS
  have HR0 := hid HRR
  have HWB := hid hwb
  clear HX HSS HRR hwb hszb hso
  by_cases hask : askE s q t = 0
  · obtain ⟨k, y, c, n1, m1, rfl, hyk, hval, hbu, hle, ⟨b1, b2⟩, ⟨b3, b4⟩, b5, b6, hkn, hn5⟩ := busy_law hask
    have BU := hid (fun (W : World) (h : Ext w W) => Busy_is (w := W) (c := s.Clock) (n := s.Next) (l := s.Tree) (b := s.Books) hbu (ht.mono h) (hb.mono h))
    have LE := hid (fun (W : World) (h : Ext w W) => Left_is (w := W) (c := s.Clock) (n := s.Next) (l := s.Tree) (b := s.Books) hle (ht.mono h) (hb.mono h))
    obtain ⟨qb, qo, qc, rfl, _, _, hqb, hqE⟩ := queues_at ht (by omega)
    obtain ⟨_, _, _, _, cv, hcq, hcap⟩ := hqE k y hyk
    have HCQ := hid hcq
    have VA := hid (fun (W : World) (h : Ext w W) => show Calls Try.prog 19 #[cv, .int .i64 t] W (fun e w' => e = .returned (.tuple #[.int .i64 c, .int .i64 0]) ∧ Ext W w') from by
      have := Value_any W cv y.Cap t (hcap.mono h)
      rw [hval] at this
      exact this)
    obtain ⟨ca, cc, rfl, _, _, _⟩ := hcap.form
    have hwr : IntKind.i64.wrap (c - n1) = c - n1 := by rw [IntKind.wrap_i64]; omega
    have p1 := deF (show ¬ c - n1 < m1 by omega)
    have p2 := deF (show ¬ n1 < 0 by omega)
    have p3 : (0 : Int) ≤ (k : Int) := by omega
    have p4 : (k : Int) < (s.Tree.length : Int) := by omega
    have p5 := deF (show ¬ (k : Int) < 0 by omega)
    have p6 := deF (show ¬ (s.Tree.length : Int) ≤ (k : Int) by omega)
    have p7 := deF (show ¬ s.Tree.length ≤ k by omega)
    have p8 := deT (show (0 : Int) ≤ (k : Int) by omega)
    have p9 := deT (show (k : Int) < (s.Tree.length : Int) by omega)
    clear hask hyk hval hbu hle hcq hcap hqE
    by_cases hct : s.Clock ≤ t
    · have r1 := deT hct
      have r2 := deF (show ¬ m1 < 0 by have := b6 hct; omega)
      clear b6
      rcases hcase with ⟨hg, rfl⟩ | ⟨rfl, rfl⟩ | ⟨rfl, rfl, rfl⟩ | ⟨rfl, rfl, rfl, l, rfl, hl1, hl3, hlow, hmem⟩
      · have SU' := hid (SU.out X.Clock X.Next X.Tree X.Books n _ hsu)
        clear SU hsu
        have hg1 := neT hg
        have hg2 := eqT (show g = g from rfl)
        obtain ⟨ba, bc, rfl, _, _, _⟩ := hb.form
        obtain ⟨pa, pc, rfl, _, _, _⟩ := hp.form
        clear ht hb hp
        clear hg
        generalize s.Books.length = sz at *
        generalize r.Pieces.length = pn at *
        go_enter Try.func4, Try.ntmps4
        go_wp2_with fail
        rw [HWB.out]
        refine (BU.out _ HX0.out).mono ?_
        rintro e w2 ⟨rfl, hx2⟩
        have X2 := hid hx2
        obtain ⟨a0, a1, a2, a3⟩ := HS0.out w2 hx2
        clear hx2
        go_wp2_with fail
        clear a0 a1 a2 a3
        refine (LE.out _ (HX0.out.tr X2.out)).mono ?_
        rintro e w3 ⟨rfl, hx3⟩
        have X3 := hid (X2.out.tr hx3)
        clear hx3
        obtain ⟨a0, a1, a2, a3⟩ := HS0.out w3 X3.out
        obtain ⟨c0, c1, c2, c3, c4⟩ := HR0.out w3 X3.out
        have k2 := (HX0.out.tr X3.out).ce' HCQ.out
        go_wp2_with fail
        clear a0 a1 a2 a3 c0 c1 c2 c3 c4 k2
        refine (VA.out _ (HX0.out.tr X3.out)).mono ?_
        rintro e w4 ⟨rfl, hx4⟩
        have XP := hid (X3.out.tr hx4)
        clear hx4
        obtain ⟨a0, a1, a2, a3⟩ := HS0.out w4 XP.out
        obtain ⟨c0, c1, c2, c3, c4⟩ := HR0.out w4 XP.out
        go_wp2_with fail
        clear a0 a1 a2 a3 c0 c1 c2 c3 c4
        refine (SO.out _ (HX0.out.tr XP.out)).mono ?_
        rintro e w6 ⟨rfl, hx6⟩
        have X6 := hid (XP.out.tr hx6)
        clear hx6
        obtain ⟨a0, a1, a2, a3⟩ := HS0.out w6 X6.out
        obtain ⟨c0, c1, c2, c3, c4⟩ := HR0.out w6 X6.out
        go_wp2_with fail
        clear a0 a1 a2 a3 c0 c1 c2 c3 c4
        refine (SU'.out _ (HX0.out.tr X6.out)).mono ?_
        rintro e w7 ⟨u, v, rfl, hu, hv, hx7⟩
        obtain ⟨ua, uc, rfl, _, _, _⟩ := hu.form
        obtain ⟨va, vc, rfl, _, _, _⟩ := hv.form
        have hal := (Ext.rf w7).al (.cells #[.int .i64 X.Clock, .int .i64 X.Next, .slice ua X.Tree.length uc, .slice va X.Books.length vc] 25)
        have X7 := hid (X6.out.tr (hx7.tr hal))
        clear hu hv hx7 hal
        go_wp2_with fail
        refine (BG.out _).mono ?_
        rintro e w9 ⟨rfl, hx9⟩
        go_wp2_with fail
        go_ret
        exact ⟨rfl, HX0.out.tr (X7.out.tr hx9)⟩
      · have SU' := hid (SU.out X.Clock X.Next X.Tree X.Books n _ hsu)
        clear SU hsu
        obtain ⟨ba, bc, rfl, _, _, _⟩ := hb.form
        obtain ⟨pa, pc, rfl, _, _, _⟩ := hp.form
        clear ht hb hp
        generalize s.Books.length = sz at *
        generalize r.Pieces.length = pn at *
        go_enter Try.func4, Try.ntmps4
        go_wp2_with fail
        rw [HWB.out]
        refine (BU.out _ HX0.out).mono ?_
        rintro e w2 ⟨rfl, hx2⟩
        have X2 := hid hx2
        obtain ⟨a0, a1, a2, a3⟩ := HS0.out w2 hx2
        clear hx2
        go_wp2_with fail
        clear a0 a1 a2 a3
        refine (LE.out _ (HX0.out.tr X2.out)).mono ?_
        rintro e w3 ⟨rfl, hx3⟩
        have X3 := hid (X2.out.tr hx3)
        clear hx3
        obtain ⟨a0, a1, a2, a3⟩ := HS0.out w3 X3.out
        obtain ⟨c0, c1, c2, c3, c4⟩ := HR0.out w3 X3.out
        have k2 := (HX0.out.tr X3.out).ce' HCQ.out
        go_wp2_with fail
        clear a0 a1 a2 a3 c0 c1 c2 c3 c4 k2
        refine (VA.out _ (HX0.out.tr X3.out)).mono ?_
        rintro e w4 ⟨rfl, hx4⟩
        have XP := hid (X3.out.tr hx4)
        clear hx4
        obtain ⟨a0, a1, a2, a3⟩ := HS0.out w4 XP.out
        obtain ⟨c0, c1, c2, c3, c4⟩ := HR0.out w4 XP.out
        go_wp2_with fail
        clear a0 a1 a2 a3 c0 c1 c2 c3 c4
        refine (SO.out _ (HX0.out.tr XP.out)).mono ?_
        rintro e w6 ⟨rfl, hx6⟩
        have X6 := hid (XP.out.tr hx6)
        clear hx6
        obtain ⟨a0, a1, a2, a3⟩ := HS0.out w6 X6.out
        obtain ⟨c0, c1, c2, c3, c4⟩ := HR0.out w6 X6.out
        go_wp2_with fail
        clear a0 a1 a2 a3 c0 c1 c2 c3 c4
        refine (SU'.out _ (HX0.out.tr X6.out)).mono ?_
        rintro e w7 ⟨u, v, rfl, hu, hv, hx7⟩
        obtain ⟨ua, uc, rfl, _, _, _⟩ := hu.form
        obtain ⟨va, vc, rfl, _, _, _⟩ := hv.form
        have hal := (Ext.rf w7).al (.cells #[.int .i64 X.Clock, .int .i64 X.Next, .slice ua X.Tree.length uc, .slice va X.Books.length vc] 25)
        have X7 := hid (X6.out.tr (hx7.tr hal))
        clear hu hv hx7 hal
        go_wp2_with fail
        refine (BG.out _).mono ?_
        rintro e w9 ⟨rfl, hx9⟩
        go_wp2_with fail
        go_ret
        exact ⟨rfl, HX0.out.tr (X7.out.tr hx9)⟩
      · have SU' := hid (SU.out X.Clock X.Next X.Tree X.Books n _ hsu)
        clear SU hsu
        obtain ⟨ba, bc, rfl, _, _, _⟩ := hb.form
        obtain ⟨pa, pc, rfl, _, _, _⟩ := hp.form
        clear ht hb hp
        generalize s.Books.length = sz at *
        generalize r.Pieces.length = pn at *
        go_enter Try.func4, Try.ntmps4
        go_wp2_with fail
        rw [HWB.out]
        refine (BU.out _ HX0.out).mono ?_
        rintro e w2 ⟨rfl, hx2⟩
        have X2 := hid hx2
        obtain ⟨a0, a1, a2, a3⟩ := HS0.out w2 hx2
        clear hx2
        go_wp2_with fail
        clear a0 a1 a2 a3
        refine (LE.out _ (HX0.out.tr X2.out)).mono ?_
        rintro e w3 ⟨rfl, hx3⟩
        have X3 := hid (X2.out.tr hx3)
        clear hx3
        obtain ⟨a0, a1, a2, a3⟩ := HS0.out w3 X3.out
        obtain ⟨c0, c1, c2, c3, c4⟩ := HR0.out w3 X3.out
        have k2 := (HX0.out.tr X3.out).ce' HCQ.out
        go_wp2_with fail
        clear a0 a1 a2 a3 c0 c1 c2 c3 c4 k2
        refine (VA.out _ (HX0.out.tr X3.out)).mono ?_
        rintro e w4 ⟨rfl, hx4⟩
        have XP := hid (X3.out.tr hx4)
        clear hx4
        obtain ⟨a0, a1, a2, a3⟩ := HS0.out w4 XP.out
        obtain ⟨c0, c1, c2, c3, c4⟩ := HR0.out w4 XP.out
        go_wp2_with fail
        clear a0 a1 a2 a3 c0 c1 c2 c3 c4
        refine (SO.out _ (HX0.out.tr XP.out)).mono ?_
        rintro e w6 ⟨rfl, hx6⟩
        have X6 := hid (XP.out.tr hx6)
        clear hx6
        obtain ⟨a0, a1, a2, a3⟩ := HS0.out w6 X6.out
        obtain ⟨c0, c1, c2, c3, c4⟩ := HR0.out w6 X6.out
        go_wp2_with fail
        clear a0 a1 a2 a3 c0 c1 c2 c3 c4
        refine (SU'.out _ (HX0.out.tr X6.out)).mono ?_
        rintro e w7 ⟨u, v, rfl, hu, hv, hx7⟩
        obtain ⟨ua, uc, rfl, _, _, _⟩ := hu.form
        obtain ⟨va, vc, rfl, _, _, _⟩ := hv.form
        have hal := (Ext.rf w7).al (.cells #[.int .i64 X.Clock, .int .i64 X.Next, .slice ua X.Tree.length uc, .slice va X.Books.length vc] 25)
        have X7 := hid (X6.out.tr (hx7.tr hal))
        clear hu hv hx7 hal
        go_wp2_with fail
        refine (BG.out _).mono ?_
        rintro e w9 ⟨rfl, hx9⟩
        go_wp2_with fail
        go_ret
        exact ⟨rfl, HX0.out.tr (X7.out.tr hx9)⟩
      · have SU' := hid (SU.out s.Clock (s.Next + 1) s.Tree (s.Books ++ [(⟨s.Next, r, l⟩ : Book)]) n 0 hsu)
        have h12 := (submitR_zero hsu).2.1
        clear SU hsu
        have HLO := hid hlow
        have HMEM := hid hmem
        clear hlow hmem
        obtain ⟨z, hz⟩ : ∃ z, s.Books.length = z := ⟨_, rfl⟩
        obtain ⟨ln, hln⟩ : ∃ ln, l.length = ln := ⟨_, rfl⟩
        obtain ⟨ba, bc, h, _, _, _⟩ := hb.form
        rw [hz] at h h12
        subst h
        obtain ⟨pa, pc, rfl, _, _, _⟩ := hp.form
        have hl1' : 1 ≤ ln := by omega
        have hl3' : ln ≤ 3 := by omega
        have Hz := hid hz
        have Hln := hid hln
        clear ht hb hp hz hln hl1 hl3
        generalize r.Pieces.length = pn at *
        go_enter Try.func4, Try.ntmps4
        go_wp2_with fail
        rw [HWB.out]
        refine (BU.out _ HX0.out).mono ?_
        rintro e w2 ⟨rfl, hx2⟩
        have X2 := hid hx2
        obtain ⟨a0, a1, a2, a3⟩ := HS0.out w2 hx2
        clear hx2
        go_wp2_with fail
        clear a0 a1 a2 a3
        refine (LE.out _ (HX0.out.tr X2.out)).mono ?_
        rintro e w3 ⟨rfl, hx3⟩
        have X3 := hid (X2.out.tr hx3)
        clear hx3
        obtain ⟨a0, a1, a2, a3⟩ := HS0.out w3 X3.out
        obtain ⟨c0, c1, c2, c3, c4⟩ := HR0.out w3 X3.out
        have k2 := (HX0.out.tr X3.out).ce' HCQ.out
        go_wp2_with fail
        clear a0 a1 a2 a3 c0 c1 c2 c3 c4 k2
        refine (VA.out _ (HX0.out.tr X3.out)).mono ?_
        rintro e w4 ⟨rfl, hx4⟩
        have XP := hid (X3.out.tr hx4)
        clear hx4
        obtain ⟨a0, a1, a2, a3⟩ := HS0.out w4 XP.out
        obtain ⟨c0, c1, c2, c3, c4⟩ := HR0.out w4 XP.out
        go_wp2_with fail
        clear a0 a1 a2 a3 c0 c1 c2 c3 c4
        refine (SO.out _ (HX0.out.tr XP.out)).mono ?_
        rintro e w6 ⟨rfl, hx6⟩
        have X6 := hid (XP.out.tr hx6)
        clear hx6
        obtain ⟨a0, a1, a2, a3⟩ := HS0.out w6 X6.out
        obtain ⟨c0, c1, c2, c3, c4⟩ := HR0.out w6 X6.out
        go_wp2_with fail
        clear a0 a1 a2 a3 c0 c1 c2 c3 c4
        refine (SU'.out _ (HX0.out.tr X6.out)).mono ?_
        rintro e w7 ⟨u, v, rfl, hu, hv, hx7⟩
        obtain ⟨ua, uc, rfl, _, _, _⟩ := hu.form
        obtain ⟨va, vc, h, hvc, hvc9, _, hvE⟩ := books_at hv
        have h' : v = .slice va (z + 1) vc := by rw [h]; simp [Hz.out]
        clear h; subst h'
        obtain ⟨bb, bo, rfl, hbb, hE⟩ := hvE (by simp)
        obtain ⟨qv, dv, e0, e1, e2, e3, e4, e5, e6, _, hd⟩ := ebook_cells (hE z ⟨s.Next, r, l⟩ (by rw [← Hz.out]; simp))
        obtain ⟨da, dc, h, hdc, hdc9, hdl, hdE⟩ := bites_at hd
        rw [Hln.out] at h
        subst h
        obtain ⟨db, dofs, rfl, hdb, hdE⟩ := hdE (show 1 ≤ l.length by rw [Hln.out]; omega)
        have HDE := hid hdE
        have hal := (Ext.rf w7).al (.cells #[.int .i64 s.Clock, .int .i64 (s.Next + 1), .slice ua s.Tree.length uc, .slice (some ⟨bb, bo, none⟩) (z + 1) vc] 25)
        have A7 := hid hal
        have X7 := hid (X6.out.tr (hx7.tr hal))
        have i1 : (0 : Int) ≤ (z : Int) := by omega
        have i2 : (z : Int) < (z : Int) + 1 := by omega
        have i3 := deF (show ¬ (z : Int) < 0 by omega)
        have i4 := deF (show ¬ ((z + 1 : Nat) : Int) ≤ (z : Int) by omega)
        have i5 := deF (show ¬ z + 1 ≤ z by omega)
        have i6 := deF (show ¬ (z : Int) + 1 ≤ (z : Int) by omega)
        have i7 : (z : Int) + 1 - 1 = (z : Int) := by omega
        have i8 := eqF (show (z : Int) + 1 ≠ 0 by omega)
        clear hu hv hx7 hal hE hvE hd hdE e0 e1 e2 e3 e4 e5 hvc
        go_wp2_with fail
        clear i1 i2 i3 i4 i5 i6 i7 i8 e6
        generalize w7.alloc (.cells #[.int .i64 s.Clock, .int .i64 (s.Next + 1), .slice ua s.Tree.length uc, .slice (some ⟨bb, bo, none⟩) (z + 1) vc] 25) = wl at *
        go_loopw [22, 23] (fun c d wr => ∃ (k : Nat) (B : Bool), c = .bool B ∧ d = .int .i64 k ∧ k ≤ ln ∧ Ext wl wr ∧ Hid (B = true ∨ ∀ (j : Nat) (x : Bite), j < k → l[j]? = some x → x.At ≠ a)) (fun _ d _ => ln - (intOf d).toNat)
        case atStart => exact ⟨0, false, rfl, rfl, by omega, Ext.rf wl, hid (.inr (fun j x h => absurd h (Nat.not_lt_zero _)))⟩
        case round =>
          obtain ⟨k, B, rfl, rfl, hk, hx, hB⟩ := hrel
          have HXr := hid hx
          by_cases hlt : k < ln
          · have hlt' : (k : Int) < (ln : Int) := by omega
            obtain ⟨x, hxk⟩ := getA (f := l) (k := k) (by rw [Hln.out]; exact hlt)
            obtain ⟨f0, f1, _, _⟩ := HDE.out k x hxk
            replace f1 := (A7.out.tr hx).ce' f1
            have hlo := deF (show ¬ x.At < a by have := HLO.out k x hxk; omega)
            have t1 := deF (show ¬ (k : Int) < 0 by omega)
            have t2 := deF (show ¬ (ln : Int) ≤ (k : Int) by omega)
            have t3 := deF (show ¬ ln ≤ k by omega)
            have HXK := hid hxk
            clear f0 hx hxk
            cases B with
            | true =>
              go_wp2_with fail
              go_roundw
              case rel => exact ⟨k + 1, true, rfl, by go_num, by omega, HXr.out, hid (.inl rfl)⟩
              case measure => simp [intOf]; omega
            | false =>
              by_cases hat : x.At = a
              · have hat' := eqT hat
                clear hat
                go_wp2_with fail
                go_roundw
                case rel => exact ⟨k + 1, true, rfl, by go_num, by omega, HXr.out, hid (.inl rfl)⟩
                case measure => simp [intOf]; omega
              · have hat' := eqF hat
                have HAT := hid hat
                clear hat
                go_wp2_with fail
                go_roundw
                case rel =>
                  refine ⟨k + 1, false, rfl, by go_num, by omega, HXr.out, hid (.inr (fun j y hj hy => ?_))⟩
                  by_cases hjk : j = k
                  · subst hjk
                    have := HXK.out
                    rw [hy] at this
                    cases this
                    exact HAT.out
                  · rcases hB.out with h | h
                    · cases h
                    · exact h j y (by omega) hy
                case measure => simp [intOf]; omega
          · obtain rfl : k = ln := by omega
            have hlt' : ¬ (k : Int) < (k : Int) := by omega
            have hBt : B = true := by
              rcases hB.out with h | h
              · exact h
              · obtain ⟨j, y, hy, hya⟩ := HMEM.out
                exact absurd hya (h j y (by have := (List.getElem?_eq_some_iff.1 hy).1; rw [Hln.out] at this; exact this) hy)
            subst hBt
            clear hlt
            go_wp2_with fail
            refine (BG.out _).mono ?_
            rintro e w9 ⟨rfl, hx9⟩
            go_wp2_with fail
            go_ret
            exact ⟨rfl, HX0.out.tr (X7.out.tr (HXr.out.tr hx9))⟩
    · have r1 := deF hct
      clear b6
      rcases hcase with ⟨hg, rfl⟩ | ⟨rfl, rfl⟩ | ⟨rfl, rfl, rfl⟩ | ⟨rfl, rfl, rfl, l, rfl, hl1, hl3, hlow, hmem⟩
      · have SU' := hid (SU.out X.Clock X.Next X.Tree X.Books n _ hsu)
        clear SU hsu
        have hg1 := neT hg
        have hg2 := eqT (show g = g from rfl)
        obtain ⟨ba, bc, rfl, _, _, _⟩ := hb.form
        obtain ⟨pa, pc, rfl, _, _, _⟩ := hp.form
        clear ht hb hp
        clear hg
        generalize s.Books.length = sz at *
        generalize r.Pieces.length = pn at *
        go_enter Try.func4, Try.ntmps4
        go_wp2_with fail
        rw [HWB.out]
        refine (BU.out _ HX0.out).mono ?_
        rintro e w2 ⟨rfl, hx2⟩
        have X2 := hid hx2
        obtain ⟨a0, a1, a2, a3⟩ := HS0.out w2 hx2
        clear hx2
        go_wp2_with fail
        clear a0 a1 a2 a3
        refine (LE.out _ (HX0.out.tr X2.out)).mono ?_
        rintro e w3 ⟨rfl, hx3⟩
        have X3 := hid (X2.out.tr hx3)
        clear hx3
        obtain ⟨a0, a1, a2, a3⟩ := HS0.out w3 X3.out
        obtain ⟨c0, c1, c2, c3, c4⟩ := HR0.out w3 X3.out
        have k2 := (HX0.out.tr X3.out).ce' HCQ.out
        go_wp2_with fail
        clear a0 a1 a2 a3 c0 c1 c2 c3 c4 k2
        refine (VA.out _ (HX0.out.tr X3.out)).mono ?_
        rintro e w4 ⟨rfl, hx4⟩
        have XP := hid (X3.out.tr hx4)
        clear hx4
        obtain ⟨a0, a1, a2, a3⟩ := HS0.out w4 XP.out
        obtain ⟨c0, c1, c2, c3, c4⟩ := HR0.out w4 XP.out
        go_wp2_with fail
        clear a0 a1 a2 a3 c0 c1 c2 c3 c4
        refine (SO.out _ (HX0.out.tr XP.out)).mono ?_
        rintro e w6 ⟨rfl, hx6⟩
        have X6 := hid (XP.out.tr hx6)
        clear hx6
        obtain ⟨a0, a1, a2, a3⟩ := HS0.out w6 X6.out
        obtain ⟨c0, c1, c2, c3, c4⟩ := HR0.out w6 X6.out
        go_wp2_with fail
        clear a0 a1 a2 a3 c0 c1 c2 c3 c4
        refine (SU'.out _ (HX0.out.tr X6.out)).mono ?_
        rintro e w7 ⟨u, v, rfl, hu, hv, hx7⟩
        obtain ⟨ua, uc, rfl, _, _, _⟩ := hu.form
        obtain ⟨va, vc, rfl, _, _, _⟩ := hv.form
        have hal := (Ext.rf w7).al (.cells #[.int .i64 X.Clock, .int .i64 X.Next, .slice ua X.Tree.length uc, .slice va X.Books.length vc] 25)
        have X7 := hid (X6.out.tr (hx7.tr hal))
        clear hu hv hx7 hal
        go_wp2_with fail
        refine (BG.out _).mono ?_
        rintro e w9 ⟨rfl, hx9⟩
        go_wp2_with fail
        go_ret
        exact ⟨rfl, HX0.out.tr (X7.out.tr hx9)⟩
      · have SU' := hid (SU.out X.Clock X.Next X.Tree X.Books n _ hsu)
        clear SU hsu
        obtain ⟨ba, bc, rfl, _, _, _⟩ := hb.form
        obtain ⟨pa, pc, rfl, _, _, _⟩ := hp.form
        clear ht hb hp
        generalize s.Books.length = sz at *
        generalize r.Pieces.length = pn at *
        go_enter Try.func4, Try.ntmps4
        go_wp2_with fail
        rw [HWB.out]
        refine (BU.out _ HX0.out).mono ?_
        rintro e w2 ⟨rfl, hx2⟩
        have X2 := hid hx2
        obtain ⟨a0, a1, a2, a3⟩ := HS0.out w2 hx2
        clear hx2
        go_wp2_with fail
        clear a0 a1 a2 a3
        refine (LE.out _ (HX0.out.tr X2.out)).mono ?_
        rintro e w3 ⟨rfl, hx3⟩
        have X3 := hid (X2.out.tr hx3)
        clear hx3
        obtain ⟨a0, a1, a2, a3⟩ := HS0.out w3 X3.out
        obtain ⟨c0, c1, c2, c3, c4⟩ := HR0.out w3 X3.out
        have k2 := (HX0.out.tr X3.out).ce' HCQ.out
        go_wp2_with fail
        clear a0 a1 a2 a3 c0 c1 c2 c3 c4 k2
        refine (VA.out _ (HX0.out.tr X3.out)).mono ?_
        rintro e w4 ⟨rfl, hx4⟩
        have XP := hid (X3.out.tr hx4)
        clear hx4
        obtain ⟨a0, a1, a2, a3⟩ := HS0.out w4 XP.out
        obtain ⟨c0, c1, c2, c3, c4⟩ := HR0.out w4 XP.out
        go_wp2_with fail
        clear a0 a1 a2 a3 c0 c1 c2 c3 c4
        refine (SO.out _ (HX0.out.tr XP.out)).mono ?_
        rintro e w6 ⟨rfl, hx6⟩
        have X6 := hid (XP.out.tr hx6)
        clear hx6
        obtain ⟨a0, a1, a2, a3⟩ := HS0.out w6 X6.out
        obtain ⟨c0, c1, c2, c3, c4⟩ := HR0.out w6 X6.out
        go_wp2_with fail
        clear a0 a1 a2 a3 c0 c1 c2 c3 c4
        refine (SU'.out _ (HX0.out.tr X6.out)).mono ?_
        rintro e w7 ⟨u, v, rfl, hu, hv, hx7⟩
        obtain ⟨ua, uc, rfl, _, _, _⟩ := hu.form
        obtain ⟨va, vc, rfl, _, _, _⟩ := hv.form
        have hal := (Ext.rf w7).al (.cells #[.int .i64 X.Clock, .int .i64 X.Next, .slice ua X.Tree.length uc, .slice va X.Books.length vc] 25)
        have X7 := hid (X6.out.tr (hx7.tr hal))
        clear hu hv hx7 hal
        go_wp2_with fail
        refine (BG.out _).mono ?_
        rintro e w9 ⟨rfl, hx9⟩
        go_wp2_with fail
        go_ret
        exact ⟨rfl, HX0.out.tr (X7.out.tr hx9)⟩
      · have SU' := hid (SU.out X.Clock X.Next X.Tree X.Books n _ hsu)
        clear SU hsu
        obtain ⟨ba, bc, rfl, _, _, _⟩ := hb.form
        obtain ⟨pa, pc, rfl, _, _, _⟩ := hp.form
        clear ht hb hp
        generalize s.Books.length = sz at *
        generalize r.Pieces.length = pn at *
        go_enter Try.func4, Try.ntmps4
        go_wp2_with fail
        rw [HWB.out]
        refine (BU.out _ HX0.out).mono ?_
        rintro e w2 ⟨rfl, hx2⟩
        have X2 := hid hx2
        obtain ⟨a0, a1, a2, a3⟩ := HS0.out w2 hx2
        clear hx2
        go_wp2_with fail
        clear a0 a1 a2 a3
        refine (LE.out _ (HX0.out.tr X2.out)).mono ?_
        rintro e w3 ⟨rfl, hx3⟩
        have X3 := hid (X2.out.tr hx3)
        clear hx3
        obtain ⟨a0, a1, a2, a3⟩ := HS0.out w3 X3.out
        obtain ⟨c0, c1, c2, c3, c4⟩ := HR0.out w3 X3.out
        have k2 := (HX0.out.tr X3.out).ce' HCQ.out
        go_wp2_with fail
        clear a0 a1 a2 a3 c0 c1 c2 c3 c4 k2
        refine (VA.out _ (HX0.out.tr X3.out)).mono ?_
        rintro e w4 ⟨rfl, hx4⟩
        have XP := hid (X3.out.tr hx4)
        clear hx4
        obtain ⟨a0, a1, a2, a3⟩ := HS0.out w4 XP.out
        obtain ⟨c0, c1, c2, c3, c4⟩ := HR0.out w4 XP.out
        go_wp2_with fail
        clear a0 a1 a2 a3 c0 c1 c2 c3 c4
        refine (SO.out _ (HX0.out.tr XP.out)).mono ?_
        rintro e w6 ⟨rfl, hx6⟩
        have X6 := hid (XP.out.tr hx6)
        clear hx6
        obtain ⟨a0, a1, a2, a3⟩ := HS0.out w6 X6.out
        obtain ⟨c0, c1, c2, c3, c4⟩ := HR0.out w6 X6.out
        go_wp2_with fail
        clear a0 a1 a2 a3 c0 c1 c2 c3 c4
        refine (SU'.out _ (HX0.out.tr X6.out)).mono ?_
        rintro e w7 ⟨u, v, rfl, hu, hv, hx7⟩
        obtain ⟨ua, uc, rfl, _, _, _⟩ := hu.form
        obtain ⟨va, vc, rfl, _, _, _⟩ := hv.form
        have hal := (Ext.rf w7).al (.cells #[.int .i64 X.Clock, .int .i64 X.Next, .slice ua X.Tree.length uc, .slice va X.Books.length vc] 25)
        have X7 := hid (X6.out.tr (hx7.tr hal))
        clear hu hv hx7 hal
        go_wp2_with fail
        refine (BG.out _).mono ?_
        rintro e w9 ⟨rfl, hx9⟩
        go_wp2_with fail
        go_ret
        exact ⟨rfl, HX0.out.tr (X7.out.tr hx9)⟩
      · have SU' := hid (SU.out s.Clock (s.Next + 1) s.Tree (s.Books ++ [(⟨s.Next, r, l⟩ : Book)]) n 0 hsu)
        have h12 := (submitR_zero hsu).2.1
        clear SU hsu
        have HLO := hid hlow
        have HMEM := hid hmem
        clear hlow hmem
        obtain ⟨z, hz⟩ : ∃ z, s.Books.length = z := ⟨_, rfl⟩
        obtain ⟨ln, hln⟩ : ∃ ln, l.length = ln := ⟨_, rfl⟩
        obtain ⟨ba, bc, h, _, _, _⟩ := hb.form
        rw [hz] at h h12
        subst h
        obtain ⟨pa, pc, rfl, _, _, _⟩ := hp.form
        have hl1' : 1 ≤ ln := by omega
        have hl3' : ln ≤ 3 := by omega
        have Hz := hid hz
        have Hln := hid hln
        clear ht hb hp hz hln hl1 hl3
        generalize r.Pieces.length = pn at *
        go_enter Try.func4, Try.ntmps4
        go_wp2_with fail
        rw [HWB.out]
        refine (BU.out _ HX0.out).mono ?_
        rintro e w2 ⟨rfl, hx2⟩
        have X2 := hid hx2
        obtain ⟨a0, a1, a2, a3⟩ := HS0.out w2 hx2
        clear hx2
        go_wp2_with fail
        clear a0 a1 a2 a3
        refine (LE.out _ (HX0.out.tr X2.out)).mono ?_
        rintro e w3 ⟨rfl, hx3⟩
        have X3 := hid (X2.out.tr hx3)
        clear hx3
        obtain ⟨a0, a1, a2, a3⟩ := HS0.out w3 X3.out
        obtain ⟨c0, c1, c2, c3, c4⟩ := HR0.out w3 X3.out
        have k2 := (HX0.out.tr X3.out).ce' HCQ.out
        go_wp2_with fail
        clear a0 a1 a2 a3 c0 c1 c2 c3 c4 k2
        refine (VA.out _ (HX0.out.tr X3.out)).mono ?_
        rintro e w4 ⟨rfl, hx4⟩
        have XP := hid (X3.out.tr hx4)
        clear hx4
        obtain ⟨a0, a1, a2, a3⟩ := HS0.out w4 XP.out
        obtain ⟨c0, c1, c2, c3, c4⟩ := HR0.out w4 XP.out
        go_wp2_with fail
        clear a0 a1 a2 a3 c0 c1 c2 c3 c4
        refine (SO.out _ (HX0.out.tr XP.out)).mono ?_
        rintro e w6 ⟨rfl, hx6⟩
        have X6 := hid (XP.out.tr hx6)
        clear hx6
        obtain ⟨a0, a1, a2, a3⟩ := HS0.out w6 X6.out
        obtain ⟨c0, c1, c2, c3, c4⟩ := HR0.out w6 X6.out
        go_wp2_with fail
        clear a0 a1 a2 a3 c0 c1 c2 c3 c4
        refine (SU'.out _ (HX0.out.tr X6.out)).mono ?_
        rintro e w7 ⟨u, v, rfl, hu, hv, hx7⟩
        obtain ⟨ua, uc, rfl, _, _, _⟩ := hu.form
        obtain ⟨va, vc, h, hvc, hvc9, _, hvE⟩ := books_at hv
        have h' : v = .slice va (z + 1) vc := by rw [h]; simp [Hz.out]
        clear h; subst h'
        obtain ⟨bb, bo, rfl, hbb, hE⟩ := hvE (by simp)
        obtain ⟨qv, dv, e0, e1, e2, e3, e4, e5, e6, _, hd⟩ := ebook_cells (hE z ⟨s.Next, r, l⟩ (by rw [← Hz.out]; simp))
        obtain ⟨da, dc, h, hdc, hdc9, hdl, hdE⟩ := bites_at hd
        rw [Hln.out] at h
        subst h
        obtain ⟨db, dofs, rfl, hdb, hdE⟩ := hdE (show 1 ≤ l.length by rw [Hln.out]; omega)
        have HDE := hid hdE
        have hal := (Ext.rf w7).al (.cells #[.int .i64 s.Clock, .int .i64 (s.Next + 1), .slice ua s.Tree.length uc, .slice (some ⟨bb, bo, none⟩) (z + 1) vc] 25)
        have A7 := hid hal
        have X7 := hid (X6.out.tr (hx7.tr hal))
        have i1 : (0 : Int) ≤ (z : Int) := by omega
        have i2 : (z : Int) < (z : Int) + 1 := by omega
        have i3 := deF (show ¬ (z : Int) < 0 by omega)
        have i4 := deF (show ¬ ((z + 1 : Nat) : Int) ≤ (z : Int) by omega)
        have i5 := deF (show ¬ z + 1 ≤ z by omega)
        have i6 := deF (show ¬ (z : Int) + 1 ≤ (z : Int) by omega)
        have i7 : (z : Int) + 1 - 1 = (z : Int) := by omega
        have i8 := eqF (show (z : Int) + 1 ≠ 0 by omega)
        clear hu hv hx7 hal hE hvE hd hdE e0 e1 e2 e3 e4 e5 hvc
        go_wp2_with fail
        clear i1 i2 i3 i4 i5 i6 i7 i8 e6
        generalize w7.alloc (.cells #[.int .i64 s.Clock, .int .i64 (s.Next + 1), .slice ua s.Tree.length uc, .slice (some ⟨bb, bo, none⟩) (z + 1) vc] 25) = wl at *
        go_loopw [22, 23] (fun c d wr => ∃ (k : Nat) (B : Bool), c = .bool B ∧ d = .int .i64 k ∧ k ≤ ln ∧ Ext wl wr ∧ Hid (B = true ∨ ∀ (j : Nat) (x : Bite), j < k → l[j]? = some x → x.At ≠ a)) (fun _ d _ => ln - (intOf d).toNat)
        case atStart => exact ⟨0, false, rfl, rfl, by omega, Ext.rf wl, hid (.inr (fun j x h => absurd h (Nat.not_lt_zero _)))⟩
        case round =>
          obtain ⟨k, B, rfl, rfl, hk, hx, hB⟩ := hrel
          have HXr := hid hx
          by_cases hlt : k < ln
          · have hlt' : (k : Int) < (ln : Int) := by omega
            obtain ⟨x, hxk⟩ := getA (f := l) (k := k) (by rw [Hln.out]; exact hlt)
            obtain ⟨f0, f1, _, _⟩ := HDE.out k x hxk
            replace f1 := (A7.out.tr hx).ce' f1
            have hlo := deF (show ¬ x.At < a by have := HLO.out k x hxk; omega)
            have t1 := deF (show ¬ (k : Int) < 0 by omega)
            have t2 := deF (show ¬ (ln : Int) ≤ (k : Int) by omega)
            have t3 := deF (show ¬ ln ≤ k by omega)
            have HXK := hid hxk
            clear f0 hx hxk
            cases B with
            | true =>
              go_wp2_with fail
              go_roundw
              case rel => exact ⟨k + 1, true, rfl, by go_num, by omega, HXr.out, hid (.inl rfl)⟩
              case measure => simp [intOf]; omega
            | false =>
              by_cases hat : x.At = a
              · have hat' := eqT hat
                clear hat
                go_wp2_with fail
                go_roundw
                case rel => exact ⟨k + 1, true, rfl, by go_num, by omega, HXr.out, hid (.inl rfl)⟩
                case measure => simp [intOf]; omega
              · have hat' := eqF hat
                have HAT := hid hat
                clear hat
                go_wp2_with fail
                go_roundw
                case rel =>
                  refine ⟨k + 1, false, rfl, by go_num, by omega, HXr.out, hid (.inr (fun j y hj hy => ?_))⟩
                  by_cases hjk : j = k
                  · subst hjk
                    have := HXK.out
                    rw [hy] at this
                    cases this
                    exact HAT.out
                  · rcases hB.out with h | h
                    · cases h
                    · exact h j y (by omega) hy
                case measure => simp [intOf]; omega
          · obtain rfl : k = ln := by omega
            have hlt' : ¬ (k : Int) < (k : Int) := by omega
            have hBt : B = true := by
              rcases hB.out with h | h
              · exact h
              · obtain ⟨j, y, hy, hya⟩ := HMEM.out
                exact absurd hya (h j y (by have := (List.getElem?_eq_some_iff.1 hy).1; rw [Hln.out] at this; exact this) hy)
            subst hBt
            clear hlt
            go_wp2_with fail
            refine (BG.out _).mono ?_
            rintro e w9 ⟨rfl, hx9⟩
            go_wp2_with fail
            go_ret
            exact ⟨rfl, HX0.out.tr (X7.out.tr (HXr.out.tr hx9))⟩
  · have hbu := busyR_bad hask
    have hle := leftR_bad hask
    have BU := hid (fun (W : World) (h : Ext w W) => Busy_is (w := W) (c := s.Clock) (n := s.Next) (l := s.Tree) (b := s.Books) hbu (ht.mono h) (hb.mono h))
    have LE := hid (fun (W : World) (h : Ext w W) => Left_is (w := W) (c := s.Clock) (n := s.Next) (l := s.Tree) (b := s.Books) hle (ht.mono h) (hb.mono h))
    have hae := eqF hask
    obtain ⟨qa, qc, rfl, _, _, _⟩ := ht.form
    clear hask hbu hle
    generalize askE s q t = ae at *
    rcases hcase with ⟨hg, rfl⟩ | ⟨rfl, rfl⟩ | ⟨rfl, rfl, rfl⟩ | ⟨rfl, rfl, rfl, l, rfl, hl1, hl3, hlow, hmem⟩
    · have SU' := hid (SU.out X.Clock X.Next X.Tree X.Books n _ hsu)
      clear SU hsu
      have hg1 := neT hg
      have hg2 := eqT (show g = g from rfl)
      obtain ⟨ba, bc, rfl, _, _, _⟩ := hb.form
      obtain ⟨pa, pc, rfl, _, _, _⟩ := hp.form
      clear ht hb hp
      clear hg
      generalize s.Books.length = sz at *
      generalize r.Pieces.length = pn at *
      go_enter Try.func4, Try.ntmps4
      go_wp2_with fail
      rw [HWB.out]
      refine (BU.out _ HX0.out).mono ?_
      rintro e w2 ⟨rfl, hx2⟩
      have X2 := hid hx2
      obtain ⟨a0, a1, a2, a3⟩ := HS0.out w2 hx2
      clear hx2
      go_wp2_with fail
      clear a0 a1 a2 a3
      refine (LE.out _ (HX0.out.tr X2.out)).mono ?_
      rintro e w3 ⟨rfl, hx3⟩
      have X3 := hid (X2.out.tr hx3)
      clear hx3
      obtain ⟨a0, a1, a2, a3⟩ := HS0.out w3 X3.out
      obtain ⟨c0, c1, c2, c3, c4⟩ := HR0.out w3 X3.out
      have XP := X3
      go_wp2_with fail
      clear a0 a1 a2 a3 c0 c1 c2 c3 c4
      refine (SO.out _ (HX0.out.tr XP.out)).mono ?_
      rintro e w6 ⟨rfl, hx6⟩
      have X6 := hid (XP.out.tr hx6)
      clear hx6
      obtain ⟨a0, a1, a2, a3⟩ := HS0.out w6 X6.out
      obtain ⟨c0, c1, c2, c3, c4⟩ := HR0.out w6 X6.out
      go_wp2_with fail
      clear a0 a1 a2 a3 c0 c1 c2 c3 c4
      refine (SU'.out _ (HX0.out.tr X6.out)).mono ?_
      rintro e w7 ⟨u, v, rfl, hu, hv, hx7⟩
      obtain ⟨ua, uc, rfl, _, _, _⟩ := hu.form
      obtain ⟨va, vc, rfl, _, _, _⟩ := hv.form
      have hal := (Ext.rf w7).al (.cells #[.int .i64 X.Clock, .int .i64 X.Next, .slice ua X.Tree.length uc, .slice va X.Books.length vc] 25)
      have X7 := hid (X6.out.tr (hx7.tr hal))
      clear hu hv hx7 hal
      go_wp2_with fail
      refine (BG.out _).mono ?_
      rintro e w9 ⟨rfl, hx9⟩
      go_wp2_with fail
      go_ret
      exact ⟨rfl, HX0.out.tr (X7.out.tr hx9)⟩
    · have SU' := hid (SU.out X.Clock X.Next X.Tree X.Books n _ hsu)
      clear SU hsu
      obtain ⟨ba, bc, rfl, _, _, _⟩ := hb.form
      obtain ⟨pa, pc, rfl, _, _, _⟩ := hp.form
      clear ht hb hp
      generalize s.Books.length = sz at *
      generalize r.Pieces.length = pn at *
      go_enter Try.func4, Try.ntmps4
      go_wp2_with fail
      rw [HWB.out]
      refine (BU.out _ HX0.out).mono ?_
      rintro e w2 ⟨rfl, hx2⟩
      have X2 := hid hx2
      obtain ⟨a0, a1, a2, a3⟩ := HS0.out w2 hx2
      clear hx2
      go_wp2_with fail
      clear a0 a1 a2 a3
      refine (LE.out _ (HX0.out.tr X2.out)).mono ?_
      rintro e w3 ⟨rfl, hx3⟩
      have X3 := hid (X2.out.tr hx3)
      clear hx3
      obtain ⟨a0, a1, a2, a3⟩ := HS0.out w3 X3.out
      obtain ⟨c0, c1, c2, c3, c4⟩ := HR0.out w3 X3.out
      have XP := X3
      go_wp2_with fail
      clear a0 a1 a2 a3 c0 c1 c2 c3 c4
      refine (SO.out _ (HX0.out.tr XP.out)).mono ?_
      rintro e w6 ⟨rfl, hx6⟩
      have X6 := hid (XP.out.tr hx6)
      clear hx6
      obtain ⟨a0, a1, a2, a3⟩ := HS0.out w6 X6.out
      obtain ⟨c0, c1, c2, c3, c4⟩ := HR0.out w6 X6.out
      go_wp2_with fail
      clear a0 a1 a2 a3 c0 c1 c2 c3 c4
      refine (SU'.out _ (HX0.out.tr X6.out)).mono ?_
      rintro e w7 ⟨u, v, rfl, hu, hv, hx7⟩
      obtain ⟨ua, uc, rfl, _, _, _⟩ := hu.form
      obtain ⟨va, vc, rfl, _, _, _⟩ := hv.form
      have hal := (Ext.rf w7).al (.cells #[.int .i64 X.Clock, .int .i64 X.Next, .slice ua X.Tree.length uc, .slice va X.Books.length vc] 25)
      have X7 := hid (X6.out.tr (hx7.tr hal))
      clear hu hv hx7 hal
      go_wp2_with fail
      refine (BG.out _).mono ?_
      rintro e w9 ⟨rfl, hx9⟩
      go_wp2_with fail
      go_ret
      exact ⟨rfl, HX0.out.tr (X7.out.tr hx9)⟩
    · have SU' := hid (SU.out X.Clock X.Next X.Tree X.Books n _ hsu)
      clear SU hsu
      obtain ⟨ba, bc, rfl, _, _, _⟩ := hb.form
      obtain ⟨pa, pc, rfl, _, _, _⟩ := hp.form
      clear ht hb hp
      generalize s.Books.length = sz at *
      generalize r.Pieces.length = pn at *
      go_enter Try.func4, Try.ntmps4
      go_wp2_with fail
      rw [HWB.out]
      refine (BU.out _ HX0.out).mono ?_
      rintro e w2 ⟨rfl, hx2⟩
      have X2 := hid hx2
      obtain ⟨a0, a1, a2, a3⟩ := HS0.out w2 hx2
      clear hx2
      go_wp2_with fail
      clear a0 a1 a2 a3
      refine (LE.out _ (HX0.out.tr X2.out)).mono ?_
      rintro e w3 ⟨rfl, hx3⟩
      have X3 := hid (X2.out.tr hx3)
      clear hx3
      obtain ⟨a0, a1, a2, a3⟩ := HS0.out w3 X3.out
      obtain ⟨c0, c1, c2, c3, c4⟩ := HR0.out w3 X3.out
      have XP := X3
      go_wp2_with fail
      clear a0 a1 a2 a3 c0 c1 c2 c3 c4
      refine (SO.out _ (HX0.out.tr XP.out)).mono ?_
      rintro e w6 ⟨rfl, hx6⟩
      have X6 := hid (XP.out.tr hx6)
      clear hx6
      obtain ⟨a0, a1, a2, a3⟩ := HS0.out w6 X6.out
      obtain ⟨c0, c1, c2, c3, c4⟩ := HR0.out w6 X6.out
      go_wp2_with fail
      clear a0 a1 a2 a3 c0 c1 c2 c3 c4
      refine (SU'.out _ (HX0.out.tr X6.out)).mono ?_
      rintro e w7 ⟨u, v, rfl, hu, hv, hx7⟩
      obtain ⟨ua, uc, rfl, _, _, _⟩ := hu.form
      obtain ⟨va, vc, rfl, _, _, _⟩ := hv.form
      have hal := (Ext.rf w7).al (.cells #[.int .i64 X.Clock, .int .i64 X.Next, .slice ua X.Tree.length uc, .slice va X.Books.length vc] 25)
      have X7 := hid (X6.out.tr (hx7.tr hal))
      clear hu hv hx7 hal
      go_wp2_with fail
      refine (BG.out _).mono ?_
      rintro e w9 ⟨rfl, hx9⟩
      go_wp2_with fail
      go_ret
      exact ⟨rfl, HX0.out.tr (X7.out.tr hx9)⟩
    · have SU' := hid (SU.out s.Clock (s.Next + 1) s.Tree (s.Books ++ [(⟨s.Next, r, l⟩ : Book)]) n 0 hsu)
      have h12 := (submitR_zero hsu).2.1
      clear SU hsu
      have HLO := hid hlow
      have HMEM := hid hmem
      clear hlow hmem
      obtain ⟨z, hz⟩ : ∃ z, s.Books.length = z := ⟨_, rfl⟩
      obtain ⟨ln, hln⟩ : ∃ ln, l.length = ln := ⟨_, rfl⟩
      obtain ⟨ba, bc, h, _, _, _⟩ := hb.form
      rw [hz] at h h12
      subst h
      obtain ⟨pa, pc, rfl, _, _, _⟩ := hp.form
      have hl1' : 1 ≤ ln := by omega
      have hl3' : ln ≤ 3 := by omega
      have Hz := hid hz
      have Hln := hid hln
      clear ht hb hp hz hln hl1 hl3
      generalize r.Pieces.length = pn at *
      go_enter Try.func4, Try.ntmps4
      go_wp2_with fail
      rw [HWB.out]
      refine (BU.out _ HX0.out).mono ?_
      rintro e w2 ⟨rfl, hx2⟩
      have X2 := hid hx2
      obtain ⟨a0, a1, a2, a3⟩ := HS0.out w2 hx2
      clear hx2
      go_wp2_with fail
      clear a0 a1 a2 a3
      refine (LE.out _ (HX0.out.tr X2.out)).mono ?_
      rintro e w3 ⟨rfl, hx3⟩
      have X3 := hid (X2.out.tr hx3)
      clear hx3
      obtain ⟨a0, a1, a2, a3⟩ := HS0.out w3 X3.out
      obtain ⟨c0, c1, c2, c3, c4⟩ := HR0.out w3 X3.out
      have XP := X3
      go_wp2_with fail
      clear a0 a1 a2 a3 c0 c1 c2 c3 c4
      refine (SO.out _ (HX0.out.tr XP.out)).mono ?_
      rintro e w6 ⟨rfl, hx6⟩
      have X6 := hid (XP.out.tr hx6)
      clear hx6
      obtain ⟨a0, a1, a2, a3⟩ := HS0.out w6 X6.out
      obtain ⟨c0, c1, c2, c3, c4⟩ := HR0.out w6 X6.out
      go_wp2_with fail
      clear a0 a1 a2 a3 c0 c1 c2 c3 c4
      refine (SU'.out _ (HX0.out.tr X6.out)).mono ?_
      rintro e w7 ⟨u, v, rfl, hu, hv, hx7⟩
      obtain ⟨ua, uc, rfl, _, _, _⟩ := hu.form
      obtain ⟨va, vc, h, hvc, hvc9, _, hvE⟩ := books_at hv
      have h' : v = .slice va (z + 1) vc := by rw [h]; simp [Hz.out]
      clear h; subst h'
      obtain ⟨bb, bo, rfl, hbb, hE⟩ := hvE (by simp)
      obtain ⟨qv, dv, e0, e1, e2, e3, e4, e5, e6, _, hd⟩ := ebook_cells (hE z ⟨s.Next, r, l⟩ (by rw [← Hz.out]; simp))
      obtain ⟨da, dc, h, hdc, hdc9, hdl, hdE⟩ := bites_at hd
      rw [Hln.out] at h
      subst h
      obtain ⟨db, dofs, rfl, hdb, hdE⟩ := hdE (show 1 ≤ l.length by rw [Hln.out]; omega)
      have HDE := hid hdE
      have hal := (Ext.rf w7).al (.cells #[.int .i64 s.Clock, .int .i64 (s.Next + 1), .slice ua s.Tree.length uc, .slice (some ⟨bb, bo, none⟩) (z + 1) vc] 25)
      have A7 := hid hal
      have X7 := hid (X6.out.tr (hx7.tr hal))
      have i1 : (0 : Int) ≤ (z : Int) := by omega
      have i2 : (z : Int) < (z : Int) + 1 := by omega
      have i3 := deF (show ¬ (z : Int) < 0 by omega)
      have i4 := deF (show ¬ ((z + 1 : Nat) : Int) ≤ (z : Int) by omega)
      have i5 := deF (show ¬ z + 1 ≤ z by omega)
      have i6 := deF (show ¬ (z : Int) + 1 ≤ (z : Int) by omega)
      have i7 : (z : Int) + 1 - 1 = (z : Int) := by omega
      have i8 := eqF (show (z : Int) + 1 ≠ 0 by omega)
      clear hu hv hx7 hal hE hvE hd hdE e0 e1 e2 e3 e4 e5 hvc
      go_wp2_with fail
      clear i1 i2 i3 i4 i5 i6 i7 i8 e6
      generalize w7.alloc (.cells #[.int .i64 s.Clock, .int .i64 (s.Next + 1), .slice ua s.Tree.length uc, .slice (some ⟨bb, bo, none⟩) (z + 1) vc] 25) = wl at *
      go_loopw [22, 23] (fun c d wr => ∃ (k : Nat) (B : Bool), c = .bool B ∧ d = .int .i64 k ∧ k ≤ ln ∧ Ext wl wr ∧ Hid (B = true ∨ ∀ (j : Nat) (x : Bite), j < k → l[j]? = some x → x.At ≠ a)) (fun _ d _ => ln - (intOf d).toNat)
      case atStart => exact ⟨0, false, rfl, rfl, by omega, Ext.rf wl, hid (.inr (fun j x h => absurd h (Nat.not_lt_zero _)))⟩
      case round =>
        obtain ⟨k, B, rfl, rfl, hk, hx, hB⟩ := hrel
        have HXr := hid hx
        by_cases hlt : k < ln
        · have hlt' : (k : Int) < (ln : Int) := by omega
          obtain ⟨x, hxk⟩ := getA (f := l) (k := k) (by rw [Hln.out]; exact hlt)
          obtain ⟨f0, f1, _, _⟩ := HDE.out k x hxk
          replace f1 := (A7.out.tr hx).ce' f1
          have hlo := deF (show ¬ x.At < a by have := HLO.out k x hxk; omega)
          have t1 := deF (show ¬ (k : Int) < 0 by omega)
          have t2 := deF (show ¬ (ln : Int) ≤ (k : Int) by omega)
          have t3 := deF (show ¬ ln ≤ k by omega)
          have HXK := hid hxk
          clear f0 hx hxk
          cases B with
          | true =>
            go_wp2_with fail
            go_roundw
            case rel => exact ⟨k + 1, true, rfl, by go_num, by omega, HXr.out, hid (.inl rfl)⟩
            case measure => simp [intOf]; omega
          | false =>
            by_cases hat : x.At = a
            · have hat' := eqT hat
              clear hat
              go_wp2_with fail
              go_roundw
              case rel => exact ⟨k + 1, true, rfl, by go_num, by omega, HXr.out, hid (.inl rfl)⟩
              case measure => simp [intOf]; omega
            · have hat' := eqF hat
              have HAT := hid hat
              clear hat
              go_wp2_with fail
              go_roundw
              case rel =>
                refine ⟨k + 1, false, rfl, by go_num, by omega, HXr.out, hid (.inr (fun j y hj hy => ?_))⟩
                by_cases hjk : j = k
                · subst hjk
                  have := HXK.out
                  rw [hy] at this
                  cases this
                  exact HAT.out
                · rcases hB.out with h | h
                  · cases h
                  · exact h j y (by omega) hy
              case measure => simp [intOf]; omega
        · obtain rfl : k = ln := by omega
          have hlt' : ¬ (k : Int) < (k : Int) := by omega
          have hBt : B = true := by
            rcases hB.out with h | h
            · exact h
            · obtain ⟨j, y, hy, hya⟩ := HMEM.out
              exact absurd hya (h j y (by have := (List.getElem?_eq_some_iff.1 hy).1; rw [Hln.out] at this; exact this) hy)
          subst hBt
          clear hlt
          go_wp2_with fail
          refine (BG.out _).mono ?_
          rintro e w9 ⟨rfl, hx9⟩
          go_wp2_with fail
          go_ret
          exact ⟨rfl, HX0.out.tr (X7.out.tr (HXr.out.tr hx9))⟩

end Go.Proofs.Ytfbcmifclaaacaa
