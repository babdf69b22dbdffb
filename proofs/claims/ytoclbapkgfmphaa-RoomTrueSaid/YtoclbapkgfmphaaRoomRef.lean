/- Walks of the references room and RoomOf; the law RoomTells. -/
import Derived.Test.YtoclbapkgfmphaaLawL
set_option linter.unusedVariables false
namespace Go.Proofs.Ytoclbapkgfmphaa
open Go.RowKit

theorem upd_self (x : Nat → Int) (t : Nat) : upd x t (x t) = x := by
  funext s; unfold upd; split
  · rename_i h; rw [h]
  · rfl
theorem upd_upd (x : Nat → Int) (t : Nat) (a b : Int) : upd (upd x t a) t b = upd x t b := by
  funext s; unfold upd; split <;> simp_all
theorem minTo_step (g : Nat → Int) (ks : List Nat) (k : Nat) {i : Nat} (h : ks[k]? = some i) : minTo g (ks.take (k + 1)) = if k = 0 then g i else min (minTo g (ks.take k)) (g i) := by
  have hk := (List.getElem?_eq_some_iff.1 h).1
  have e : ks.take (k + 1) = ks.take k ++ [i] := by rw [List.take_add_one, h]; rfl
  rw [e]
  by_cases h0 : k = 0
  · subst h0; rw [if_pos rfl]; rfl
  · rw [if_neg h0]
    exact minTo_snoc g i (fun e => by
      have h2 : (ks.take k).length = 0 := by rw [e]; rfl
      rw [List.length_take] at h2
      omega)

set_option maxRecDepth 100000 in
set_option maxHeartbeats 1000000 in
theorem LineOf_new (w : World) (v : Value) (l : List Queue) (q : Int) (hv : QueuesV w v l) (hp : ParsOk l) (h5 : l.length ≤ 5) (hq1 : 0 ≤ q) (hq2 : q < l.length) :
    Calls Try.prog 103 #[v, .int .i64 q] w fun e w' => ∃ v, e = .returned v ∧ IntsV w' v ((lineL l q).map fun k : Nat => (k : Int)) ∧ (∀ a n c, v = .slice (some a) n c → w.heap.size ≤ a.block) ∧ Ext w w' := by
  obtain ⟨ii, ii1, ii2, ii3, ii4⟩ := info_parts Try.info3
  obtain ⟨b, off, cap, rfl, hcap, hc9, hb, hE⟩ := queues_at hv (by omega)
  have HI := hid (line_ints hp hq2 h5)
  have hl5 := lineL_five hp hq2 h5
  have Hp := hid hp
  have HE := hid hE
  clear hv hp hE
  generalize hn : l.length = n at *
  have Hn := hid hn
  clear hn
  go_enter Try.func103, Try.ntmps103
  go_wp2_with fail
  go_loopw [1, 5] (fun c v wr => ∃ (pre : List Nat) (x : Int), c = .int .i64 x ∧ -1 ≤ x ∧ x < n ∧ Hid (pre ++ lineL l x = lineL l q) ∧ Hid (wr.ownsRow w.heap.size 3 1 v pre.length (nums pre)) ∧ Ext w wr) (fun c _ _ => (intOf c + 1).toNat)
  case atStart => exact ⟨[], q, rfl, by omega, by omega, hid rfl, World.ownsRow_nil _ _ _ _, Ext.rf _⟩
  case round =>
    obtain ⟨pre, x, rfl, hx1, hx2, HL, Hown, hx⟩ := hrel
    have hlen : pre.length + (lineL l x).length = (lineL l q).length := by rw [← HL.out, List.length_append]
    have hsz := hx.size
    by_cases h : 0 ≤ x
    · obtain ⟨k, rfl⟩ : ∃ k : Nat, x = k := ⟨x.toNat, by omega⟩
      have hkl : k < l.length := by rw [Hn.out]; omega
      obtain ⟨y, hyk⟩ := getQ (l := l) (k := k) hkl
      obtain ⟨_, e2, _⟩ := at_some hyk
      have hpk := Hp.out k hkl
      rw [e2] at hpk
      obtain ⟨hpk1, hpk2⟩ := hpk
      have HS := hid (show (pre ++ [k]) ++ lineL l y.Parent = lineL l q from by rw [← HL.out, lineL_pos Hp.out hkl, e2]; simp)
      have hcell := (EQueue.mono w wr b _ y hx (HE.out k y hyk)).2.2.1
      have HC := hid (EQueue.mono w wr b _ y hx (HE.out k y hyk)).2.2.1
      have hpl : pre.length + 1 ≤ 5 := by
        have : 1 ≤ (lineL l (k : Int)).length := by rw [lineL_pos Hp.out hkl]; simp
        omega
      have hown := Hown.out
      have hbw : b < wr.heap.size := by omega
      have HX := hid hyk
      clear e2 hyk HL hlen
      go_wp2_with (at_builtin; refine wpList_append_own _ rfl _ _ 107 rfl w.heap.size 3 ii _ 1 8 Try.underlying107 ii1 ii2 ii3 ii4 rfl (by decide) _ _ _ rfl (hown.alloc _) ⟨wr.heap.size, 0, none⟩ 1 1 [.int .i64 (k : Int)] rfl rfl (new1 _ rfl _ _) (one1 _ _) (by unfold maxLen; omega) (by omega) (by simp; omega) ?_)
      intro v2 W2 hown2 hgrow2 hnil2
      have hx2' := (hx.al (.cells #[.int .i64 (k : Int)] 3)).gr hgrow2 (fun k hk => own_lt hown k hk)
      have hcell2 := (EQueue.mono w W2 b _ y hx2' (HE.out k y HX.out)).2.2.1
      go_wp2_with fail
      go_roundw
      case rel => exact ⟨pre ++ [k], y.Parent, rfl, hpk1, by omega, HS, hid (by rw [nums_snoc, List.length_append]; exact hown2), hx2'⟩
      case measure => simp [intOf]; omega
    · have HF := hid (own_fresh Hown.out)
      have hL := hid (show pre = lineL l q from by rw [← HL.out, lineL_neg (by omega), List.append_nil])
      clear HL
      go_wp2_with fail
      go_ret
      refine ⟨_, rfl, ints_of_owns (by rw [← hL.out]; exact Hown.out) HI.out.1 HI.out.2, HF.out, hx⟩

set_option maxRecDepth 100000 in
set_option maxHeartbeats 8000000 in
theorem roomRef_any (w : World) (v bv : Value) (l : List Queue) (b : List Book) (q : Nat) (hq : q < l.length) (hl : QueuesV w v l) (hb : BooksV w bv b) (ok : TreeOk l) (hok : ∀ x ∈ b, BookOk l x) (hb12 : b.length ≤ 12) :
    Calls Try.prog 58 #[v, bv, .int .i64 (q : Int)] w (RetTab w (roomT l b q)) := by
  have LO := hid (fun (W : World) (h : Ext w W) => LineOf_new W v l (q : Int) (hl.mono h) ok.pars ok.n5 (by omega) (by omega))
  have TK := hid (fun (W : World) (h : Ext w W) (q t : Nat) => taken_any W v bv l b q t (hl.mono h) (hb.mono h) ok.pars ok.n5 hok hb12)
  have SP := hid (fun (W : World) (u : Value) (x : List Run) (hs : Shape x) (hu : RunsV W u x) => spread_any W u x hu hs)
  have CS := hid (fun k (hk : k < l.length) => (ok.caps k hk).1.1)
  have LN := hid (fun k t (hk : k < l.length) => left_num ok hok hb12 k t hk)
  have LL := hid (fun k t => show leftT l b k t = sp (cp l k) t - takenT l b k t from rfl)
  have LT := hid (fun k (hk : k ∈ lineL l (q : Int)) => (lineL_lt ok.pars l.length (q : Int) (by omega) (by omega) k hk).1)
  have RT := hid (fun t => show roomT l b q t = minTo (fun k => leftT l b k t) (lineL l (q : Int)) from rfl)
  have LNE := hid (show lineL l (q : Int) ≠ [] by rw [lineL_pos ok.pars hq]; simp)
  have R0 := hid (fun t => show minTo (fun k => leftT l b k t) ((lineL l (q : Int)).take 0) = 0 from rfl)
  obtain ⟨qb, qo, qc, rfl, _, _, hqb, hqE⟩ := queues_at hl ok.n1
  obtain ⟨ba, bc, rfl, hbc, hbc9, hbl⟩ := hb.form
  have HQE := hid hqE
  have hL5 := lineL_five ok.pars (q := (q : Int)) (by omega) ok.n5
  have hn1 := ok.n1
  have hn5 := ok.n5
  clear hl hb hok ok hqE
  generalize hR : roomT l b q = R at *
  clear hR
  generalize hG : leftT l b = G at *
  clear hG
  generalize hLi : lineL l (q : Int) = li at *
  clear hLi
  generalize hnn : l.length = n at *
  have Hn := hid hnn
  clear hnn
  generalize b.length = z at *
  go_enter Try.func58, Try.ntmps58
  go_wp2_with fail
  rw [tab_zero]
  have HA0 := hid (show TabAt 80 ((w.alloc (.cells (tab fun _ => 0) 80)).alloc (.cells (tab fun _ => 0) 80)) w.heap.size (fun _ => 0) from (TabAt.new w (fun _ => 0)).ext ((Ext.rf _).al _))
  have HB0 := hid (show TabAt 80 ((w.alloc (.cells (tab fun _ => 0) 80)).alloc (.cells (tab fun _ => 0) 80)) (w.heap.size + 1) (fun _ => 0) by
    have := TabAt.new (T := 80) (w.alloc (.cells (tab fun _ => 0) 80)) (fun _ => 0)
    simpa using this)
  refine (LO.out _ (((Ext.rf w).al _).al _)).mono ?_
  rintro e w1 ⟨lv, rfl, hlv, hlf, hx1⟩
  have HA1 := hid (HA0.out.ext hx1)
  have HB1 := hid (HB0.out.ext hx1)
  have X1 := hid (show Ext w w1 from (((Ext.rf w).al _).al _).tr hx1)
  clear hx1 HA0 HB0 LO
  obtain ⟨lb, lo, lc, rfl, _, hlb, hlE⟩ : ∃ b off cap, lv = .slice (some ⟨b, off, none⟩) li.length cap ∧ li.length ≤ cap ∧ b < w1.heap.size ∧ ∀ k (i : Nat), li[k]? = some i → w1.cell? ⟨b, off + k, none⟩ = some (.int .i64 (i : Int)) := by
    rcases hlv with ⟨he, _⟩ | ⟨b, off, cap, rfl, h1, h2, h3, h4, hE⟩
    · have : li = [] := by simpa using he
      exact absurd this LNE.out
    · rw [List.length_map] at h1 ⊢
      refine ⟨b, off, cap, rfl, h1, h4, fun k i hk => ?_⟩
      have := (hE k (i : Int) (by rw [List.getElem?_map, hk]; rfl)).1
      rwa [Nat.mul_one] at this
  have hlb2 : w.heap.size + 1 + 1 ≤ lb := by have := hlf _ _ _ rfl; simpa using this
  have HLE := hid hlE
  clear hlv hlE hlf
  generalize hmm : li.length = m at *
  have Hm := hid hmm
  clear hmm
  go_wp2_with fail
  go_loopw [9] (fun c wr => ∃ t : Nat, c = .int .i64 t ∧ t ≤ 48 ∧ Hid (TabAt 80 wr (w.heap.size + 1) (mixT R (fun _ => 0) t)) ∧ Hid (TabAt 80 wr w.heap.size (fun _ => 0)) ∧ Hid (∀ k (i : Nat), li[k]? = some i → wr.cell? ⟨lb, lo + k, none⟩ = some (.int .i64 (i : Int))) ∧ Ext w wr) (fun c _ => 48 - (intOf c).toNat)
  case atStart => exact ⟨0, rfl, by omega, by rw [mixT_zero]; exact HB1, HA1, HLE, X1.out⟩
  case round =>
    obtain ⟨t, rfl, ht, HT, HO, HC, hx⟩ := hrel
    by_cases htl : t < 48
    · have htl' : (t : Int) < 48 := by omega
      have HX := hid hx
      clear hx
      generalize wr = w0 at *
      go_wp2_with fail
      go_loopw [10] (fun c wr => ∃ k : Nat, c = .int .i64 k ∧ k ≤ m ∧ Hid (TabAt 80 wr (w.heap.size + 1) (upd (mixT R (fun _ => 0) t) t (minTo (fun j => G j t) (li.take k)))) ∧ Hid (TabAt 80 wr w.heap.size (fun _ => 0)) ∧ Hid (∀ k (i : Nat), li[k]? = some i → wr.cell? ⟨lb, lo + k, none⟩ = some (.int .i64 (i : Int))) ∧ Ext w wr) (fun c _ => m - (intOf c).toNat)
      case atStart => exact ⟨0, rfl, by omega, hid (by
        rw [R0.out t]
        have e := upd_self (mixT R (fun _ => 0) t) t
        rw [mixT_at] at e
        rw [e]
        exact HT.out), HO, HC, HX.out⟩
      case round =>
        clear HT HO HC HX
        obtain ⟨k, rfl, hk, HT, HO, HC, hx⟩ := hrel
        by_cases hlt : k < m
        · have hlt' : (k : Int) < (m : Int) := by omega
          obtain ⟨j, hjk⟩ := getA (f := li) (k := k) (by rw [Hm.out]; exact hlt)
          have c0 := HC.out k j hjk
          have hjn := LT.out j (List.mem_of_getElem? hjk)
          obtain ⟨x, hxk⟩ := getA (f := l) (k := j) (by rw [Hn.out]; exact hjn)
          obtain ⟨_, _, _, _, u, c1, hu⟩ := EQueue.mono w wr qb _ x hx (HQE.out j x hxk)
          have ecp := (at_some hxk).2.2
          have hsh := CS.out j hjn
          rw [ecp] at hsh
          have hll := LL.out j t
          rw [ecp] at hll
          have hln := LN.out j t hjn
          have hms := minTo_step (fun j => G j t) li k hjk
          have HMS := hid hms
          have TL := hid (fun p : Later wr => later_of p (TK.out p.v (hx.tr p.h) j t))
          have SL := hid (fun p : Later wr => later_of p (SP.out p.v u x.Cap hsh (hu.mono p.h)))
          obtain ⟨ua, uc, rfl, _, _, _⟩ := hu.form
          have hg := fun w => run_index_tab (sp x.Cap) t htl w
          have t1 := deF (show ¬ (j : Int) < 0 by omega)
          have t2 := deF (show ¬ (n : Int) ≤ (j : Int) by omega)
          have t3 := deF (show ¬ n ≤ j by omega)
          have hw : IntKind.i64.wrap (sp x.Cap t - takenT l b j t) = G j t := by rw [IntKind.wrap_i64, hll] <;> omega
          have HXX := hid hx
          clear hu hxk hsh ecp hjk hms hll hln hx
          generalize hgj : G j t = gj at *
          clear hgj
          generalize sp x.Cap = sc at *
          generalize x.Cap.length = xn at *
          generalize takenT l b j t = tk at *
          replace c0 := fun p : Later wr => p.cell c0
          replace c1 := fun p : Later wr => p.cell c1
          go_wp2_with fail
          refine region_later (by kernel_rfl) (by kernel_rfl) ?_
          repeat (go_big_quiet_step (first | with_reducible exact TL.out _ | with_reducible exact SL.out _))
          refine wpQuiet_nil ?_
          rintro w' ⟨p, rfl⟩
          have H2 := hid (HXX.out.tr p.h)
          have HC2 := hid (fun k i hk => p.h.ce' (HC.out k i hk))
          have HT2 := hid (HT.out.ext p.h)
          have HO2 := hid (HO.out.ext p.h)
          clear TL SL c1 c0 hg HXX HT HO HC
          generalize p.v = W at *
          have hcl := HT2.out.cell htl
          rw [upd_same] at hcl
          have hfr := HT2.out.free t
          have hlb2 := HT2.out.lt
          by_cases hk0 : k = 0
          · have hz0 := eqT (a := (k : Int)) (b := 0) (by omega)
            have hS := HT2.out.set htl gj
            rw [upd_upd] at hS
            have hm := HMS.out
            rw [if_pos hk0] at hm
            have HN := hid (show TabAt 80 (W.setCell ⟨w.heap.size + 1, t, none⟩ (.int .i64 gj)) (w.heap.size + 1) (upd (mixT R (fun _ => 0) t) t (minTo (fun j => G j t) (li.take (k + 1)))) by rw [hm]; exact hS)
            clear hS hm hk0
            go_wp2_with fail
            go_roundw
            case rel => exact ⟨k + 1, by go_num, by omega, HN, hid (HO2.out.other (by omega) _), hid (fun k i hk => (grown_set W (w.heap.size + 1) t _).cell (HC2.out k i hk) (fun e => by have e2 : lb = w.heap.size + 1 := Option.some.inj e; omega)), H2.out.se (by omega) _⟩
            case measure => simp [intOf]; omega
          · have hz0 := eqF (a := (k : Int)) (b := 0) (by omega)
            have hm := HMS.out
            rw [if_neg hk0] at hm
            generalize hcu : minTo (fun j => G j t) (li.take k) = cu at *
            by_cases hlt2 : gj < cu
            · have hS := HT2.out.set htl gj
              rw [upd_upd] at hS
              have HN := hid (show TabAt 80 (W.setCell ⟨w.heap.size + 1, t, none⟩ (.int .i64 gj)) (w.heap.size + 1) (upd (mixT R (fun _ => 0) t) t (minTo (fun j => G j t) (li.take (k + 1)))) by rw [hm, show min cu gj = gj by omega]; exact hS)
              clear hS hm hcu HMS
              go_wp2_with fail
              go_roundw
              case rel => exact ⟨k + 1, by go_num, by omega, HN, hid (HO2.out.other (by omega) _), hid (fun k i hk => (grown_set W (w.heap.size + 1) t _).cell (HC2.out k i hk) (fun e => by have e2 : lb = w.heap.size + 1 := Option.some.inj e; omega)), H2.out.se (by omega) _⟩
              case measure => simp [intOf]; omega
            · have HN := hid (show TabAt 80 W (w.heap.size + 1) (upd (mixT R (fun _ => 0) t) t (minTo (fun j => G j t) (li.take (k + 1)))) by rw [hm, show min cu gj = cu by omega]; exact HT2.out)
              clear hm hcu HMS
              go_wp2_with fail
              go_roundw
              case rel => exact ⟨k + 1, by go_num, by omega, HN, HO2, HC2, H2.out⟩
              case measure => simp [intOf]; omega
        · obtain rfl : k = m := by omega
          have hlt' : ¬ (k : Int) < (k : Int) := by omega
          have HN := hid (show TabAt 80 wr (w.heap.size + 1) (mixT R (fun _ => 0) (t + 1)) by
            have h := HT.out
            rw [List.take_of_length_le (by rw [Hm.out]; exact Nat.le_refl _), ← RT.out t, mixT_step] at h
            exact h)
          go_wp2_with fail
          go_roundw
          case rel => exact ⟨t + 1, by go_num, by omega, HN, HO, HC, hx⟩
          case measure => simp [intOf]; omega
    · obtain rfl : t = 48 := by omega
      have htl' : ¬ (48 : Int) < 48 := by omega
      have hT : TabAt 80 wr (w.heap.size + 1) R := HT.out.congr (mixT_all _ _)
      go_wp2_with (first
        | (refine wpList_load_row rfl 80 _ rfl (w.heap.size + 1) rfl 80 (tab R) (0, 0) _ hT Try.underlying80 rfl (by rw [tab_size]; exact Try.size80) ?_)
        | (refine wpList_store_row rfl 80 _ _ rfl w.heap.size (tab R) rfl rfl 80 (tab fun _ => 0) HO.out (by rw [tab_size]; exact Try.size80) (by rw [tab_size, tab_size]) (tab_one _) ?_))
      refine bodyPost_ret (v := .agg (tab R)) (results_cell_row rfl _ _ w.heap.size 80 (tab R) (0, 0) _ rfl (HO.out.row _) Try.underlying80 rfl (by rw [tab_size]; exact Try.size80)) rfl ⟨rfl, hx.sr (Nat.le_refl _) _⟩

set_option maxRecDepth 100000 in
set_option maxHeartbeats 4000000 in
theorem RoomOfRef_any (w : World) (v bv : Value) (l : List Queue) (b : List Book) (q : Int) (hl : QueuesV w v l) (hb : BooksV w bv b) :
    Calls Try.prog 22 #[v, bv, .int .i64 q] w (RetRuns2 w (roomR l b q)) := by
  have C := hid (CheckBooks_any w v bv l b hl hb)
  by_cases h : booksE l b = 0
  · obtain ⟨ok, _, h12, hbok⟩ := booksE_zero h
    rw [h] at C
    have hn5 := ok.n5
    have hw : IntKind.i64.wrap ((l.length : Int) - 1) = (l.length : Int) - 1 := by rw [IntKind.wrap_i64]; omega
    by_cases hq : 0 ≤ q ∧ q < l.length
    · obtain ⟨k, rfl⟩ := Int.eq_ofNat_of_zero_le hq.1
      have Hr := hid (roomR_ok h hq)
      have R1 := hid (fun (W : World) (hx : Ext w W) => roomRef_any W v bv l b k (by omega) (hl.mono hx) (hb.mono hx) ok hbok h12)
      have RN := hid (fun t (_ : t < 48) => show I64 (roomT l b (k : Int) t) from by
        have := minTo_num (g := fun j => leftT l b j t) (a := -1800) (b := 50) (lineL l (k : Int)) (fun j hj => left_num ok hbok h12 j t (lineL_lt ok.pars l.length (k : Int) (by omega) (by omega) j hj).1) (by rw [lineL_pos ok.pars (by omega)]; simp)
        rw [show roomT l b (k : Int) t = minTo (fun j => leftT l b j t) (lineL l (k : Int)) from rfl]
        exact I64.of (by omega) (by omega))
      have FO := hid (fun (W : World) => folded_any W (roomT l b (k : Int)) RN.out)
      have Q := hid (fun W => within_yes (k : Int) 0 ((l.length : Int) - 1) W (by omega) (by omega))
      obtain ⟨a, cap, rfl, _, _, hl5⟩ := hl.form
      obtain ⟨ba, bc, rfl, _, _, _⟩ := hb.form
      clear hl hb h ok hbok hq RN
      generalize roomR l b (Int.ofNat k) = R at *
      generalize roomT l b (k : Int) = rt at *
      generalize l.length = n at *
      generalize b.length = z at *
      go_enter Try.func22, Try.ntmps22
      go_wp2_with fail
      refine C.out.mono ?_
      rintro e w1 ⟨rfl, hx⟩
      go_wp2_with fail
      refine (Q.out _).mono ?_
      rintro e w1' ⟨rfl, rfl⟩
      go_wp2_with fail
      refine (R1.out _ hx).mono ?_
      rintro e w2 ⟨rfl, hx2⟩
      go_wp2_with fail
      refine (FO.out _).mono ?_
      rintro e w3 ⟨u, rfl, hu, hx3⟩
      go_wp2_with fail
      go_ret2
      exact retRuns2_of Hr.out hu ((hx.tr hx2).tr hx3)
    · have Hr := hid (roomR_none h hq)
      have Q := hid (fun W => within_no q 0 ((l.length : Int) - 1) W (by omega))
      obtain ⟨a, cap, rfl, _, _, hl5⟩ := hl.form
      obtain ⟨ba, bc, rfl, _, _, _⟩ := hb.form
      clear hl hb h ok hbok hq
      generalize roomR l b q = R at *
      generalize l.length = n at *
      generalize b.length = z at *
      go_enter Try.func22, Try.ntmps22
      go_wp2_with fail
      refine C.out.mono ?_
      rintro e w1 ⟨rfl, hx⟩
      go_wp2_with fail
      refine (Q.out _).mono ?_
      rintro e w1' ⟨rfl, rfl⟩
      go_wp2_with fail
      go_ret2
      exact retRuns2_of Hr.out SV.nil hx
  · have Hr := hid (roomR_bad (q := q) h)
    have hne := neT h
    obtain ⟨a, cap, rfl, _, _, hl5⟩ := hl.form
    obtain ⟨ba, bc, rfl, _, _, _⟩ := hb.form
    clear hl hb h
    generalize roomR l b q = R at *
    generalize booksE l b = be at *
    generalize l.length = n at *
    generalize b.length = z at *
    go_enter Try.func22, Try.ntmps22
    go_wp2_with fail
    refine C.out.mono ?_
    rintro e w1 ⟨rfl, hx⟩
    go_wp2_with fail
    go_ret2
    exact retRuns2_of Hr.out SV.nil hx

theorem sameRuns_yes {w : World} {vf vg : Value} {f : List Run} (hf : RunsV w vf f) (hg : RunsV w vg f) :
    Calls Try.prog 20 #[vf, vg] w fun e w' => e = .returned (.bool true) ∧ Ext w w' := by
  have := SameRuns_any w vf vg f f hf hg; rw [deT rfl] at this; exact this

set_option maxRecDepth 100000 in
set_option maxHeartbeats 8000000 in
theorem roomTells_any (w : World) (v : Value) (l : List Queue) (bv : Value) (b : List Book) (q : Int) (hl : QueuesV w v l) (hb : BooksV w bv b) :
    Calls Try.prog 5 #[v, bv, .int .i64 q] w fun e w' => e = .returned (.bool true) ∧ Ext w w' := by
  have RO := hid (RoomOf_any w v bv l b q hl hb)
  have RR := hid (fun (W : World) (h : Ext w W) => RoomOfRef_any W v bv l b q (hl.mono h) (hb.mono h))
  have B := hid (fun (W : World) => roomBegun_true W)
  obtain ⟨a, cap, rfl, _, _, _⟩ := hl.form
  obtain ⟨ba, bc, rfl, _, _, _⟩ := hb.form
  clear hl hb
  generalize roomR l b q = rr at *
  obtain ⟨f, m⟩ := rr
  have hmm : (m == m) = true := by simp
  generalize l.length = n at *
  generalize b.length = z at *
  go_enter Try.func5, Try.ntmps5
  go_wp2_with fail
  refine RO.out.mono ?_
  rintro e w1 ⟨u, rfl, hu, hx1⟩
  obtain ⟨ua, uc, rfl, _, _, _⟩ := hu.form
  have HU := hid hu
  have X1 := hid hx1
  clear hu hx1 RO
  generalize hfn : f.length = fn at *
  clear hfn
  go_wp2_with fail
  refine (RR.out _ X1.out).mono ?_
  rintro e w2 ⟨r, rfl, hr, hx2⟩
  obtain ⟨ra, rc, rfl, _, _, _⟩ := hr.form
  have HR := hid hr
  have X12 := hid hx2
  clear hr hx2 RR
  generalize hfm : f.length = fm at *
  clear hfm
  go_wp2_with fail
  refine (B.out _).mono ?_
  rintro e w3 ⟨rfl, hx3⟩
  have X23 := hid hx3
  clear hx3 B
  go_wp2_with fail
  refine (sameRuns_yes (HU.out.mono (X12.out.tr X23.out)) (HR.out.mono X23.out)).mono ?_
  rintro e w4 ⟨rfl, hx4⟩
  have XX := hid (X1.out.tr (X12.out.tr (X23.out.tr hx4)))
  clear hx4
  go_wp2_with fail
  go_ret
  exact ⟨rfl, XX.out⟩

end Go.Proofs.Ytoclbapkgfmphaa
