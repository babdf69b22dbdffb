/- The laws of load and room. -/
import Derived.Test.YtfbcmifclaaacaaGreatRoom
import Derived.Test.YtfbcmifclaaacaaGreatSown
import Derived.Test.YtfbcmifclaaacaaGreatLawR
import Derived.Test.YtfbcmifclaaacaaGreatFind
import Derived.Test.YtfbcmifclaaacaaGreatRefD
import Derived.WalkSpells
import Derived.StillTactics
import Derived.Tactics2
import Derived.Test.YtfbcmifclaaacaaGreatOver
import Derived.Test.YtfbcmifclaaacaaGreatLawD
import Derived.Deep.RegionHeld3

/- The laws on room: roomBegun is true; RoomFirst. -/
set_option linter.unusedVariables false
namespace Go.Proofs.YtfbcmifclaaacaaGreat
open Go.RowKit

theorem sownC : booksE (fieldL 10 0 6) sownL = 0 := by
  have m1 : meetsR (plotR 1) [⟨0, 8⟩, ⟨1, 10⟩] = true := by rw [meetsR_dec]; decide +kernel
  have m2 : meetsR ⟨2, 0, 48, 2, [⟨6, 1⟩]⟩ [⟨0, 9⟩] = true := by rw [meetsR_dec]; decide +kernel
  have q2 : reqE (fieldL 10 0 6) ⟨2, 0, 48, 2, [⟨6, 1⟩]⟩ = 0 := reqE_ok fieldC (by decide +kernel) (by decide)
  rw [booksE_first fieldC (by decide)]
  show firstE _ (⟨1, plotR 1, [⟨0, 8⟩, ⟨1, 10⟩]⟩ :: ⟨4, ⟨2, 0, 48, 2, [⟨6, 1⟩]⟩, [⟨0, 9⟩]⟩ :: []) = 0
  rw [firstE_ok plotC m1, firstE_ok q2 m2]
  rfl

def roomL3 : List Run := [⟨0, 8⟩, ⟨8, 5⟩, ⟨10, -1⟩, ⟨12, 2⟩, ⟨15, 8⟩, ⟨20, 4⟩]
theorem roomV3 : roomR (fieldL 10 0 6) sownL 3 = (roomL3, 0) := by
  rw [roomR_ok sownC (by decide)]
  decide +kernel
theorem roomV4 : roomR (fieldL 10 0 6) sownL 4 = ([], 6) := roomR_none sownC (by decide)
theorem roomV1 : firstOfR roomL3 1 48 10 4 = (15, true, 0) := by unfold firstOfR seekR; decide +kernel
theorem roomV2 : firstOfR roomL3 0 48 24 5 = (0, false, 0) := by unfold firstOfR seekR; decide +kernel
theorem roomV5 : firstOfR roomL3 5 5 1 1 = (0, false, 3) := by unfold firstOfR seekR; decide +kernel

theorem sameRuns_is {w : World} {vf vg : Value} {f g : List Run} {b : Bool} (h : decide (f = g) = b) (hf : RunsV w vf f) (hg : RunsV w vg g) :
    Calls Tryz.prog 85 #[vf, vg] w fun e w' => e = .returned (.bool b) ∧ Ext w w' := by
  have := SameRuns_any w vf vg f g hf hg; rw [h] at this; exact this

end Go.Proofs.YtfbcmifclaaacaaGreat

/- The laws on what is taken and on room: loadBegun, LoadTells, RoomTells, LoadSum. -/

/- The laws on what is taken: loadBegun is true; LoadTells. -/
set_option linter.unusedVariables false
namespace Go.Proofs.YtfbcmifclaaacaaGreat
open Go.RowKit

theorem least_nat {P : Nat → Prop} (h : ∃ n, P n) : ∃ n, P n ∧ ∀ m, m < n → ¬ P m := by
  obtain ⟨n, hn⟩ := h
  induction n using Nat.strongRecOn with
  | ind n ih =>
    by_cases h : ∃ m, m < n ∧ P m
    · obtain ⟨m, hm, hp⟩ := h
      exact ih m hm hp
    · exact ⟨n, hn, fun m hm hp => h ⟨m, hm, hp⟩⟩
theorem over_some {l : List Queue} {b : List Book} {f : Nat} (h : ¬ FitsT l b f) : ∃ t q, OverIs l b f t q := by
  have h1 : ∃ t, f ≤ t ∧ t < 48 ∧ ∃ q, q < l.length ∧ leftT l b q t < 0 := by
    apply Classical.byContradiction
    intro hn
    refine h (fun s h1 h2 p hp => ?_)
    apply Classical.byContradiction
    intro h3
    exact hn ⟨s, h1, h2, p, hp, by omega⟩
  obtain ⟨t, ⟨a1, a2, a3⟩, a4⟩ := least_nat h1
  obtain ⟨q, ⟨b1, b2⟩, b3⟩ := least_nat a3
  refine ⟨t, q, a1, a2, b1, b2, fun s h1 h2 p hp => ?_, fun p hp => ?_⟩
  · apply Classical.byContradiction
    intro h3
    exact a4 s h2 ⟨h1, by omega, p, hp, by omega⟩
  · apply Classical.byContradiction
    intro h3
    exact b3 p hp ⟨by omega, by omega⟩
theorem too_yes {l : List Queue} {b : List Book} {f : Nat} (h : ¬ FitsT l b f) : (tooR l b f).2.2 = true := by
  obtain ⟨t, q, h⟩ := over_some h
  rw [tooR_is h]
theorem too_no {l : List Queue} {b : List Book} {f : Nat} (h : FitsT l b f) : (tooR l b f).2.2 = false := by rw [tooR_no h]

def loadL0 : List Run := [⟨0, 0⟩, ⟨8, 3⟩, ⟨9, 4⟩, ⟨10, 10⟩, ⟨12, 7⟩, ⟨15, 0⟩]
def loadL2 : List Run := [⟨0, 0⟩, ⟨9, 1⟩, ⟨15, 0⟩]
def loadL3 : List Run := [⟨0, 0⟩, ⟨8, 3⟩, ⟨10, 9⟩, ⟨12, 6⟩, ⟨15, 0⟩]
theorem loadV0 : (loadsL (fieldL 10 0 6) sownL)[0]? = some loadL0 := by decide +kernel
theorem loadV2 : (loadsL (fieldL 10 0 6) sownL)[2]? = some loadL2 := by decide +kernel
theorem loadV3 : (loadsL (fieldL 10 0 6) sownL)[3]? = some loadL3 := by decide +kernel
theorem fitsV0 : fitsR (fieldL 10 0 6) sownL 0 = (false, 0) := by
  have h : (tooR (fieldL 10 0 6) sownL 0).2.2 = true := too_yes (fun h => by
    have h1 := h 10 (by omega) (by omega) 1 (by decide)
    have h2 : leftT (fieldL 10 0 6) sownL 1 10 < 0 := by decide +kernel
    omega)
  rw [fitsR_ok sownC (by omega)]
  simp only [Int.toNat_zero]
  rw [h]; rfl
theorem fitsV12 : fitsR (fieldL 10 0 6) sownL 12 = (true, 0) := by
  have h : (tooR (fieldL 10 0 6) sownL 12).2.2 = false := too_no (fun s h1 h2 p hp => by
    have h3 : ∀ s, s < 48 → 12 ≤ s → ∀ p, p < 4 → 0 ≤ leftT (fieldL 10 0 6) sownL p s := by decide +kernel
    exact h3 s h2 h1 p hp)
  rw [fitsR_ok sownC (by omega)]
  rw [show (12 : Int).toNat = 12 from rfl, h]; rfl
theorem fitsV49 : fitsR (fieldL 10 0 6) sownL 49 = (false, 3) := fitsR_out sownC (by omega)
theorem sownNC : booksE (fieldL 10 0 6) sownN = 1 := by
  have m1 : meetsR (plotR 1) [] = false := by rw [meetsR_dec]; decide +kernel
  rw [booksE_first fieldC (by decide)]
  exact firstE_form plotC m1
theorem loadVN : loadsR (fieldL 10 0 6) sownN = ([], 1) := by rw [loadsR_bad (by rw [sownNC]; decide), sownNC]

end Go.Proofs.YtfbcmifclaaacaaGreat

/- Walks of the references room and RoomOf; the law RoomTells. -/
set_option linter.unusedVariables false
namespace Go.Proofs.YtfbcmifclaaacaaGreat
open Go.RowKit

theorem upd_self (x : Nat → Int) (t : Nat) : upd x t (x t) = x := by
  funext s; unfold upd; split
  · rename_i h; rw [h]
  · rfl
theorem upd_upd (x : Nat → Int) (t : Nat) (a b : Int) : upd (upd x t a) t b = upd x t b := by
  funext s; unfold upd; split <;> simp_all
theorem minTo_step (g : Nat → Int) (ks : List Nat) (k : Nat) {i : Nat} (h : ks[k]? = some i) : minTo g (ks.take (k + 1)) = if k = 0 then g i else min (minTo g (ks.take k)) (g i) := by
  have hk := (List.getElem?_eq_some_iff.1 h).1
  have e : ks.take (k + 1) = ks.take k ++ [i] := by rw [List.take_add_one, h]; rfl
  rw [e]
  by_cases h0 : k = 0
  · subst h0; rw [if_pos rfl]; rfl
  · rw [if_neg h0]
    exact minTo_snoc g i (fun e => by
      have h2 : (ks.take k).length = 0 := by rw [e]; rfl
      rw [List.length_take] at h2
      omega)

set_option maxRecDepth 100000 in
set_option maxHeartbeats 1000000 in
theorem LineOf_new (w : World) (v : Value) (l : List Queue) (q : Int) (hv : QueuesV w v l) (hp : ParsOk l) (h5 : l.length ≤ 5) (hq1 : 0 ≤ q) (hq2 : q < l.length) :
    Calls Tryz.prog 70 #[v, .int .i64 q] w fun e w' => ∃ v, e = .returned v ∧ IntsV w' v ((lineL l q).map fun k : Nat => (k : Int)) ∧ (∀ a n c, v = .slice (some a) n c → w.heap.size ≤ a.block) ∧ Ext w w' := by
  obtain ⟨ii, ii1, ii2, ii3, ii4⟩ := info_parts Tryz.info3
  obtain ⟨b, off, cap, rfl, hcap, hc9, hb, hE⟩ := queues_at hv (by omega)
  have HI := hid (line_ints hp hq2 h5)
  have hl5 := lineL_five hp hq2 h5
  have Hp := hid hp
  have HE := hid hE
  clear hv hp hE
  generalize hn : l.length = n at *
  have Hn := hid hn
  clear hn
  go_enter Tryz.func70, Tryz.ntmps70
  go_wp2_with fail
  go_loopw [1, 5] (fun c v wr => ∃ (pre : List Nat) (x : Int), c = .int .i64 x ∧ -1 ≤ x ∧ x < n ∧ Hid (pre ++ lineL l x = lineL l q) ∧ Hid (wr.ownsRow w.heap.size 3 1 v pre.length (nums pre)) ∧ Ext w wr) (fun c _ _ => (intOf c + 1).toNat)
  case atStart => exact ⟨[], q, rfl, by omega, by omega, hid rfl, World.ownsRow_nil _ _ _ _, Ext.rf _⟩
  case round =>
    obtain ⟨pre, x, rfl, hx1, hx2, HL, Hown, hx⟩ := hrel
    have hlen : pre.length + (lineL l x).length = (lineL l q).length := by rw [← HL.out, List.length_append]
    have hsz := hx.size
    by_cases h : 0 ≤ x
    · obtain ⟨k, rfl⟩ : ∃ k : Nat, x = k := ⟨x.toNat, by omega⟩
      have hkl : k < l.length := by rw [Hn.out]; omega
      obtain ⟨y, hyk⟩ := getQ (l := l) (k := k) hkl
      obtain ⟨_, e2, _⟩ := at_some hyk
      have hpk := Hp.out k hkl
      rw [e2] at hpk
      obtain ⟨hpk1, hpk2⟩ := hpk
      have HS := hid (show (pre ++ [k]) ++ lineL l y.Parent = lineL l q from by rw [← HL.out, lineL_pos Hp.out hkl, e2]; simp)
      have hcell := (EQueue.mono w wr b _ y hx (HE.out k y hyk)).2.2.1
      have HC := hid (EQueue.mono w wr b _ y hx (HE.out k y hyk)).2.2.1
      have hpl : pre.length + 1 ≤ 5 := by
        have : 1 ≤ (lineL l (k : Int)).length := by rw [lineL_pos Hp.out hkl]; simp
        omega
      have hown := Hown.out
      have hbw : b < wr.heap.size := by omega
      have HX := hid hyk
      clear e2 hyk HL hlen
      go_wp2_with (at_builtin; refine wpList_append_own _ rfl _ _ 106 rfl w.heap.size 3 ii _ 1 8 Tryz.underlying106 ii1 ii2 ii3 ii4 rfl (by decide) _ _ _ rfl (hown.alloc _) ⟨wr.heap.size, 0, none⟩ 1 1 [.int .i64 (k : Int)] rfl rfl (new1 _ rfl _ _) (one1 _ _) (by unfold maxLen; omega) (by omega) (by simp; omega) ?_)
      intro v2 W2 hown2 hgrow2 hnil2
      have hx2' := (hx.al (.cells #[.int .i64 (k : Int)] 3)).gr hgrow2 (fun k hk => own_lt hown k hk)
      have hcell2 := (EQueue.mono w W2 b _ y hx2' (HE.out k y HX.out)).2.2.1
      go_wp2_with fail
      go_roundw
      case rel => exact ⟨pre ++ [k], y.Parent, rfl, hpk1, by omega, HS, hid (by rw [nums_snoc, List.length_append]; exact hown2), hx2'⟩
      case measure => simp [intOf]; omega
    · have HF := hid (own_fresh Hown.out)
      have hL := hid (show pre = lineL l q from by rw [← HL.out, lineL_neg (by omega), List.append_nil])
      clear HL
      go_wp2_with fail
      go_ret
      refine ⟨_, rfl, ints_of_owns (by rw [← hL.out]; exact Hown.out) HI.out.1 HI.out.2, HF.out, hx⟩

set_option maxRecDepth 100000 in
set_option maxHeartbeats 8000000 in
theorem roomRef_any (w : World) (v bv : Value) (l : List Queue) (b : List Book) (q : Nat) (hq : q < l.length) (hl : QueuesV w v l) (hb : BooksV w bv b) (ok : TreeOk l) (hok : ∀ x ∈ b, BookOk l x) (hb12 : b.length ≤ 12) :
    Calls Tryz.prog 32 #[v, bv, .int .i64 (q : Int)] w (RetTab w (roomT l b q)) := by
  have LO := hid (fun (W : World) (h : Ext w W) => LineOf_new W v l (q : Int) (hl.mono h) ok.pars ok.n5 (by omega) (by omega))
  have TK := hid (fun (W : World) (h : Ext w W) (q t : Nat) => taken_any W v bv l b q t (hl.mono h) (hb.mono h) ok.pars ok.n5 hok hb12)
  have SP := hid (fun (W : World) (u : Value) (x : List Run) (hs : Shape x) (hu : RunsV W u x) => spread_any W u x hu hs)
  have CS := hid (fun k (hk : k < l.length) => (ok.caps k hk).1.1)
  have LN := hid (fun k t (hk : k < l.length) => left_num ok hok hb12 k t hk)
  have LL := hid (fun k t => show leftT l b k t = sp (cp l k) t - takenT l b k t from rfl)
  have LT := hid (fun k (hk : k ∈ lineL l (q : Int)) => (lineL_lt ok.pars l.length (q : Int) (by omega) (by omega) k hk).1)
  have RT := hid (fun t => show roomT l b q t = minTo (fun k => leftT l b k t) (lineL l (q : Int)) from rfl)
  have LNE := hid (show lineL l (q : Int) ≠ [] by rw [lineL_pos ok.pars hq]; simp)
  have R0 := hid (fun t => show minTo (fun k => leftT l b k t) ((lineL l (q : Int)).take 0) = 0 from rfl)
  obtain ⟨qb, qo, qc, rfl, _, _, hqb, hqE⟩ := queues_at hl ok.n1
  obtain ⟨ba, bc, rfl, hbc, hbc9, hbl⟩ := hb.form
  have HQE := hid hqE
  have hL5 := lineL_five ok.pars (q := (q : Int)) (by omega) ok.n5
  have hn1 := ok.n1
  have hn5 := ok.n5
  clear hl hb hok ok hqE
  generalize hR : roomT l b q = R at *
  clear hR
  generalize hG : leftT l b = G at *
  clear hG
  generalize hLi : lineL l (q : Int) = li at *
  clear hLi
  generalize hnn : l.length = n at *
  have Hn := hid hnn
  clear hnn
  generalize b.length = z at *
  go_enter Tryz.func32, Tryz.ntmps32
  go_wp2_with fail
  rw [tab_zero]
  have HA0 := hid (show TabAt 61 ((w.alloc (.cells (tab fun _ => 0) 61)).alloc (.cells (tab fun _ => 0) 61)) w.heap.size (fun _ => 0) from (TabAt.new w (fun _ => 0)).ext ((Ext.rf _).al _))
  have HB0 := hid (show TabAt 61 ((w.alloc (.cells (tab fun _ => 0) 61)).alloc (.cells (tab fun _ => 0) 61)) (w.heap.size + 1) (fun _ => 0) by
    have := TabAt.new (T := 61) (w.alloc (.cells (tab fun _ => 0) 61)) (fun _ => 0)
    simpa using this)
  refine (LO.out _ (((Ext.rf w).al _).al _)).mono ?_
  rintro e w1 ⟨lv, rfl, hlv, hlf, hx1⟩
  have HA1 := hid (HA0.out.ext hx1)
  have HB1 := hid (HB0.out.ext hx1)
  have X1 := hid (show Ext w w1 from (((Ext.rf w).al _).al _).tr hx1)
  clear hx1 HA0 HB0 LO
  obtain ⟨lb, lo, lc, rfl, _, hlb, hlE⟩ : ∃ b off cap, lv = .slice (some ⟨b, off, none⟩) li.length cap ∧ li.length ≤ cap ∧ b < w1.heap.size ∧ ∀ k (i : Nat), li[k]? = some i → w1.cell? ⟨b, off + k, none⟩ = some (.int .i64 (i : Int)) := by
    rcases hlv with ⟨he, _⟩ | ⟨b, off, cap, rfl, h1, h2, h3, h4, hE⟩
    · have : li = [] := by simpa using he
      exact absurd this LNE.out
    · rw [List.length_map] at h1 ⊢
      refine ⟨b, off, cap, rfl, h1, h4, fun k i hk => ?_⟩
      have := (hE k (i : Int) (by rw [List.getElem?_map, hk]; rfl)).1
      rwa [Nat.mul_one] at this
  have hlb2 : w.heap.size + 1 + 1 ≤ lb := by have := hlf _ _ _ rfl; simpa using this
  have HLE := hid hlE
  clear hlv hlE hlf
  generalize hmm : li.length = m at *
  have Hm := hid hmm
  clear hmm
  go_wp2_with fail
  go_loopw [9] (fun c wr => ∃ t : Nat, c = .int .i64 t ∧ t ≤ 48 ∧ Hid (TabAt 61 wr (w.heap.size + 1) (mixT R (fun _ => 0) t)) ∧ Hid (TabAt 61 wr w.heap.size (fun _ => 0)) ∧ Hid (∀ k (i : Nat), li[k]? = some i → wr.cell? ⟨lb, lo + k, none⟩ = some (.int .i64 (i : Int))) ∧ Ext w wr) (fun c _ => 48 - (intOf c).toNat)
  case atStart => exact ⟨0, rfl, by omega, by rw [mixT_zero]; exact HB1, HA1, HLE, X1.out⟩
  case round =>
    obtain ⟨t, rfl, ht, HT, HO, HC, hx⟩ := hrel
    by_cases htl : t < 48
    · have htl' : (t : Int) < 48 := by omega
      have HX := hid hx
      clear hx
      generalize wr = w0 at *
      go_wp2_with fail
      go_loopw [10] (fun c wr => ∃ k : Nat, c = .int .i64 k ∧ k ≤ m ∧ Hid (TabAt 61 wr (w.heap.size + 1) (upd (mixT R (fun _ => 0) t) t (minTo (fun j => G j t) (li.take k)))) ∧ Hid (TabAt 61 wr w.heap.size (fun _ => 0)) ∧ Hid (∀ k (i : Nat), li[k]? = some i → wr.cell? ⟨lb, lo + k, none⟩ = some (.int .i64 (i : Int))) ∧ Ext w wr) (fun c _ => m - (intOf c).toNat)
      case atStart => exact ⟨0, rfl, by omega, hid (by
        rw [R0.out t]
        have e := upd_self (mixT R (fun _ => 0) t) t
        rw [mixT_at] at e
        rw [e]
        exact HT.out), HO, HC, HX.out⟩
      case round =>
        clear HT HO HC HX
        obtain ⟨k, rfl, hk, HT, HO, HC, hx⟩ := hrel
        by_cases hlt : k < m
        · have hlt' : (k : Int) < (m : Int) := by omega
          obtain ⟨j, hjk⟩ := getA (f := li) (k := k) (by rw [Hm.out]; exact hlt)
          have c0 := HC.out k j hjk
          have hjn := LT.out j (List.mem_of_getElem? hjk)
          obtain ⟨x, hxk⟩ := getA (f := l) (k := j) (by rw [Hn.out]; exact hjn)
          obtain ⟨_, _, _, _, u, c1, hu⟩ := EQueue.mono w wr qb _ x hx (HQE.out j x hxk)
          have ecp := (at_some hxk).2.2
          have hsh := CS.out j hjn
          rw [ecp] at hsh
          have hll := LL.out j t
          rw [ecp] at hll
          have hln := LN.out j t hjn
          have hms := minTo_step (fun j => G j t) li k hjk
          have HMS := hid hms
          have TL := hid (fun p : Later wr => later_of p (TK.out p.v (hx.tr p.h) j t))
          have SL := hid (fun p : Later wr => later_of p (SP.out p.v u x.Cap hsh (hu.mono p.h)))
          obtain ⟨ua, uc, rfl, _, _, _⟩ := hu.form
          have hg := fun w => run_index_tab (sp x.Cap) t htl w
          have t1 := deF (show ¬ (j : Int) < 0 by omega)
          have t2 := deF (show ¬ (n : Int) ≤ (j : Int) by omega)
          have t3 := deF (show ¬ n ≤ j by omega)
          have hw : IntKind.i64.wrap (sp x.Cap t - takenT l b j t) = G j t := by rw [IntKind.wrap_i64, hll] <;> omega
          have HXX := hid hx
          clear hu hxk hsh ecp hjk hms hll hln hx
          generalize hgj : G j t = gj at *
          clear hgj
          generalize sp x.Cap = sc at *
          generalize x.Cap.length = xn at *
          generalize takenT l b j t = tk at *
          replace c0 := fun p : Later wr => p.cell c0
          replace c1 := fun p : Later wr => p.cell c1
          go_wp2_with fail
          refine region_later (by kernel_rfl) (by kernel_rfl) ?_
          repeat (go_big_quiet_step (first | with_reducible exact TL.out _ | with_reducible exact SL.out _))
          refine wpQuiet_nil ?_
          rintro w' ⟨p, rfl⟩
          have H2 := hid (HXX.out.tr p.h)
          have HC2 := hid (fun k i hk => p.h.ce' (HC.out k i hk))
          have HT2 := hid (HT.out.ext p.h)
          have HO2 := hid (HO.out.ext p.h)
          clear TL SL c1 c0 hg HXX HT HO HC
          generalize p.v = W at *
          have hcl := HT2.out.cell htl
          rw [upd_same] at hcl
          have hfr := HT2.out.free t
          have hlb2 := HT2.out.lt
          by_cases hk0 : k = 0
          · have hz0 := eqT (a := (k : Int)) (b := 0) (by omega)
            have hS := HT2.out.set htl gj
            rw [upd_upd] at hS
            have hm := HMS.out
            rw [if_pos hk0] at hm
            have HN := hid (show TabAt 61 (W.setCell ⟨w.heap.size + 1, t, none⟩ (.int .i64 gj)) (w.heap.size + 1) (upd (mixT R (fun _ => 0) t) t (minTo (fun j => G j t) (li.take (k + 1)))) by rw [hm]; exact hS)
            clear hS hm hk0
            go_wp2_with fail
            go_roundw
            case rel => exact ⟨k + 1, by go_num, by omega, HN, hid (HO2.out.other (by omega) _), hid (fun k i hk => (grown_set W (w.heap.size + 1) t _).cell (HC2.out k i hk) (fun e => by have e2 : lb = w.heap.size + 1 := Option.some.inj e; omega)), H2.out.se (by omega) _⟩
            case measure => simp [intOf]; omega
          · have hz0 := eqF (a := (k : Int)) (b := 0) (by omega)
            have hm := HMS.out
            rw [if_neg hk0] at hm
            generalize hcu : minTo (fun j => G j t) (li.take k) = cu at *
            by_cases hlt2 : gj < cu
            · have hS := HT2.out.set htl gj
              rw [upd_upd] at hS
              have HN := hid (show TabAt 61 (W.setCell ⟨w.heap.size + 1, t, none⟩ (.int .i64 gj)) (w.heap.size + 1) (upd (mixT R (fun _ => 0) t) t (minTo (fun j => G j t) (li.take (k + 1)))) by rw [hm, show min cu gj = gj by omega]; exact hS)
              clear hS hm hcu HMS
              go_wp2_with fail
              go_roundw
              case rel => exact ⟨k + 1, by go_num, by omega, HN, hid (HO2.out.other (by omega) _), hid (fun k i hk => (grown_set W (w.heap.size + 1) t _).cell (HC2.out k i hk) (fun e => by have e2 : lb = w.heap.size + 1 := Option.some.inj e; omega)), H2.out.se (by omega) _⟩
              case measure => simp [intOf]; omega
            · have HN := hid (show TabAt 61 W (w.heap.size + 1) (upd (mixT R (fun _ => 0) t) t (minTo (fun j => G j t) (li.take (k + 1)))) by rw [hm, show min cu gj = cu by omega]; exact HT2.out)
              clear hm hcu HMS
              go_wp2_with fail
              go_roundw
              case rel => exact ⟨k + 1, by go_num, by omega, HN, HO2, HC2, H2.out⟩
              case measure => simp [intOf]; omega
        · obtain rfl : k = m := by omega
          have hlt' : ¬ (k : Int) < (k : Int) := by omega
          have HN := hid (show TabAt 61 wr (w.heap.size + 1) (mixT R (fun _ => 0) (t + 1)) by
            have h := HT.out
            rw [List.take_of_length_le (by rw [Hm.out]; exact Nat.le_refl _), ← RT.out t, mixT_step] at h
            exact h)
          go_wp2_with fail
          go_roundw
          case rel => exact ⟨t + 1, by go_num, by omega, HN, HO, HC, hx⟩
          case measure => simp [intOf]; omega
    · obtain rfl : t = 48 := by omega
      have htl' : ¬ (48 : Int) < 48 := by omega
      have hT : TabAt 61 wr (w.heap.size + 1) R := HT.out.congr (mixT_all _ _)
      go_wp2_with (first
        | (refine wpList_load_row rfl 61 _ rfl (w.heap.size + 1) rfl 61 (tab R) (0, 0) _ hT Tryz.underlying61 rfl (by rw [tab_size]; exact Tryz.size61) ?_)
        | (refine wpList_store_row rfl 61 _ _ rfl w.heap.size (tab R) rfl rfl 61 (tab fun _ => 0) HO.out (by rw [tab_size]; exact Tryz.size61) (by rw [tab_size, tab_size]) (tab_one _) ?_))
      refine bodyPost_ret (v := .agg (tab R)) (results_cell_row rfl _ _ w.heap.size 61 (tab R) (0, 0) _ rfl (HO.out.row _) Tryz.underlying61 rfl (by rw [tab_size]; exact Tryz.size61)) rfl ⟨rfl, hx.sr (Nat.le_refl _) _⟩

theorem sameRuns_yes {w : World} {vf vg : Value} {f : List Run} (hf : RunsV w vf f) (hg : RunsV w vg f) :
    Calls Tryz.prog 85 #[vf, vg] w fun e w' => e = .returned (.bool true) ∧ Ext w w' := by
  have := SameRuns_any w vf vg f f hf hg; rw [deT rfl] at this; exact this

end Go.Proofs.YtfbcmifclaaacaaGreat

/- The law LoadSum. -/
set_option linter.unusedVariables false
namespace Go.Proofs.YtfbcmifclaaacaaGreat
open Go.RowKit

theorem firstE_all {l : List Queue} : ∀ {b : List Book}, firstE l b = 0 ↔ ∀ x ∈ b, reqE l x.Req = 0 ∧ meetsR x.Req x.Bites = true
  | [] => by simp [firstE]
  | y :: b => by
    by_cases h1 : reqE l y.Req = 0
    · by_cases h2 : meetsR y.Req y.Bites = true
      · rw [firstE_ok h1 h2, firstE_all]
        constructor
        · intro h x hx
          rcases List.mem_cons.1 hx with rfl | hx
          · exact ⟨h1, h2⟩
          · exact h x hx
        · exact fun h x hx => h x (List.mem_cons_of_mem _ hx)
      · constructor
        · intro h; rw [firstE_form h1 (by simpa using h2)] at h; omega
        · intro h; exact absurd (h y (List.mem_cons_self ..)).2 h2
    · constructor
      · intro h; rw [firstE_bad h1] at h; exact absurd h h1
      · intro h; exact absurd (h y (List.mem_cons_self ..)).1 h1
/-- books out of right ones are right -/
theorem booksE_sub {l : List Queue} {b c : List Book} (h : booksE l b = 0) (hm : ∀ x ∈ c, x ∈ b) (hc : c.length ≤ 12) : booksE l c = 0 := by
  obtain ⟨_, h0, h12, _⟩ := booksE_zero h
  rw [booksE_first h0 (by omega)] at h
  rw [booksE_first h0 (by omega)]
  exact firstE_all.2 fun x hx => firstE_all.1 h x (hm x hx)

theorem loads_sum {l : List Queue} {b c d : List Book} (he : b = c ++ d) (hc : ∀ x ∈ c, BookOk l x) (hd : ∀ x ∈ d, BookOk l x) (h1 : c.length ≤ 12) (h2 : d.length ≤ 12) (q : Nat) :
    bothR (fold (takenT l c q)) (fold (takenT l d q)) (fun a b => a + b) = (fold (takenT l b q), 0) := by
  have n1 := fun t => takenT_num (l := l) q t c hc
  have n2 := fun t => takenT_num (l := l) q t d hd
  have e : ∀ t, takenT l b q t = takenT l c q t + takenT l d q t := fun t => by rw [he, takenT_append]
  rw [bothR_yes (fine_fold fun t _ => ⟨by have := n1 t; omega, by have := n1 t; omega⟩) (fine_fold fun t _ => ⟨by have := n2 t; omega, by have := n2 t; omega⟩),
    toldT_congr (y := takenT l b q) (fun t ht => by rw [sp_fold ht, sp_fold ht, e]), toldT_yes (fun t _ => ⟨by have := n1 t; have := n2 t; have := e t; omega, by have := n1 t; have := n2 t; have := e t; omega⟩)]

theorem books_take {w : World} {b : List Book} {a : Option Addr} {z c : Nat} (h : BooksV w (.slice a z c) b) (i : Nat) (hi : i ≤ b.length) : BooksV w (.slice a i c) (b.take i) := by
  rcases h with ⟨rfl, a0, cap, e, h1⟩ | ⟨b0, off, cap, e, h1, h2, h3, h4, h5⟩
  · cases e
    obtain rfl : i = 0 := by simpa using hi
    exact .inl ⟨rfl, _, _, rfl, h1⟩
  · cases e
    have hlen : (b.take i).length = i := by rw [List.length_take]; omega
    refine .inr ⟨b0, off, c, by rw [hlen], by rw [hlen]; omega, h2, by rw [hlen]; omega, h4, fun k x hk => ?_⟩
    have hki : k < i := by have := (List.getElem?_eq_some_iff.1 hk).1; omega
    rw [List.getElem?_take_of_lt hki] at hk
    exact h5 k x hk

theorem books_drop0 {w : World} {b : List Book} {a : Option Addr} {z i c : Nat} (h : BooksV w (.slice a z c) b) (hi : i ≤ z) (hc : c ≤ i) : BooksV w (.slice a (z - i) 0) (b.drop i) := by
  obtain ⟨a0, cap, e, h1, h2, _⟩ := h.form
  cases e
  refine .inl ⟨List.drop_eq_nil_of_le (by omega), a, 0, ?_, by omega⟩
  rw [show b.length - i = 0 by omega]
theorem books_drop1 {w : World} {b : List Book} {a : Option Addr} {z c : Nat} (h : BooksV w (.slice a z c) b) (i : Nat) (hi : i ≤ b.length) : BooksV w (.slice (Option.map (fun x => x.add (i * 7)) a) (z - i) (c - i)) (b.drop i) := by
  rcases h with ⟨rfl, a0, cap, e, h1⟩ | ⟨b0, off, cap, e, h1, h2, h3, h4, h5⟩
  · cases e
    exact .inl ⟨by simp, _, _, by rw [Nat.zero_sub], by omega⟩
  · cases e
    have hlen : (b.drop i).length = b.length - i := List.length_drop
    by_cases hz : i = b.length
    · exact .inl ⟨List.drop_eq_nil_of_le (by omega), _, _, by rw [show b.length - i = 0 by omega], by omega⟩
    · refine .inr ⟨b0, off + i * 7, c - i, ?_, by rw [hlen]; omega, by omega, by rw [hlen]; omega, h4, fun k x hk => ?_⟩
      · rw [hlen]
        by_cases hi0 : i * 7 = 0 <;> simp [Addr.add, hi0]
      · rw [List.getElem?_drop] at hk
        have := h5 (i + k) x hk
        rwa [show off + (i + k) * 7 = off + i * 7 + k * 7 by omega] at this

end Go.Proofs.YtfbcmifclaaacaaGreat
