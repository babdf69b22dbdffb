/- Walks of the references: told, both, PlusOf, MinusOf, LesserOf, BumpOf, LeastOf, ValueOf. -/
import Derived.Test.YtchblkemofncoaaRefB
import Derived.Test.YtchblkemofncoaaRunsD
set_option linter.unusedVariables false
namespace Go.Proofs.Ytchblkemofncoaa
open Go.RowKit

/-- a table as runs, or ErrMany -/
@[irreducible] noncomputable def toldT (x : Nat → Int) : List Run × Int := open Classical in if ∀ t, t < 48 → NumOk (x t) then (fold x, 0) else ([], 2)
theorem toldT_yes {x : Nat → Int} (h : ∀ t, t < 48 → NumOk (x t)) : toldT x = (fold x, 0) := by unfold toldT; rw [if_pos h]
theorem toldT_no {x : Nat → Int} {t : Nat} (ht : t < 48) (h : ¬ NumOk (x t)) : toldT x = ([], 2) := by unfold toldT; rw [if_neg (fun h' => h (h' t ht))]
theorem toldT_congr {x y : Nat → Int} (h : ∀ t, t < 48 → x t = y t) : toldT x = toldT y := by
  by_cases hx : ∀ t, t < 48 → NumOk (x t)
  · rw [toldT_yes hx, toldT_yes (fun t ht => by rw [← h t ht]; exact hx t ht), fold_congr h]
  · unfold toldT; rw [if_neg hx, if_neg (fun hy => hx (fun t ht => by rw [h t ht]; exact hy t ht))]

/-- runs and an error are told -/
def RetRuns2 (w : World) (r : List Run × Int) (e : Ending) (w' : World) : Prop := ∃ v, e = .returned (.tuple #[v, .int .i64 r.2]) ∧ RunsV w' v r.1 ∧ Ext w w'

theorem retRuns2_of {w w' : World} {r : List Run × Int} {l : List Run} {n : Int} {v : Value} (h : r = (l, n)) (hv : RunsV w' v l) (hx : Ext w w') : RetRuns2 w r (.returned (.tuple #[v, .int .i64 n])) w' := by
  subst h; exact ⟨v, rfl, hv, hx⟩

set_option maxHeartbeats 1000000 in
theorem toldRef_any (w : World) (x : Nat → Int) (hi : ∀ t, t < 48 → I64 (x t)) : Calls Try.prog 91 #[.agg (tab x)] w (RetRuns2 w (toldT x)) := by
  have F := hid (fun (W : World) => folded_any W x hi)
  have Hi := hid hi
  clear hi
  go_enter Try.func91, Try.ntmps91
  go_wp2_with fail
  go_loopw [4] (fun c wr => ∃ t : Nat, c = .int .i64 t ∧ t ≤ 48 ∧ Hid (∀ s, s < t → NumOk (x s)) ∧ Hid (TabAt 99 wr w.heap.size x) ∧ Ext w wr) (fun c _ => 48 - (intOf c).toNat)
  case atStart => exact ⟨0, rfl, by omega, fun s hs => absurd hs (Nat.not_lt_zero _), TabAt.new w x, (Ext.rf w).al _⟩
  case round =>
    obtain ⟨t, rfl, ht, Hok, HT, hx⟩ := hrel
    have hnew : w.heap.size < wr.heap.size := HT.out.lt
    by_cases hlt : t < 48
    · have hlt' : (t : Int) < 48 := by omega
      have hcl := HT.out.cell hlt
      by_cases hn : NumOk (x t)
      · have q := fun w => within_yes (x t) (-1048576) 1048576 w hn.1 hn.2
        have Q := hid q
        have Hn := hid hn
        clear q hn
        go_wp2_with fail
        refine (Q.out _).mono ?_
        rintro e w' ⟨rfl, rfl⟩
        go_wp2_with fail
        go_roundw
        case rel => exact ⟨t + 1, by go_num, by omega, fun s hs => if e : s = t then e ▸ Hn.out else Hok.out s (by omega), HT, hx⟩
        case measure => simp [intOf]; omega
      · have q := fun w => within_no (x t) (-1048576) 1048576 w hn
        have Q := hid q
        have Hr := hid (toldT_no hlt hn)
        clear q hn
        go_wp2_with fail
        refine (Q.out _).mono ?_
        rintro e w' ⟨rfl, rfl⟩
        go_wp2_with fail
        go_ret2
        exact retRuns2_of Hr.out (SV.nil) hx
    · have hlt' : ¬ (t : Int) < 48 := by omega
      obtain rfl : t = 48 := by omega
      have Hr := hid (toldT_yes Hok.out)
      go_wp2_with (first | (refine wpList_load_row rfl 99 _ rfl w.heap.size rfl 99 (tab x) (0, 0) _ HT.out Try.underlying99 rfl (by rw [tab_size]; exact Try.size99) ?_))
      refine (F.out _).mono ?_
      rintro e w1 ⟨v, rfl, hv, hx1⟩
      go_wp2_with fail
      go_ret2
      exact retRuns2_of Hr.out hv (hx.tr hx1)

/-- the first t times told anew -/
def mixT (z x : Nat → Int) (t : Nat) : Nat → Int := fun s => if s < t then z s else x s
theorem mixT_zero (z x : Nat → Int) : mixT z x 0 = x := by funext s; simp [mixT]
theorem mixT_at (z x : Nat → Int) (t : Nat) : mixT z x t t = x t := by simp [mixT]
theorem mixT_step (z x : Nat → Int) (t : Nat) : upd (mixT z x t) t (z t) = mixT z x (t + 1) := by
  funext s
  unfold upd mixT
  by_cases h : s = t
  · subst h; simp
  · rw [if_neg h]
    by_cases h2 : s < t
    · rw [if_pos h2, if_pos (by omega)]
    · rw [if_neg h2, if_neg (by omega)]
theorem mixT_all (z x : Nat → Int) : ∀ t, t < 48 → mixT z x 48 t = z t := fun t h => by simp [mixT, h]

/-- two runs laid together: ErrForm ahead -/
@[irreducible] noncomputable def bothR (f g : List Run) (of : Int → Int → Int) : List Run × Int := if Fine f ∧ Fine g then toldT (fun t => of (sp f t) (sp g t)) else ([], 1)

set_option maxRecDepth 100000 in
set_option maxHeartbeats 2000000 in
theorem both_any (w : World) (vf vg : Value) (f g : List Run) (G : Nat) (of : Int → Int → Int) (hf : RunsV w vf f) (hg : RunsV w vg g)
    (heg : ∀ (args : Array Value) (w : World), (callFunc G args).run Try.prog w = .ok (.enter G args) w)
    (hof : ∀ a b, NumOk a → NumOk b → I64 (of a b) ∧ ∀ w, Calls Try.prog G #[.int .i64 a, .int .i64 b] w fun e w' => e = .returned (.int .i64 (of a b)) ∧ w' = w) :
    Calls Try.prog 96 #[vf, vg, .func (.func G) #[] #[]] w (RetRuns2 w (bothR f g of)) := by
  have Ff := hid (fun (W : World) (h : Ext w W) => RunsFine_any W vf f (hf.mono h))
  have Fg := hid (fun (W : World) (h : Ext w W) => RunsFine_any W vg g (hg.mono h))
  by_cases h1 : Fine f
  · by_cases h2 : Fine g
    · have hr : bothR f g of = toldT (fun t => of (sp f t) (sp g t)) := by unfold bothR; rw [if_pos ⟨h1, h2⟩]
      have Sf := hid (fun (W : World) (h : Ext w W) => spread_any W vf f (hf.mono h) h1.1)
      have Sg := hid (fun (W : World) (h : Ext w W) => spread_any W vg g (hg.mono h) h2.1)
      have Of := hid (fun (t : Nat) (ht : t < 48) => hof (sp f t) (sp g t) (fine_sp h1 ht) (fine_sp h2 ht))
      have T := hid (fun (W : World) => toldRef_any W (fun t => of (sp f t) (sp g t)) (fun t ht => (Of.out t ht).1))
      rw [hr]
      rw [deT h1] at Ff
      rw [deT h2] at Fg
      clear hr h1 h2 hf hg hof
      generalize hxe : sp f = x at *
      generalize hye : sp g = y at *
      clear hxe hye
      go_enter Try.func96, Try.ntmps96
      go_wp2_with fail
      refine (Ff.out _ (Ext.rf _)).mono ?_
      rintro e w1 ⟨rfl, hx1⟩
      go_wp2_with fail
      refine (Fg.out _ hx1).mono ?_
      rintro e w2 ⟨rfl, hx2⟩
      replace hx2 := hx1.tr hx2
      go_wp2_with fail
      refine (Sf.out _ hx2).mono ?_
      rintro e w3 ⟨rfl, hx3⟩
      replace hx3 := hx2.tr hx3
      go_wp2_with fail
      refine (Sg.out _ hx3).mono ?_
      rintro e w4 ⟨rfl, hx4⟩
      replace hx4 := hx3.tr hx4
      clear hx1 hx2 hx3
      have hA : TabAt 99 ((w4.alloc (.cells (tab fun _ => 0) 99)).alloc (.cells (tab fun _ => 0) 99)) w4.heap.size (fun _ => 0) := (TabAt.new w4 (fun _ => 0)).ext ((Ext.rf _).al _)
      have hB : TabAt 99 ((w4.alloc (.cells (tab fun _ => 0) 99)).alloc (.cells (tab fun _ => 0) 99)) (w4.heap.size + 1) (fun _ => 0) := by
        have := TabAt.new (T := 99) (w4.alloc (.cells (tab fun _ => 0) 99)) (fun _ => 0)
        simpa using this
      have hA1 := (hA.row x).srow (c := w4.heap.size + 1) (by omega) (tab y)
      have hB0 := hB.srow (c := w4.heap.size) (by omega) (tab x)
      have hB1 := hB0.row y
      have hxA : Ext w ((((w4.alloc (.cells (tab fun _ => 0) 99)).alloc (.cells (tab fun _ => 0) 99)).setRow w4.heap.size (tab x)).setRow (w4.heap.size + 1) (tab y)) := (((hx4.al _).al _).sr hx4.size _).sr (Nat.le_succ_of_le hx4.size) _
      have HA := hid hA1
      have HB := hid hB1
      have Hx := hid hxA
      clear hA1 hB1 hxA
      go_wp2_with (first
        | (simp only [tab_zero]; refine wpList_store_row rfl 99 _ _ rfl w4.heap.size (tab x) rfl rfl 99 (tab fun _ => 0) hA (by rw [tab_size]; exact Try.size99) (by rw [tab_size, tab_size]) (tab_one _) ?_)
        | (refine wpList_store_row rfl 99 _ _ rfl (w4.heap.size + 1) (tab y) rfl rfl 99 (tab fun _ => 0) hB0 (by rw [tab_size]; exact Try.size99) (by rw [tab_size, tab_size]) (tab_one _) ?_))
      clear hA hB hB0
      go_loopw [10] (fun c wr => ∃ t : Nat, c = .int .i64 t ∧ t ≤ 48 ∧ Hid (TabAt 99 wr w4.heap.size (mixT (fun t => of (x t) (y t)) x t)) ∧ Hid (TabAt 99 wr (w4.heap.size + 1) y) ∧ Ext w wr) (fun c _ => 48 - (intOf c).toNat)
      case atStart => exact ⟨0, rfl, by omega, by rw [mixT_zero]; exact HA, HB, Hx.out⟩
      case round =>
        obtain ⟨t, rfl, ht, HT, HR, hx⟩ := hrel
        by_cases hlt : t < 48
        · have hlt' : (t : Int) < 48 := by omega
          have hnew : w4.heap.size + 1 < wr.heap.size := HR.out.lt
          have hcl := HT.out.cell hlt
          rw [mixT_at] at hcl
          have hcl2 := HR.out.cell hlt
          have hfr := HT.out.free t
          go_wp2_with fail
          refine region_quiet_tail (C := fun w' => ∃ n, w' = wr.drewN n) 10 (by kernel_rfl) (by kernel_rfl) ⟨1, rfl⟩ ?_
          simp only [List.take_succ_cons, List.take_zero, List.drop_succ_cons, List.drop_zero]
          repeat (go_big_quiet_step (exact Calls.quiet_of_same ((Of.out t hlt).2 _)))
          refine wpQuiet_nil ?_
          rintro w' ⟨nq, rfl⟩
          go_wp2_with fail
          refine ⟨⟨t + 1, by go_num, by omega, hid (by rw [← mixT_step]; exact (HT.out.ext ((Ext.rf wr).dn nq)).set hlt _), hid ((HR.out.ext ((Ext.rf wr).dn nq)).other (by omega) _), (hx.dn nq).se hx4.size _⟩, by simp [intOf]; omega⟩
        · have hlt' : ¬ (t : Int) < 48 := by omega
          obtain rfl : t = 48 := by omega
          have hT : TabAt 99 wr w4.heap.size (fun t => of (x t) (y t)) := HT.out.congr (mixT_all _ _)
          go_wp2_with (first | (refine wpList_load_row rfl 99 _ rfl w4.heap.size rfl 99 (tab fun t => of (x t) (y t)) (0, 0) _ hT Try.underlying99 rfl (by rw [tab_size]; exact Try.size99) ?_))
          refine (T.out _).mono ?_
          rintro e w1 ⟨v, rfl, hv, hx1⟩
          go_wp2_with fail
          go_ret2
          exact ⟨v, rfl, hv, hx.tr hx1⟩
    · have hr : bothR f g of = ([], 1) := by unfold bothR; rw [if_neg (fun h => h2 h.2)]
      rw [hr]
      rw [deT h1] at Ff
      rw [deF h2] at Fg
      clear hr h1 h2 hf hg hof
      go_enter Try.func96, Try.ntmps96
      go_wp2_with fail
      refine (Ff.out _ (Ext.rf _)).mono ?_
      rintro e w1 ⟨rfl, hx1⟩
      go_wp2_with fail
      refine (Fg.out _ hx1).mono ?_
      rintro e w2 ⟨rfl, hx2⟩
      go_wp2_with fail
      go_ret2
      exact ⟨.slice none 0 0, rfl, SV.nil, hx1.tr hx2⟩
  · have hr : bothR f g of = ([], 1) := by unfold bothR; rw [if_neg (fun h => h1 h.1)]
    rw [hr]
    rw [deF h1] at Ff
    clear hr h1 hf hg hof
    go_enter Try.func96, Try.ntmps96
    go_wp2_with fail
    refine (Ff.out _ (Ext.rf _)).mono ?_
    rintro e w1 ⟨rfl, hx1⟩
    go_wp2_with fail
    go_ret2
    exact ⟨.slice none 0 0, rfl, SV.nil, hx1⟩

end Go.Proofs.Ytchblkemofncoaa
