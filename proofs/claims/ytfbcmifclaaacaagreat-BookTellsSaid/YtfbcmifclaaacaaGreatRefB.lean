/- Walks of the references over tables: spread, folded, told. -/
import Derived.Test.YtfbcmifclaaacaaGreatRefA
import Derived.Test.YtfbcmifclaaacaaGreatTab
import Derived.Test.YtfbcmifclaaacaaGreatRunsC
set_option linter.unusedVariables false
namespace Go.Proofs.YtfbcmifclaaacaaGreat
open Go.RowKit

theorem Tryz.size61 : (Tryz.prog.info? 61).map (·.size) = some 48 := by kernel_rfl

/-- a table is told, in new memory -/
def RetTab (w : World) (x : Nat → Int) (e : Ending) (w' : World) : Prop := e = .returned (.agg (tab x)) ∧ Ext w w'

/-- where spread's loop stands -/
def SpreadAt (f : List Run) (k t : Nat) : Prop := k < f.length ∧ curAt f k ≤ (t : Int) ∧ (t : Int) ≤ nextAt f k

/-- what has been spread so far -/
def upto (x : Nat → Int) (t : Nat) : Nat → Int := fun s => if s < t then x s else 0
theorem upto_zero (x : Nat → Int) : upto x 0 = fun _ => 0 := by funext s; simp [upto]
theorem upto_step (x : Nat → Int) (t : Nat) : upd (upto x t) t (x t) = upto x (t + 1) := by
  funext s
  unfold upd upto
  by_cases h : s = t
  · subst h; simp
  · rw [if_neg h]
    by_cases h2 : s < t
    · rw [if_pos h2, if_pos (by omega)]
    · rw [if_neg h2, if_neg (by omega)]
theorem upto_all (x : Nat → Int) : ∀ t, t < 48 → upto x 48 t = x t := fun t h => by simp [upto, h]

set_option maxRecDepth 100000 in
set_option maxHeartbeats 4000000 in
theorem spread_some (w : World) (b off cap : Nat) (f : List Run) (hs : Shape f) (hb : b < w.heap.size) (hE : ∀ k x, f[k]? = some x → ERun w b (off + k * 2) x) :
    Calls Tryz.prog 71 #[.slice (some ⟨b, off, none⟩) f.length cap] w (RetTab w (sp f)) := by
  have hlen := shape_len hs
  have hz := shape_zero hs
  have HE := hid hE
  have Hs := hid hs
  have hst : SpreadAt f 0 0 := ⟨hz.1, by rw [hz.2]; simp, by have := shape_idx hs hz.1; omega⟩
  have Hst := hid hst
  clear hE hs hst
  generalize hn : f.length = n at *
  have Hn := hid hn
  have hz1 := hz.1
  clear hn hz
  go_enter Tryz.func71, Tryz.ntmps71
  go_wp2_with fail
  rw [tab_zero]
  go_loopw [4, 5] (fun a c wr => ∃ k t : Nat, a = .int .i64 k ∧ c = .int .i64 t ∧ t ≤ 48 ∧ k < n ∧ Hid (SpreadAt f k t) ∧ Hid (TabAt 61 wr (w.heap.size + 1) (upto (sp f) t)) ∧ Hid (TabAt 61 wr w.heap.size (fun _ => 0)) ∧ Ext w wr) (fun _ c _ => 48 - (intOf c).toNat)
  case atStart => exact ⟨0, 0, rfl, rfl, by omega, hz1, Hst, by rw [upto_zero]; exact hid (by have := TabAt.new (T := 61) (w.alloc (.cells (tab fun _ => 0) 61)) (fun _ => 0); simpa using this), hid ((TabAt.new w _).ext ((Ext.rf _).al _)), ((Ext.rf w).al _).al _⟩
  case round =>
    obtain ⟨k, t, rfl, rfl, ht, hk, Hsa, HT, HR, hx⟩ := hrel
    have hbw : b < wr.heap.size := Nat.lt_of_lt_of_le hb hx.size
    by_cases hlt : t < 48
    · have hlt' : (t : Int) < 48 := by omega
      have hcell := fun (n : Int) => HT.out.set hlt n
      have hcl := HT.out.cell hlt
      have hfr := HT.out.free t
      have hnew : w.heap.size + 1 < wr.heap.size := HT.out.lt
      by_cases hk1 : k + 1 < n
      · have hk1' : (k : Int) + 1 < (n : Int) := by omega
        obtain ⟨y, hyk⟩ := getE (f := f) (k := k + 1) (by rw [Hn.out]; exact hk1)
        obtain ⟨d1, d2, d3, d4⟩ := HE.out (k + 1) y hyk
        replace d1 := hx.ce' d1
        replace d2 := hx.ce' d2
        have hna : nextAt f k = y.At := by rw [nextAt_lt (by rw [Hn.out]; exact hk1), curAt_some hyk]
        by_cases he : y.At = (t : Int)
        · have he' := eqT he
          have hsi := shape_idx Hs.out (i := k + 1) (by rw [Hn.out]; exact hk1)
          have hspt : y.N = sp f t := by
            rw [← curN_some hyk]; rw [curAt_some hyk] at hsi
            exact (hsi.2.2.2 t (by rw [he]; exact Int.le_refl _) (by omega)).symm
          have Hspt := hid hspt
          have Hsa2 : Hid (SpreadAt f (k + 1) (t + 1)) := hid ⟨by rw [Hn.out]; exact hk1, by rw [curAt_some hyk]; omega, by rw [curAt_some hyk] at hsi; omega⟩
          have Hcell := hid hcell
          clear he hna hsi hspt hyk hcell
          go_wp2_with fail
          go_roundw
          case rel => exact ⟨k + 1, t + 1, by go_num, by go_num, by omega, hk1, Hsa2, hid (by have := Hcell.out y.N; rw [Hspt.out, upto_step] at this; rw [Hspt.out]; exact this), hid (HR.out.other (by omega) _), hx.se (by omega) _⟩
          case measure => simp [intOf]; omega
        · have he' := eqF he
          obtain ⟨x, hxk⟩ := getE (f := f) (k := k) (by rw [Hn.out]; exact hk)
          obtain ⟨c1, c2, c3, c4⟩ := HE.out k x hxk
          replace c1 := hx.ce' c1
          replace c2 := hx.ce' c2
          have hsi := shape_idx Hs.out (i := k) (by rw [Hn.out]; exact hk)
          have hsa := Hsa.out
          have hspt : x.N = sp f t := by
            rw [← curN_some hxk]
            exact (hsi.2.2.2 t hsa.2.1 (by have := hsa.2.2; omega)).symm
          have Hspt := hid hspt
          have Hsa2 : Hid (SpreadAt f k (t + 1)) := hid ⟨hsa.1, by have := hsa.2.1; omega, by have := hsa.2.2; omega⟩
          have Hcell := hid hcell
          clear he hna hsi hspt hyk hxk hsa hcell
          go_wp2_with fail
          go_roundw
          case rel => exact ⟨k, t + 1, rfl, by go_num, by omega, hk, Hsa2, hid (by have := Hcell.out x.N; rw [Hspt.out, upto_step] at this; rw [Hspt.out]; exact this), hid (HR.out.other (by omega) _), hx.se (by omega) _⟩
          case measure => simp [intOf]; omega
      · have hk1' : ¬ (k : Int) + 1 < (n : Int) := by omega
        obtain ⟨x, hxk⟩ := getE (f := f) (k := k) (by rw [Hn.out]; exact hk)
        obtain ⟨c1, c2, c3, c4⟩ := HE.out k x hxk
        replace c1 := hx.ce' c1
        replace c2 := hx.ce' c2
        have hsi := shape_idx Hs.out (i := k) (by rw [Hn.out]; exact hk)
        have hsa := Hsa.out
        have hna : nextAt f k = 48 := nextAt_end (by rw [Hn.out]; exact hk1)
        have hspt : x.N = sp f t := by
          rw [← curN_some hxk]
          exact (hsi.2.2.2 t hsa.2.1 (by omega)).symm
        have Hspt := hid hspt
        have Hsa2 : Hid (SpreadAt f k (t + 1)) := hid ⟨hsa.1, by have := hsa.2.1; omega, by omega⟩
        have Hcell := hid hcell
        clear hna hsi hspt hxk hsa hcell
        go_wp2_with fail
        go_roundw
        case rel => exact ⟨k, t + 1, rfl, by go_num, by omega, hk, Hsa2, hid (by have := Hcell.out x.N; rw [Hspt.out, upto_step] at this; rw [Hspt.out]; exact this), hid (HR.out.other (by omega) _), hx.se (by omega) _⟩
        case measure => simp [intOf]; omega
    · have hlt' : ¬ (t : Int) < 48 := by omega
      obtain rfl : t = 48 := by omega
      have hT : TabAt 61 wr (w.heap.size + 1) (sp f) := HT.out.congr (upto_all _)
      go_wp2_with (first
        | (refine wpList_load_row rfl 61 _ rfl (w.heap.size + 1) rfl 61 (tab (sp f)) (0, 0) _ hT Tryz.underlying61 rfl (by rw [tab_size]; exact Tryz.size61) ?_)
        | (refine wpList_store_row rfl 61 _ _ rfl w.heap.size (tab (sp f)) rfl rfl 61 (tab fun _ => 0) HR.out (by rw [tab_size]; exact Tryz.size61) (by rw [tab_size, tab_size]) (tab_one _) ?_))
      refine bodyPost_ret (v := .agg (tab (sp f))) (results_cell_row rfl _ _ w.heap.size 61 (tab (sp f)) (0, 0) _ rfl (HR.out.row _) Tryz.underlying61 rfl (by rw [tab_size]; exact Tryz.size61)) rfl ⟨rfl, hx.sr (Nat.le_refl _) _⟩

theorem spread_any (w : World) (v : Value) (f : List Run) (hv : RunsV w v f) (hs : Shape f) : Calls Tryz.prog 71 #[v] w (RetTab w (sp f)) := by
  rcases hv with ⟨rfl, a0, c0, rfl, hc0⟩ | ⟨b, off, cap, rfl, h1, h2, h3, h4, h5⟩
  · exact hs.elim
  · exact spread_some w b off cap f hs h4 h5

theorem fold_nums {x : Nat → Int} (h : ∀ t, t < 48 → I64 (x t)) : ∀ r ∈ fold x, I64 r.At ∧ I64 r.N := fun r hr => by
  rw [fold_eq] at hr
  have h1 := foldTo_at _ _ hr
  obtain ⟨t, ht, h2⟩ := foldTo_num _ _ hr
  exact ⟨I64.of (by omega) (by omega), by rw [h2]; exact h t ht⟩

theorem fold_len (x : Nat → Int) : (fold x).length ≤ 48 := by rw [fold_eq]; exact foldTo_le 48

theorem foldTo_put {x : Nat → Int} {t : Nat} (h : t = 0 ∨ x (t - 1) ≠ x t) : foldTo x (t + 1) = foldTo x t ++ [⟨(t : Int), x t⟩] := by simp only [foldTo]; rw [if_pos h]
theorem foldTo_skip {x : Nat → Int} {t : Nat} (h0 : t ≠ 0) (h : x (t - 1) = x t) : foldTo x (t + 1) = foldTo x t := by
  simp only [foldTo]; rw [if_neg (by rintro (h1 | h1); exact h0 h1; exact h1 h), List.append_nil]

end Go.Proofs.YtfbcmifclaaacaaGreat
