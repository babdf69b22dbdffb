/- Walk of the statements' held. -/
import Derived.Test.YtchblkemofncoaaPlaceN
import Derived.Test.YtchblkemofncoaaReqC
import Derived.Test.YtchblkemofncoaaReqE
import Derived.Deep.RegionHeld3
import Derived.Test.YtchblkemofncoaaRegionA
set_option linter.unusedVariables false
namespace Go.Proofs.Ytchblkemofncoaa
open Go.RowKit

theorem heldGo_step {r : Request} {f g : List Run} {x : Bite} {b : List Bite} {e low h : Int} (h1 : bumpR f x.At (x.At + pL r x.Piece.toNat) (-(pN r x.Piece.toNat)) = (g, e)) (h2 : leastR g x.At (x.At + pL r x.Piece.toNat) = (low, h)) :
    heldGo r f (x :: b) = if e = 0 ∧ h = 0 ∧ 0 ≤ low then heldGo r g b else false := by
  rw [heldGo, h1]; simp only [h2]

theorem keep4 {w1 w' : World} {a1 a2 a3 a4 : Addr} {a b c d : Value} (hx : Ext w1 w') (b0 : w1.cell? a1 = some a) (b1 : w1.cell? a2 = some b) (b2 : w1.cell? a3 = some c) (b3 : w1.cell? a4 = some d) :
    w'.cell? a1 = some a ∧ w'.cell? a2 = some b ∧ w'.cell? a3 = some c ∧ w'.cell? a4 = some d := by
  have k : ∀ {a : Addr} {v : Value}, w1.cell? a = some v → w'.cell? a = some v := fun {a v} h => by
    rw [hx.cell (World.block_lt_of_cell? w1 a h)]; exact h
  exact ⟨k b0, k b1, k b2, k b3⟩

set_option maxRecDepth 100000 in
set_option maxHeartbeats 8000000 in
theorem held_any (w : World) (v pv bv : Value) (f0 : List Run) (r : Request) (b : List Bite) (hv : RunsV w v f0) (hp : PiecesV w pv r.Pieces) (hb : BitesV w bv b) (hr : ReqOk r) (hin : ∀ k, k < b.length → BiteIn r b k) :
    Calls Try.prog 58 #[v, .agg #[.int .i64 r.Queue, .int .i64 r.From, .int .i64 r.Until, .int .i64 r.Kind, pv], bv] w fun e w' => e = .returned (.bool (heldGo r f0 b)) ∧ Ext w w' := by
  obtain ⟨⟨q1, q2, q3⟩, q4⟩ := req_range hr
  obtain ⟨m1, m3⟩ := hr.many
  obtain ⟨pb, po, pc, rfl, hpc, hpc9, hpb, hpE⟩ := pieces_at hp (by omega)
  have HPE := hid hpE
  have HQ := hid q4
  have HIN := hid hin
  obtain ⟨ba, bc, rfl, hbc, hbc9, hbl, hbE⟩ := bites_at hb
  have HBE := hid hbE
  have HV := hid hv
  have H0 := hid (show ∀ f, heldGo r f [] = true from fun _ => rfl)
  have H1 := hid (fun (f g : List Run) (x : Bite) (b : List Bite) (e low h : Int) h1 h2 => heldGo_step (r := r) (f := f) (g := g) (x := x) (b := b) (e := e) (low := low) (h := h) h1 h2)
  obtain ⟨R, hR⟩ : ∃ R, heldGo r f0 b = R := ⟨_, rfl⟩
  have HR := hid hR
  rw [hR]
  obtain ⟨fa, fc, rfl, _, _, _⟩ := hv.form
  clear hp hb hpE hin hr q4 hR hbE hv
  generalize hnn : r.Pieces.length = n at *
  have Hnn := hid hnn
  clear hnn
  generalize hzz : b.length = z at *
  have Hz := hid hzz
  clear hzz
  generalize f0.length = fn at *
  go_enter Try.func58, Try.ntmps58
  go_wp2_with fail
  have hx0 := (Ext.rf w).al (.cells #[.int .i64 r.Queue, .int .i64 r.From, .int .i64 r.Until, .int .i64 r.Kind, (.slice (some ⟨pb, po, none⟩) n pc)] 46)
  have hR0 := heap_alloc_new w (.cells #[.int .i64 r.Queue, .int .i64 r.From, .int .i64 r.Until, .int .i64 r.Kind, (.slice (some ⟨pb, po, none⟩) n pc)] 46)
  generalize w.alloc (.cells #[.int .i64 r.Queue, .int .i64 r.From, .int .i64 r.Until, .int .i64 r.Kind, (.slice (some ⟨pb, po, none⟩) n pc)] 46) = w1 at *
  have HR1 := hid hR0
  have HX1 := hid hx0
  clear hR0 hx0
  go_loopw [0, 7] (fun v c wr => ∃ (k : Nat) (f : List Run) (ga : Option Addr) (gn gc : Nat), v = .slice ga gn gc ∧ c = .int .i64 k ∧ k ≤ z ∧ Hid (RunsV wr (.slice ga gn gc) f) ∧ Hid (heldGo r f (b.drop k) = R) ∧ Ext w1 wr) (fun _ c _ => z - (intOf c).toNat)
  case atStart => exact ⟨0, f0, fa, fn, fc, rfl, rfl, by omega, hid (HV.out.mono HX1.out), HR, Ext.rf _⟩
  case round =>
    obtain ⟨k, f, ga, gn, gc, rfl, rfl, hk, Hf, Hh, hx⟩ := hrel
    by_cases hlt : k < z
    · have hlt' : (k : Int) < (z : Int) := by omega
      obtain ⟨x, hxk⟩ := getA (f := b) (k := k) (by rw [Hz.out]; exact hlt)
      obtain ⟨bb, bo, rfl, hbb, hBE⟩ := HBE.out (by omega)
      obtain ⟨c1, c2, _, _⟩ := E2.mono w wr bb _ x (HX1.out.tr hx) (hBE k x hxk)
      obtain ⟨e1, e2⟩ := bite_at hxk
      have hI := HIN.out k hlt
      obtain ⟨j, hj⟩ := Int.eq_ofNat_of_zero_le (by have := hI.low; rw [e1] at this; exact this : 0 ≤ x.Piece)
      have hjn : j < n := by have := hI.is; rw [e1, hj, Hnn.out] at this; exact_mod_cast this
      have hA0 : 0 ≤ x.At := by have := hI.at0; rw [e2] at this; exact this
      have hA1 : x.At ≤ 48 := by have := hI.at48; rw [e2] at this; exact this
      obtain ⟨y, hyk⟩ := getA (f := r.Pieces) (k := j) (by rw [Hnn.out]; exact hjn)
      obtain ⟨d1, d2, _, _⟩ := E2.mono w wr pb _ y (HX1.out.tr hx) (HPE.out j y hyk)
      obtain ⟨⟨p1, p2⟩, p3, p4⟩ := HQ.out j hjn
      obtain ⟨eL, eN⟩ := piece_at hyk
      rw [eL] at p1 p2
      rw [eN] at p3 p4
      have hdrop : b.drop k = x :: b.drop (k + 1) := by
        rw [List.drop_eq_getElem_cons (by rw [Hz.out]; exact hlt)]
        have := List.getElem?_eq_getElem (l := b) (i := k) (by rw [Hz.out]; exact hlt)
        rw [hxk] at this
        rw [Option.some.inj this]
      have hh := Hh.out
      rw [hdrop] at hh
      obtain ⟨⟨g, be⟩, hbu⟩ : ∃ q, bumpR f x.At (x.At + y.Len) (-y.N) = q := ⟨_, rfl⟩
      obtain ⟨⟨low, le⟩, hle⟩ : ∃ q, leastR g x.At (x.At + y.Len) = q := ⟨_, rfl⟩
      have hpj : x.Piece.toNat = j := by omega
      rw [heldGo_step (g := g) (e := be) (low := low) (h := le) (by rw [hpj, eL, eN]; exact hbu) (by rw [hpj, eL]; exact hle)] at hh
      have Hh2 := hid hh
      have BU := hid (fun (W : World) (h : Ext wr W) => Bump_any W (.slice ga gn gc) f x.At (x.At + y.Len) (-y.N) (Hf.out.mono h))
      rw [hbu] at BU
      have LE := hid (fun (W : World) (u : Value) (h : RunsV W u g) => Least_any W u g x.At (x.At + y.Len) h)
      rw [hle] at LE
      rw [hj] at c1
      obtain ⟨b0, b1, b2, b3, b4⟩ := cells5_at HR1.out hx
      have t1 := deF (show ¬ (j : Int) < 0 by omega)
      have t2 := deF (show ¬ (n : Int) ≤ (j : Int) by omega)
      have t2' := deF (show ¬ n ≤ j by omega)
      have hw1 : IntKind.i64.wrap (x.At + y.Len) = x.At + y.Len := by rw [IntKind.wrap_i64]; omega
      have hw2 : IntKind.i64.wrap (-y.N) = -y.N := by rw [IntKind.wrap_i64]; omega
      clear hxk e1 e2 hI hj hyk eL eN hdrop hh hbu hle hpj hBE Hh
      go_wp2_with fail
      go_quiet (fail)
      go_wp2_with fail
      have HX2 := hid (Ext.dn (Ext.rf wr) nq)
      replace b4 := HX2.out.ce' b4
      replace c1 := HX2.out.ce' c1
      replace c2 := HX2.out.ce' c2
      replace d1 := HX2.out.ce' d1
      replace d2 := HX2.out.ce' d2
      clear b0 b1 b2 b3
      generalize wr.drewN nq = W2 at *
      go_region_held3 (fun w' => w'.cell? ⟨w.heap.size, 4, none⟩ = some (.slice (some ⟨pb, po, none⟩) n pc) ∧ w'.cell? ⟨bb, bo + k * 2, none⟩ = some (.int .i64 (j : Int)) ∧ w'.cell? ⟨pb, po + j * 2, none⟩ = some (.int .i64 y.Len) ∧ w'.cell? ⟨pb, po + j * 2 + 1, none⟩ = some (.int .i64 y.N)) ((refine keep4 ?_ b4 c1 d1 d2; (repeat (first | exact Ext.rf _ | refine Ext.dr ?_ | refine Ext.al ?_ _ | refine Ext.se ?_ (by simp) _)))) (fail)
      go_wp2_with fail
      have HX3 := hid (((Ext.rf W2).al (.cells #[.int .i64 y.Len, .int .i64 y.N] 89)).dr)
      have k0 : (W2.alloc (.cells #[.int .i64 y.Len, .int .i64 y.N] 89)).drew.cell? ⟨W2.heap.size, 0, none⟩ = some (.int .i64 y.Len) := cell_of_row _ _ 0 _ _ _ (heap_alloc_new W2 _)
      have k1 : (W2.alloc (.cells #[.int .i64 y.Len, .int .i64 y.N] 89)).drew.cell? ⟨W2.heap.size, 1, none⟩ = some (.int .i64 y.N) := cell_of_row _ _ 1 _ _ _ (heap_alloc_new W2 _)
      replace c2 := HX3.out.ce' c2
      clear b4 c1 d1 d2
      generalize (W2.alloc (.cells #[.int .i64 y.Len, .int .i64 y.N] 89)).drew = W3 at *
      generalize W2.heap.size = BP at *
      go_region_held3 (fun w' => w'.cell? ⟨bb, bo + k * 2 + 1, none⟩ = some (.int .i64 x.At) ∧ w'.cell? ⟨BP, 0, none⟩ = some (.int .i64 y.Len) ∧ w'.cell? ⟨BP, 1, none⟩ = some (.int .i64 y.N))
        (first
          | go_keep
          | (go_split_ands
             exact ⟨hxk.ce' (by assumption), hxk.ce' (by assumption), hxk.ce' (by assumption)⟩))
        ((go_at_call 42; refine (BU.out _ (HX2.out.tr (HX3.out.dr))).mono ?_; rintro e W4 ⟨u, rfl, hu, hxk⟩; obtain ⟨ua, uc, rfl, _, _, _⟩ := hu.form; have HU := hid hu; have HX4 := hid (HX3.out.tr (Ext.tr (Ext.dr (Ext.rf W3)) hxk)); have HXk := hid (Ext.tr (Ext.dr (Ext.rf W3)) hxk); clear hu))
      by_cases hbe : be = 0
      · have hbeF := neF hbe
        have m2 := HXk.out.ce' c2
        have m0 := HXk.out.ce' k0
        clear c2 k0 k1
        go_wp2_with fail
        replace m2 := fun p : Later W4 => p.cell m2
        replace m0 := fun p : Later W4 => p.cell m0
        have QL := hid (fun p : Later W4 => later_of p (LE.out p.v _ (HU.out.mono p.h)))
        refine region_later (by kernel_rfl) (by kernel_rfl) ?_
        repeat (go_big_quiet_step (with_reducible exact QL.out _))
        refine wpQuiet_nil ?_
        rintro w' ⟨p, rfl⟩
        have HX5 := hid (HX2.out.tr (HX4.out.tr p.h))
        have HU5 := hid (HU.out.mono p.h)
        clear QL m2 m0
        generalize p.v = W5 at *
        by_cases hle : le = 0
        · have hleF := neF hle
          by_cases hlow : low < 0
          · have hR := hid (show R = false from by rw [← Hh2.out]; exact if_neg (fun h => by have := h.2.2; omega))
            go_wp2_with fail
            go_ret
            exact ⟨ret_bool hR.out.symm, HX1.out.tr (hx.tr HX5.out)⟩
          · have hh3 := hid (show heldGo r g (b.drop (k + 1)) = R from by rw [← Hh2.out]; exact (if_pos ⟨hbe, hle, by omega⟩).symm)
            have hlowF := deF hlow
            go_wp2_with fail
            go_roundw
            case rel => exact ⟨k + 1, g, ua, g.length, uc, rfl, by go_num, by omega, HU5, hh3, hx.tr HX5.out⟩
            case measure => simp [intOf]; omega
        · have hleT := neT hle
          have hR := hid (show R = false from by rw [← Hh2.out]; exact if_neg (fun h => hle h.2.1))
          go_wp2_with fail
          go_ret
          exact ⟨ret_bool hR.out.symm, HX1.out.tr (hx.tr HX5.out)⟩
      · have hbeT := neT hbe
        have hR := hid (show R = false from by rw [← Hh2.out]; exact if_neg (fun h => hbe h.1))
        go_wp2_with fail
        go_ret
        exact ⟨ret_bool hR.out.symm, HX1.out.tr (hx.tr (HX2.out.tr HX4.out))⟩
    · obtain rfl : k = z := by omega
      have hlt' : ¬ (k : Int) < (k : Int) := by omega
      have hh := Hh.out
      rw [List.drop_of_length_le (by rw [Hz.out]; exact Nat.le_refl _), H0.out] at hh
      have HH := hid hh
      clear hh
      go_wp2_with fail
      go_ret
      exact ⟨ret_bool HH.out, HX1.out.tr hx⟩

end Go.Proofs.Ytchblkemofncoaa
