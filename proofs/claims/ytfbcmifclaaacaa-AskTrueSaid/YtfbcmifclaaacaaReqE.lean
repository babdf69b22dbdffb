/- Requests: the reference, and the walk of its parts. -/
import Derived.Test.YtfbcmifclaaacaaReqA
import Derived.Test.YtfbcmifclaaacaaReqB
import Derived.Test.YtfbcmifclaaacaaUp
import Derived.Test.YtfbcmifclaaacaaRegion
import Derived.WalkSpells
import Derived.StillTactics
import Derived.Tactics2
import Derived.Deep.RegionHeld3
import Derived.Deep.AppendLies

/- Walks: slices.Max; the reference's OverOf; req.Over. -/
set_option linter.unusedVariables false
namespace Go.Proofs.Ytfbcmifclaaacaa
open Go.RowKit

/-- the greatest of the first k + 1 -/
def maxTo (x : Nat → Int) : Nat → Int
  | 0 => x 0
  | k + 1 => max (maxTo x k) (x (k + 1))

def numA (l : List Int) (k : Nat) : Int := l.getD k 0
theorem numA_at {l : List Int} {k : Nat} {x : Int} (h : l[k]? = some x) : numA l k = x := by unfold numA; simp [List.getD_eq_getElem?_getD, h]

set_option maxHeartbeats 1000000 in
theorem Max_any (w : World) (v : Value) (l : List Int) (hv : IntsV w v l) (h1 : 1 ≤ l.length) :
    Calls Try.prog 42 #[v] w fun e w' => e = .returned (.int .i64 (maxTo (numA l) (l.length - 1))) ∧ Ext w w' := by
  rcases hv with ⟨rfl, _⟩ | ⟨b, off, cap, rfl, h2, h3, h4, h5, h6⟩
  · simp at h1
  · have HE := hid (show ∀ (k : Nat), k < l.length → w.cell? ⟨b, off + k, none⟩ = some (.int .i64 (numA l k)) from fun k hk => by
      obtain ⟨x, hx⟩ := getA hk
      have := (h6 k x hx).1
      rw [Nat.mul_one] at this
      rw [numA_at hx]; exact this)
    clear h6
    generalize l.length = n at *
    have c0 := HE.out 0 (by omega)
    rw [Nat.add_zero] at c0
    generalize numA l = f at *
    have hm0 := hid (show maxTo f 0 = f 0 from rfl)
    have hms := hid (show ∀ k, maxTo f (k + 1) = max (maxTo f k) (f (k + 1)) from fun _ => rfl)
    go_enter Try.func42, Try.ntmps42
    go_wp2_with fail
    go_loopw [3, 4] (fun m c wr => ∃ k : Nat, c = .int .i64 k ∧ 1 ≤ k ∧ k ≤ n ∧ Hid (m = .int .i64 (maxTo f (k - 1))) ∧ wr = w) (fun _ c _ => n - (intOf c).toNat)
    case atStart => exact ⟨1, rfl, by omega, by omega, hid (by rw [hm0.out]), rfl⟩
    case round =>
      obtain ⟨k, rfl, hk1, hk, hm, rfl⟩ := hrel
      obtain ⟨q, hq⟩ : ∃ q, maxTo f (k - 1) = q := ⟨_, rfl⟩
      have hm' := hm.out
      rw [hq] at hm'
      subst hm'
      have HQ := hid hq
      clear hm hq
      by_cases hlt : k < n
      · have hlt' : (k : Int) < (n : Int) := by omega
        have c1 := HE.out k hlt
        have HS := hid (show maxTo f (k + 1 - 1) = max q (f k) from by rw [show k + 1 - 1 = (k - 1) + 1 by omega, hms.out, HQ.out, show k - 1 + 1 = k by omega])
        generalize f k = z at *
        go_wp2_with fail
        go_roundw
        case rel => exact ⟨k + 1, by go_num, by omega, by omega, hid (by rw [HS.out, maxw]), trivial⟩
        case measure => simp [intOf]; omega
      · have hlt' : ¬ (k : Int) < (n : Int) := by omega
        obtain rfl : k = n := by omega
        go_wp2_with fail
        go_ret
        exact ⟨ret_int HQ.out.symm, Ext.rf _⟩

structure BiteIn (r : Request) (b : List Bite) (k : Nat) : Prop where
  low : 0 ≤ bP b k
  is : bP b k < r.Pieces.length
  at0 : 0 ≤ bA b k
  at48 : bA b k ≤ 48

/-- when each bite is over -/
def overA (r : Request) (b : List Bite) (k : Nat) : Int := bA b k + pL r (bP b k).toNat

/-- when all is over, and an error -/
@[irreducible] noncomputable def overR (r : Request) (b : List Bite) : Int × Int := open Classical in if ReqOk r ∧ 1 ≤ b.length ∧ ∀ k, k < b.length → BiteIn r b k then (maxTo (overA r b) (b.length - 1), 0) else (0, 1)
theorem overR_yes {r : Request} {b : List Bite} (h : ReqOk r) (h1 : 1 ≤ b.length) (h2 : ∀ k, k < b.length → BiteIn r b k) : overR r b = (maxTo (overA r b) (b.length - 1), 0) := by unfold overR; rw [if_pos ⟨h, h1, h2⟩]
theorem overR_no {r : Request} {b : List Bite} (h : ¬ (ReqOk r ∧ 1 ≤ b.length ∧ ∀ k, k < b.length → BiteIn r b k)) : overR r b = (0, 1) := by unfold overR; rw [if_neg h]

def RetInt2 (w : World) (r : Int × Int) (e : Ending) (w' : World) : Prop := e = .returned (.tuple #[.int .i64 r.1, .int .i64 r.2]) ∧ Ext w w'
theorem retInt2_of {w w' : World} {r : Int × Int} {n m : Int} (h : r = (n, m)) (hx : Ext w w') : RetInt2 w r (.returned (.tuple #[.int .i64 n, .int .i64 m])) w' := by
  subst h; exact ⟨rfl, hx⟩

/-- numbers that the call made by appends, as they lie -/
def intsV (l : List Int) : List Value := l.map (Value.int .i64)
theorem intsV_snoc (l : List Int) (k : Int) : intsV (l ++ [k]) = intsV l ++ [.int .i64 k] := by simp [intsV]
theorem intsV_own {w : World} {base e : Nat} {v : Value} {xs : List Int} (h : w.ownsRow base e 1 v xs.length (intsV xs)) (hi : ∀ x ∈ xs, I64 x) (hl : xs.length ≤ 17592186044416) : IntsV w v xs := by
  obtain ⟨h1, h2⟩ := h
  rcases h2 with ⟨rfl, h2⟩ | ⟨b, cap, cur, rfl, hb, hg, hn, hm, hs, ht⟩
  · obtain rfl := List.eq_nil_of_length_eq_zero h2
    exact .inl ⟨rfl, none, 0, rfl, by omega⟩
  · refine .inr ⟨b, 0, cap, rfl, hn, hm, hl, (Array.getElem?_eq_some_iff.1 hg).1, fun k x hk => ⟨?_, hi x (List.mem_of_getElem? hk)⟩⟩
    have hkl : k < xs.length := (List.getElem?_eq_some_iff.1 hk).1
    have h3 : (intsV xs)[k]? = some (.int .i64 x) := by simp [intsV, hk]
    rw [← ht, List.getElem?_take] at h3
    simp only [World.cell?, hg, Option.isSome_none, Bool.false_eq_true, if_false]
    split at h3
    · simpa using h3
    · cases h3

/-- the ends of the first k bites -/
def endsL (r : Request) (b : List Bite) (k : Nat) : List Int := (List.range k).map (overA r b)
theorem endsL_snoc (r : Request) (b : List Bite) (k : Nat) : endsL r b (k + 1) = endsL r b k ++ [overA r b k] := by simp [endsL, List.range_succ]
theorem endsL_len (r : Request) (b : List Bite) (k : Nat) : (endsL r b k).length = k := by simp [endsL]
theorem maxTo_congr {f g : Nat → Int} : ∀ n, (∀ k, k ≤ n → f k = g k) → maxTo f n = maxTo g n
  | 0, h => h 0 (Nat.le_refl _)
  | n + 1, h => by simp only [maxTo]; rw [maxTo_congr n (fun k hk => h k (by omega)), h (n + 1) (Nat.le_refl _)]
theorem endsL_max (r : Request) (b : List Bite) {k : Nat} (h : 1 ≤ k) : maxTo (numA (endsL r b k)) (k - 1) = maxTo (overA r b) (k - 1) :=
  maxTo_congr _ (fun j hj => numA_at (by rw [endsL, List.getElem?_map, List.getElem?_range (by omega)]; rfl))

theorem over_num {r : Request} {b : List Bite} (hr : ReqOk r) {k : Nat} (h : BiteIn r b k) : 1 ≤ overA r b k ∧ overA r b k ≤ 72 ∧ 1 ≤ pL r (bP b k).toNat ∧ pL r (bP b k).toNat ≤ 24 := by
  have hl := h.low
  have hi := h.is
  obtain ⟨y, hy⟩ := getA (f := r.Pieces) (k := (bP b k).toNat) (by omega)
  have h1 := hr.range.2 y (List.mem_of_getElem? hy)
  have h2 := (piece_at hy).1
  have h3 := h.at0
  have h4 := h.at48
  have h5 := h1.1.1
  have h6 := h1.1.2
  unfold overA
  rw [h2]
  exact ⟨by omega, by omega, h5, h6⟩

set_option maxRecDepth 100000 in
set_option maxHeartbeats 4000000 in
theorem Over_ok (w : World) (pv bv : Value) (r : Request) (b : List Bite) (hr : ReqOk r) (h1z : 1 ≤ b.length) (hv : PiecesV w pv r.Pieces) (hb : BitesV w bv b) :
    Calls Try.prog 14 #[.agg #[.int .i64 r.Queue, .int .i64 r.From, .int .i64 r.Until, .int .i64 r.Kind, pv], bv] w (RetInt2 w (overR r b)) := by
  obtain ⟨ii, ii1, ii2, ii3, ii4⟩ := info_parts Try.info3
  have F := hid (fun (W : World) (h : Ext w W) => Form_any W pv r (hv.mono h))
  rw [formR_ok hr] at F
  obtain ⟨m1, m3⟩ := hr.many
  have HN := hid (fun (k : Nat) (h : BiteIn r b k) => over_num hr h)
  have HY := hid (fun (h : ∀ k, k < b.length → BiteIn r b k) => overR_yes hr h1z h)
  have HB := hid (fun (k : Nat) (hk : k < b.length) (h : ¬ BiteIn r b k) => overR_no (r := r) (fun h' => h (h'.2.2 k hk)))
  obtain ⟨pb, po, pc, rfl, hpc, hpc9, hpb, hpE⟩ := pieces_at hv m1
  obtain ⟨bb, bo, bc, rfl, hbc, hbc9, hbl, hbb, hbE⟩ : ∃ bb bo bc, bv = .slice (some ⟨bb, bo, none⟩) b.length bc ∧ b.length ≤ bc ∧ bc ≤ 9223372036854775807 ∧ b.length ≤ 17592186044416 ∧ bb < w.heap.size ∧ ∀ k x, b[k]? = some x → EBite w bb (bo + k * 2) x := by
    rcases hb with ⟨rfl, _⟩ | ⟨b', off, cap, rfl, h1, h2, h3, h4, h5⟩
    · simp at h1z
    · exact ⟨b', off, cap, rfl, h1, h2, h3, h4, h5⟩
  have HPE := hid hpE
  have HBE := hid hbE
  clear hv hb hpE hbE hr
  generalize hn : r.Pieces.length = n at *
  have Hn := hid hn
  generalize hz : b.length = z at *
  have Hz := hid hz
  clear hn hz
  have hz0 := eqF (a := (z : Int)) (b := 0) (by omega)
  go_enter Try.func14, Try.ntmps14
  go_wp2_with fail
  refine (F.out _ ((Ext.rf w).al _)).mono ?_
  rintro e w1 ⟨rfl, hx1⟩
  have hal := hid (((Ext.rf w).al _).tr hx1)
  have Hbox := hid (fun (W : World) (h : Ext w1 W) => reqCells (hx1.tr h))
  have hBw : w.heap.size < w1.heap.size := by have := hx1.size; simp at this; omega
  clear hx1
  go_wp2_with fail
  go_loopw [8, 25] (fun v c wr => ∃ (k : Nat) (ov : Value), ov = v ∧ c = .int .i64 k ∧ k ≤ z ∧ Hid (wr.ownsRow w1.heap.size 3 1 ov k (intsV (endsL r b k))) ∧ Hid (∀ j, j < k → BiteIn r b j) ∧ Ext w1 wr) (fun _ c _ => z - (intOf c).toNat)
  case atStart => exact ⟨0, _, rfl, rfl, by omega, World.ownsRow_nil _ _ _ _, hid (fun j hj => absurd hj (Nat.not_lt_zero _)), Ext.rf _⟩
  case round =>
    obtain ⟨k, ov, rfl, rfl, hk, Hown, Hall, hx⟩ := hrel
    have hxw := hal.out.tr hx
    have hsz := hx.size
    have hBr : w.heap.size < wr.heap.size := by omega
    have hpr : pb < wr.heap.size := by omega
    obtain ⟨z0, z1, z2, z3, z4⟩ := Hbox.out wr hx
    by_cases hlt : k < z
    · have hlt' : (k : Int) < (z : Int) := by omega
      obtain ⟨x, hxk⟩ := getA (f := b) (k := k) (by rw [Hz.out]; exact hlt)
      obtain ⟨e1, e2⟩ := bite_at hxk
      obtain ⟨c1, c2, _, _⟩ := E2.mono w wr bb _ x hxw (HBE.out k x hxk)
      have hbr : bb < wr.heap.size := by omega
      by_cases t1 : x.Piece < 0
      · have t1d := deT t1
        have Hr := hid (HB.out k hlt (fun h => by have := h.low; rw [e1] at this; omega))
        clear hxk e1 e2
        go_wp2_with fail
        go_ret2
        exact retInt2_of Hr.out (hal.out.tr (hx.al _))
      · have t1d := deF t1
        by_cases t2 : (n : Int) ≤ x.Piece
        · have t2d := deT t2
          have Hr := hid (HB.out k hlt (fun h => by have := h.is; rw [e1, Hn.out] at this; omega))
          clear hxk e1 e2
          go_wp2_with fail
          go_ret2
          exact retInt2_of Hr.out (hal.out.tr (hx.al _))
        · have t2d := deF t2
          by_cases t3 : x.At < 0
          · have t3d := deT t3
            have Hr := hid (HB.out k hlt (fun h => by have := h.at0; rw [e2] at this; omega))
            clear hxk e1 e2
            go_wp2_with fail
            go_ret2
            exact retInt2_of Hr.out (hal.out.tr (hx.al _))
          · have t3d := deF t3
            by_cases t4 : 48 < x.At
            · have t4d := deT t4
              have Hr := hid (HB.out k hlt (fun h => by have := h.at48; rw [e2] at this; omega))
              clear hxk e1 e2
              go_wp2_with fail
              go_ret2
              exact retInt2_of Hr.out (hal.out.tr (hx.al _))
            · have t4d := deF t4
              have hin : BiteIn r b k := ⟨by rw [e1]; omega, by rw [e1, Hn.out]; omega, by rw [e2]; omega, by rw [e2]; omega⟩
              have Hs := hid (show ∀ j, j < k + 1 → BiteIn r b j from fun j hj => by
                by_cases e : j = k
                · subst e; exact hin
                · exact Hall.out j (by omega))
              obtain ⟨j, hpj⟩ : ∃ j : Nat, x.Piece = j := ⟨x.Piece.toNat, by omega⟩
              have hjn : j < n := by omega
              obtain ⟨y, hyk⟩ := getA (f := r.Pieces) (k := j) (by rw [Hn.out]; exact hjn)
              obtain ⟨ey, _⟩ := piece_at hyk
              obtain ⟨d1, _, _, _⟩ := E2.mono w wr pb _ y hxw (HPE.out j y hyk)
              obtain ⟨_, _, l1, l2⟩ := HN.out k hin
              rw [e1, hpj, Int.toNat_natCast, ey] at l1 l2
              rw [hpj] at c1
              have t1j := deF (show ¬ (j : Int) < 0 by omega)
              have t2j := deF (show ¬ n ≤ j by omega)
              have ho2 := hid (show overA r b k = x.At + y.Len from by unfold overA; rw [e1, e2, hpj, Int.toNat_natCast, ey])
              have hwr : (IntKind.i64.wrap (x.At + y.Len)) = x.At + y.Len := by rw [IntKind.wrap_i64]; omega
              clear hxk e1 e2 Hall hyk ey hin hpj
              go_wp2_with fail
              obtain ⟨V, hV⟩ : ∃ V, wr.alloc (.cells #[.int .i64 (j : Int), .int .i64 x.At] 54) = V := ⟨_, rfl⟩
              rw [hV]
              have hVx : Ext wr V := by rw [← hV]; exact (Ext.rf wr).al _
              have hVb : wr.heap.size < V.heap.size := by rw [← hV]; simp
              have hVr := heap_alloc_new wr (.cells #[.int .i64 (j : Int), .int .i64 x.At] 54)
              rw [hV] at hVr
              have k0 : V.cell? ⟨wr.heap.size, 0, none⟩ = some (.int .i64 (j : Int)) := by rw [cell_of_row _ _ _ _ _ _ hVr]; rfl
              have k1 : V.cell? ⟨wr.heap.size, 1, none⟩ = some (.int .i64 x.At) := by rw [cell_of_row _ _ _ _ _ _ hVr]; rfl
              have k2 := hVx.ce' z4
              have k3 := hVx.ce' d1
              have hown := ownsRow_ext Hown.out hVx
              have hlt3 : ∀ g, ov.ownBlock = some g → w1.heap.size ≤ g ∧ g < wr.heap.size := fun g hg => Hown.out.lt g hg
              have n1 : ov.ownBlock ≠ some wr.heap.size := fun e => by have := (hlt3 _ e).2; omega
              have n2 : ov.ownBlock ≠ some w.heap.size := fun e => by have := (hlt3 _ e).1; omega
              have n3 : ov.ownBlock ≠ some pb := fun e => by have := (hlt3 _ e).1; omega
              have HVx := hid hVx
              have hmv : w1.heap.size ≤ V.heap.size := by omega
              clear hV hVr hlt3 hVx z0 z1 z2 z3 z4 c1 c2 d1
              obtain ⟨BX, hBX⟩ : ∃ BX, wr.heap.size = BX := ⟨_, rfl⟩
              rw [hBX] at k0 k1 n1 hVb ⊢
              clear hBX
              go_region_held3 (fun w' => w'.cell? ⟨BX, 0, none⟩ = some (.int .i64 (j : Int)) ∧ w'.cell? ⟨BX, 1, none⟩ = some (.int .i64 x.At) ∧ w'.cell? ⟨w.heap.size, 4, none⟩ = some (.slice (some ⟨pb, po, none⟩) n pc) ∧ w'.cell? ⟨pb, po + j * 2, none⟩ = some (.int .i64 y.Len))
                (first
                  | go_keep
                  | (go_split_ands
                     refine ⟨?_, ?_, ?_, ?_⟩
                     · (rw [hgrow.cell_far _ (by simp; omega) (Ne.symm n1)]; assumption)
                     · (rw [hgrow.cell_far _ (by simp; omega) (Ne.symm n1)]; assumption)
                     · (rw [hgrow.cell_far _ (by simp; omega) (Ne.symm n2)]; assumption)
                     · (rw [hgrow.cell_far _ (by simp; omega) (Ne.symm n3)]; assumption)))
                ((refine step_append_lies _ (by rfl) _ _ _ (by rfl) w1.heap.size 3 ii _ 1 8 Try.underlying81 ii1 ii2 ii3 ii4 rfl (by omega) ov k (intsV (endsL r b k)) (by rfl) ((hown.alloc _).drew)
                    ⟨V.heap.size, 0, none⟩ 1 1 [.int .i64 (x.At + y.Len)] (by rfl) (by rfl) (World.news_of_block (cs := #[.int .i64 (x.At + y.Len)]) (t := 3) (fr := (0, 0)) (heap_alloc_new V _)) (by simp [Value.oneCell'])
                    (by omega) (by unfold maxLen; omega) (by omega) (by simp; omega) (V.heap.size + 1) (by simp) ?_; intro gg cap W2 hown2 hgrow hat hlt4))

              go_wp2_with fail
              go_roundw
              case rel => exact ⟨k + 1, _, rfl, by go_num, by omega, hid (by rw [endsL_snoc, intsV_snoc, ho2.out]; exact hown2), Hs, (((hx.tr HVx.out).al _).dr).gr hgrow (fun k hk => own_lt hown k hk)⟩
              case measure => simp [intOf]; omega
    · have hlt' : ¬ (k : Int) < (z : Int) := by omega
      obtain rfl : k = z := by omega
      have Hr := hid (HY.out (fun j hj => Hall.out j hj))
      have HM := hid (endsL_max r b (k := k) (by omega))
      have hi : IntsV wr _ (endsL r b k) := intsV_own (by rw [endsL_len]; exact Hown.out) (fun x hx => by
        obtain ⟨j, hj, rfl⟩ := List.mem_map.1 hx
        have := HN.out j (Hall.out j (List.mem_range.1 hj))
        exact I64.of (by omega) (by omega)) (by rw [endsL_len]; omega)
      have C := hid (Max_any wr _ _ hi (by rw [endsL_len]; omega))
      rw [endsL_len] at C
      clear hi Hown
      go_wp2_with fail
      refine C.out.mono ?_
      rintro e w2 ⟨rfl, hx2⟩
      rw [HM.out]
      generalize maxTo (overA r b) (k - 1) = mm at *
      go_wp2_with fail
      go_ret2
      exact retInt2_of Hr.out (hal.out.tr (hx.tr hx2))

theorem Over_any (w : World) (pv bv : Value) (r : Request) (b : List Bite) (hv : PiecesV w pv r.Pieces) (hb : BitesV w bv b) :
    Calls Try.prog 14 #[.agg #[.int .i64 r.Queue, .int .i64 r.From, .int .i64 r.Until, .int .i64 r.Kind, pv], bv] w (RetInt2 w (overR r b)) := by
  by_cases hr : ReqOk r
  · by_cases h1 : 1 ≤ b.length
    · exact Over_ok w pv bv r b hr h1 hv hb
    · have F := hid (fun (W : World) (h : Ext w W) => Form_any W pv r (hv.mono h))
      rw [formR_ok hr] at F
      have Hr := hid (overR_no (r := r) (b := b) (fun h => h1 h.2.1))
      obtain ⟨pa, pc, rfl, hpc, _, hpl⟩ := hv.form
      obtain ⟨ba, bc, rfl, hbc, _, hbl⟩ := hb.form
      have h0 : b.length = 0 := by omega
      rw [h0]
      clear hv hb hr h1 h0
      generalize r.Pieces.length = n at *
      go_enter Try.func14, Try.ntmps14
      go_wp2_with fail
      refine (F.out _ ((Ext.rf w).al _)).mono ?_
      rintro e w1 ⟨rfl, hx1⟩
      go_wp2_with fail
      go_ret2
      exact retInt2_of Hr.out (((Ext.rf w).al _).tr hx1)
  · have F := hid (fun (W : World) (h : Ext w W) => Form_any W pv r (hv.mono h))
    obtain ⟨fe, fb, hf, hne⟩ := formR_bad hr
    rw [hf] at F
    have Hr := hid (overR_no (r := r) (b := b) (fun h => hr h.1))
    have hne' := neT hne
    obtain ⟨pa, pc, rfl, hpc, _, hpl⟩ := hv.form
    obtain ⟨ba, bc, rfl, hbc, _, hbl⟩ := hb.form
    clear hv hb hf hr hne
    generalize r.Pieces.length = n at *
    generalize b.length = z at *
    go_enter Try.func14, Try.ntmps14
    go_wp2_with fail
    refine (F.out _ ((Ext.rf w).al _)).mono ?_
    rintro e w1 ⟨rfl, hx1⟩
    go_wp2_with fail
    go_ret2
    exact retInt2_of Hr.out (((Ext.rf w).al _).tr hx1)

end Go.Proofs.Ytfbcmifclaaacaa

/- Walk of the reference's OverOf. -/
set_option linter.unusedVariables false
namespace Go.Proofs.Ytfbcmifclaaacaa
open Go.RowKit

end Go.Proofs.Ytfbcmifclaaacaa
