/- askBegun; the law AskTells. -/
import Derived.Test.YtfbcmifclaaacaaAsk
set_option linter.unusedVariables false
namespace Go.Proofs.Ytfbcmifclaaacaa
open Go.RowKit

/-! ### questions of the farm -/
def askRa : Request := ⟨1, 5, 40, 4, [⟨2, 2⟩, ⟨2, 8⟩]⟩
def askRb : Request := ⟨1, 20, 40, 2, [⟨2, 5⟩]⟩
def farmR : List Run := [⟨0, 8⟩, ⟨8, 5⟩, ⟨9, 3⟩, ⟨12, 6⟩, ⟨13, 0⟩, ⟨15, 2⟩, ⟨18, 8⟩, ⟨20, 4⟩]
theorem farmR_is : fold (roomT (fieldL 10 0 6) farmB 1) = farmR := by decide +kernel
theorem askRa_ok : ReqOk askRa := by decide +kernel
theorem askRb_ok : ReqOk askRb := by decide +kernel
theorem placeRa : placeL (plotT (farmS 10) askRa) askRa = [⟨0, 16⟩, ⟨1, 18⟩] := by
  show placeL (sp (fold (roomT (fieldL 10 0 6) farmB 1))) askRa = _
  rw [farmR_is, placeL_tight rfl]; decide +kernel
theorem placeRb : placeL (plotT (farmS 10) askRb) askRb = [] := by
  show placeL (sp (fold (roomT (fieldL 10 0 6) farmB 1))) askRb = _
  rw [farmR_is, placeL_any rfl]; decide +kernel
theorem mayRa : mayE (farmS 10) askRa = 0 := mayE_ok farmV (reqE_ok fieldC askRa_ok (by decide)) (by decide)
theorem mayRb : mayE (farmS 10) askRb = 0 := mayE_ok farmV (reqE_ok fieldC askRb_ok (by decide)) (by decide)
theorem soonRa : soonR (farmS 10) askRa = (16, true, 0) := by rw [soonR_is mayRa (by rw [placeRa]; decide), placeRa]; rfl
theorem soonRb : soonR (farmS 10) askRb = (0, false, 0) := soonR_none mayRb placeRb
theorem busyF : busyR (farmS 10) 0 13 = (10, 0) := by
  rw [busyR_ok (askE_ok farmV (by show (0 : Int) ≤ 0 ∧ (0 : Int) < ((fieldL 10 0 6).length : Int); decide) (by decide))]
  have h : takenT (fieldL 10 0 6) farmB 0 13 = 10 := by decide +kernel
  exact congrArg (fun n => (n, (0 : Int))) h
theorem leftF : leftR (farmS 10) 3 13 = (0, 0) := by
  rw [leftR_ok (askE_ok farmV (by show (0 : Int) ≤ 3 ∧ (3 : Int) < ((fieldL 10 0 6).length : Int); decide) (by decide))]
  have h : roomT (fieldL 10 0 6) farmB 3 13 = 0 := by decide +kernel
  exact congrArg (fun n => (n, (0 : Int))) h
theorem busyN : busyR (farmS 10) 4 13 = (0, 6) := by
  have h : askE (farmS 10) 4 13 = 6 := askE_none farmV (by show ¬ ((0 : Int) ≤ 4 ∧ (4 : Int) < ((fieldL 10 0 6).length : Int)); decide)
  rw [busyR_bad (by rw [h]; decide), h]
theorem leftN : leftR (farmS 10) 0 48 = (0, 3) := by
  have h : askE (farmS 10) 0 48 = 3 := askE_range farmV (by show (0 : Int) ≤ 0 ∧ (0 : Int) < ((fieldL 10 0 6).length : Int); decide) (by decide)
  rw [leftR_bad (by rw [h]; decide), h]

theorem Busy_is {w : World} {tv bv : Value} {c n q t : Int} {l : List Queue} {b : List Book} {k e : Int} (h : busyR ⟨c, n, l, b⟩ q t = (k, e)) (hl : QueuesV w tv l) (hb : BooksV w bv b) :
    Calls Try.prog 17 #[.agg #[.int .i64 c, .int .i64 n, tv, bv], .int .i64 q, .int .i64 t] w fun x w' => x = .returned (.tuple #[.int .i64 k, .int .i64 e]) ∧ Ext w w' := by
  have := Busy_any w tv bv ⟨c, n, l, b⟩ q t hl hb; rw [h] at this; exact this
theorem Left_is {w : World} {tv bv : Value} {c n q t : Int} {l : List Queue} {b : List Book} {k e : Int} (h : leftR ⟨c, n, l, b⟩ q t = (k, e)) (hl : QueuesV w tv l) (hb : BooksV w bv b) :
    Calls Try.prog 18 #[.agg #[.int .i64 c, .int .i64 n, tv, bv], .int .i64 q, .int .i64 t] w fun x w' => x = .returned (.tuple #[.int .i64 k, .int .i64 e]) ∧ Ext w w' := by
  have := Left_any w tv bv ⟨c, n, l, b⟩ q t hl hb; rw [h] at this; exact this
theorem Soonest_is {w : World} {tv bv pv : Value} {c n : Int} {l : List Queue} {b : List Book} {r : Request} {k e : Int} {d : Bool} (h : soonR ⟨c, n, l, b⟩ r = (k, d, e)) (hl : QueuesV w tv l) (hb : BooksV w bv b) (hp : PiecesV w pv r.Pieces) :
    Calls Try.prog 20 #[.agg #[.int .i64 c, .int .i64 n, tv, bv], .agg #[.int .i64 r.Queue, .int .i64 r.From, .int .i64 r.Until, .int .i64 r.Kind, pv]] w fun x w' => x = .returned (.tuple #[.int .i64 k, .bool d, .int .i64 e]) ∧ Ext w w' := by
  have := Soonest_any w tv bv pv ⟨c, n, l, b⟩ r hl hb hp; rw [h] at this; exact this
theorem pieces_lit {w : World} {cs : Array Value} {b n : Nat} {t : TypeId} (l : List Piece) (hb : b = w.heap.size) (hcs : cs = (cells2 Piece.Len Piece.N l).toArray) (hn : n = l.length) (hl : l.length ≤ 48) (h : ∀ x ∈ l, I64 x.Len ∧ I64 x.N) :
    PiecesV (w.alloc (.cells cs t)) (.slice (some ⟨b, 0, none⟩) n n) l := pairs_lit l hb hcs hn hl h

set_option maxRecDepth 100000 in
set_option maxHeartbeats 4000000 in
theorem askBegun_true (w : World) : Calls Try.prog 22 #[] w fun e w' => e = .returned (.bool true) ∧ Ext w w' := by
  have hv10 : I64 (10 : Int) := i64_small' (by decide) (by decide)
  have PA := hid (fun (W : World) => pieces_lit (w := W) (t := 83) [⟨2, 2⟩, ⟨2, 8⟩] rfl rfl rfl (by decide) (fun x hx => by
    simp only [List.mem_cons, List.not_mem_nil, or_false] at hx
    rcases hx with rfl | rfl <;> exact ⟨i64_small' (by decide) (by decide), i64_small' (by decide) (by decide)⟩))
  have PB := hid (fun (W : World) => pieces_lit (w := W) (t := 83) [⟨2, 5⟩] rfl rfl rfl (by decide) (fun x hx => by
    rw [List.mem_singleton.1 hx]; exact ⟨i64_small' (by decide) (by decide), i64_small' (by decide) (by decide)⟩))
  go_enter Try.func22, Try.ntmps22
  go_wp2_with fail
  refine (farm_any _).mono ?_
  rintro e w1 ⟨F1, G1, p1, q1, r1, s1, rfl, _, FA, hx1⟩
  have C := hid (Busy_is busyF (FA.tree hv10) FA.books)
  have X1 := hid hx1
  clear FA hx1
  go_wp2_with fail
  refine C.out.mono ?_
  rintro e w2 ⟨rfl, hx2⟩
  have X2 := hid (X1.out.tr hx2)
  clear C X1 hx2
  go_wp2_with fail
  refine (farm_any _).mono ?_
  rintro e w3 ⟨F3, G3, p3, q3, r3, s3, rfl, _, FA, hx3⟩
  have C := hid (Left_is leftF (FA.tree hv10) FA.books)
  have X3 := hid (X2.out.tr hx3)
  clear FA hx3 X2
  go_wp2_with fail
  refine C.out.mono ?_
  rintro e w4 ⟨rfl, hx4⟩
  have X4 := hid (X3.out.tr hx4)
  clear C X3 hx4
  go_wp2_with fail
  refine (farm_any _).mono ?_
  rintro e w5 ⟨F5, G5, p5, q5, r5, s5, rfl, _, FA, hx5⟩
  have HA := hid FA
  have X5 := hid (X4.out.tr hx5)
  clear FA hx5 X4
  go_wp2_with fail
  have AL := (Ext.rf w5).al (.cells #[.int .i64 2, .int .i64 2, .int .i64 2, .int .i64 8] 83)
  have C := hid (Soonest_is soonRa ((HA.out.ext AL).tree hv10) (HA.out.ext AL).books (PA.out w5))
  have X5' := hid (X5.out.tr AL)
  clear AL HA X5
  refine C.out.mono ?_
  rintro e w6 ⟨rfl, hx6⟩
  have X6 := hid (X5'.out.tr hx6)
  clear C X5' hx6
  go_wp2_with fail
  refine (farm_any _).mono ?_
  rintro e w7 ⟨F7, G7, p7, q7, r7, s7, rfl, _, FA, hx7⟩
  have HA := hid FA
  have X7 := hid (X6.out.tr hx7)
  clear FA hx7 X6
  go_wp2_with fail
  have AL := (Ext.rf w7).al (.cells #[.int .i64 2, .int .i64 5] 83)
  have C := hid (Soonest_is soonRb ((HA.out.ext AL).tree hv10) (HA.out.ext AL).books (PB.out w7))
  have X7' := hid (X7.out.tr AL)
  clear AL HA X7
  refine C.out.mono ?_
  rintro e w8 ⟨rfl, hx8⟩
  have X8 := hid (X7'.out.tr hx8)
  clear C X7' hx8
  go_wp2_with fail
  refine (farm_any _).mono ?_
  rintro e w9 ⟨F9, G9, p9, q9, r9, s9, rfl, _, FA, hx9⟩
  have C := hid (Busy_is busyN (FA.tree hv10) FA.books)
  have X9 := hid (X8.out.tr hx9)
  clear FA hx9 X8
  go_wp2_with fail
  refine C.out.mono ?_
  rintro e w10 ⟨rfl, hx10⟩
  have X10 := hid (X9.out.tr hx10)
  clear C X9 hx10
  go_wp2_with fail
  refine (farm_any _).mono ?_
  rintro e w11 ⟨F11, G11, p11, q11, r11, s11, rfl, _, FA, hx11⟩
  have C := hid (Left_is leftN (FA.tree hv10) FA.books)
  have X11 := hid (X10.out.tr hx11)
  clear FA hx11 X10
  go_wp2_with fail
  refine C.out.mono ?_
  rintro e w12 ⟨rfl, hx12⟩
  have X12 := hid (X11.out.tr hx12)
  clear C X11 hx12
  go_wp2_with fail
  go_ret
  exact ⟨rfl, X12.out⟩

end Go.Proofs.Ytfbcmifclaaacaa
