/- bookBegun; the laws BookSubmits, BookTells. -/
import Derived.Test.YtfbcmifclaaacaaGreatSubR
import Derived.Test.YtfbcmifclaaacaaGreatTick
import Derived.Test.YtfbcmifclaaacaaGreatAskT
set_option linter.unusedVariables false
namespace Go.Proofs.YtfbcmifclaaacaaGreat
open Go.RowKit

/-- three told values, taken apart -/
theorem ret3_parts {P : Program} {f : FuncId} {args : Array Value} {W : World} {S : State} {n m : Int} (h : Calls P f args W (RetState3 W (S, n, m))) :
    Calls P f args W fun e w' => ∃ u v, e = .returned (.tuple #[.agg #[.int .i64 S.Clock, .int .i64 S.Next, u, v], .int .i64 n, .int .i64 m]) ∧ QueuesV w' u S.Tree ∧ BooksV w' v S.Books ∧ Ext W w' :=
  h.mono fun e w' ⟨u, v, h1, h2, h3⟩ => ⟨u, v, h1, h2.tree, h2.books, h3⟩
theorem ret2_parts {P : Program} {f : FuncId} {args : Array Value} {W : World} {S : State} {m : Int} (h : Calls P f args W (RetState2 W (S, m))) :
    Calls P f args W fun e w' => ∃ u v, e = .returned (.tuple #[.agg #[.int .i64 S.Clock, .int .i64 S.Next, u, v], .int .i64 m]) ∧ QueuesV w' u S.Tree ∧ BooksV w' v S.Books ∧ Ext W w' :=
  h.mono fun e w' ⟨u, v, h1, h2, h3⟩ => ⟨u, v, h1, h2.tree, h2.books, h3⟩
/-- a struct of four cells, made new -/
theorem newState {W V : World} {a b c d : Value} {t : TypeId} (h : Ext (W.alloc (.cells #[a, b, c, d] t)) V) :
    V.cell? ⟨W.heap.size, 0, none⟩ = some a ∧ V.cell? ⟨W.heap.size, 1, none⟩ = some b ∧ V.cell? ⟨W.heap.size, 2, none⟩ = some c ∧ V.cell? ⟨W.heap.size, 3, none⟩ = some d := stateCells h

/-! ### what the farm's calls tell -/
def askRc : Request := ⟨1, 4, 40, 2, [⟨2, 5⟩]⟩
theorem askRc_ok : ReqOk askRc := by decide +kernel
theorem mayRc : mayE (farmS 10) askRc = 9 := mayE_late farmV (reqE_ok fieldC askRc_ok (by decide)) (by decide)
theorem farm_few : ¬ ((farmS 10).Books.length = 12 ∨ (farmS 10).Next = 1048576) := by
  show ¬ ((2 : Nat) = 12 ∨ (6 : Int) = 1048576); decide
def farmB3 : List Book := farmB ++ [⟨6, askRa, [⟨0, 16⟩, ⟨1, 18⟩]⟩]
theorem subFa : submitR (farmS 10) askRa = (⟨5, 7, fieldL 10 0 6, farmB3⟩, 6, 0) := by
  rw [submitR_ok mayRa farm_few (by rw [placeRa]; decide), placeRa]; rfl
theorem subFb : submitR (farmS 10) askRb = (⟨0, 0, [], []⟩, 0, 8) := submitR_full mayRb farm_few placeRb
theorem subFc : submitR (farmS 10) askRc = (⟨0, 0, [], []⟩, 0, 9) := by rw [submitR_bad (by rw [mayRc]; decide), mayRc]; rfl
theorem canF : cancelR (farmS 10) 1 = (⟨5, 6, fieldL 10 0 6, [⟨4, ⟨2, 3, 48, 2, [⟨6, 4⟩]⟩, [⟨0, 9⟩]⟩]⟩, 0) := by
  have h : idxOf (isId 1) farmB = ((0 : Nat) : Int) := by unfold idxOf; decide +kernel
  have h2 := findB_is (s := farmS 10) (id := 1) farmV (by show 0 ≤ idxOf (isId 1) farmB; rw [h]; decide)
  exact cancelR_ok (k := 0) (h2.trans (by show (idxOf (isId 1) farmB, (0 : Int)) = _; rw [h]))
theorem stayF : stayB 15 farmB = [⟨1, plotR 3, [⟨0, 8⟩, ⟨1, 13⟩]⟩] := by
  obtain ⟨_, _, _, hb⟩ := booksE_zero (farm_books fieldC)
  have h1 := late_is (hb ⟨1, plotR 3, [⟨0, 8⟩, ⟨1, 13⟩]⟩ (by simp [farmB])) 15
  have h2 := late_is (hb ⟨4, ⟨2, 3, 48, 2, [⟨6, 4⟩]⟩, [⟨0, 9⟩]⟩ (by simp [farmB])) 15
  rw [show maxTo (overA (⟨1, plotR 3, [⟨0, 8⟩, ⟨1, 13⟩]⟩ : Book).Req (⟨1, plotR 3, [⟨0, 8⟩, ⟨1, 13⟩]⟩ : Book).Bites) ((⟨1, plotR 3, [⟨0, 8⟩, ⟨1, 13⟩]⟩ : Book).Bites.length - 1) = 18 by decide +kernel] at h1
  rw [show maxTo (overA (⟨4, ⟨2, 3, 48, 2, [⟨6, 4⟩]⟩, [⟨0, 9⟩]⟩ : Book).Req (⟨4, ⟨2, 3, 48, 2, [⟨6, 4⟩]⟩, [⟨0, 9⟩]⟩ : Book).Bites) ((⟨4, ⟨2, 3, 48, 2, [⟨6, 4⟩]⟩, [⟨0, 9⟩]⟩ : Book).Bites.length - 1) = 15 by decide +kernel] at h2
  unfold stayB farmB
  rw [List.filter_cons, List.filter_cons, h1, h2]
  rfl
theorem tickF : tickR (farmS 10) 15 = (⟨15, 6, fieldL 10 0 6, [⟨1, plotR 3, [⟨0, 8⟩, ⟨1, 13⟩]⟩]⟩, 1, 0) := by
  rw [tickR_ok farmV (by decide) (by show ¬ (15 : Int) < 5; decide)]
  show (State.mk 15 6 (fieldL 10 0 6) (stayB 15 farmB), (farmB.length : Int) - ((stayB 15 farmB).length : Int), (0 : Int)) = _
  rw [stayF]; rfl
theorem tickF4 : tickR (farmS 10) 4 = (⟨0, 0, [], []⟩, 0, 9) := tickR_late farmV (by decide) (by show (4 : Int) < 5; decide)

theorem Submit_is {w : World} {tv bv pv : Value} {c n : Int} {l : List Queue} {b : List Book} {r : Request} {c' n' : Int} {l' : List Queue} {b' : List Book} {k e : Int} (h : submitR ⟨c, n, l, b⟩ r = (⟨c', n', l', b'⟩, k, e)) (hl : QueuesV w tv l) (hb : BooksV w bv b) (hp : PiecesV w pv r.Pieces) (hI : I64 r.Queue ∧ I64 r.From ∧ I64 r.Until ∧ I64 r.Kind) :
    Calls Tryz.prog 14 #[.agg #[.int .i64 c, .int .i64 n, tv, bv], .agg #[.int .i64 r.Queue, .int .i64 r.From, .int .i64 r.Until, .int .i64 r.Kind, pv]] w fun x w' => ∃ u v, x = .returned (.tuple #[.agg #[.int .i64 c', .int .i64 n', u, v], .int .i64 k, .int .i64 e]) ∧ QueuesV w' u l' ∧ BooksV w' v b' ∧ Ext w w' := by
  have := Submit_any w tv bv pv ⟨c, n, l, b⟩ r hl hb hp hI; rw [h] at this; exact ret3_parts this
theorem Cancel_is {w : World} {tv bv : Value} {c n id : Int} {l : List Queue} {b : List Book} {c' n' : Int} {l' : List Queue} {b' : List Book} {e : Int} (h : cancelR ⟨c, n, l, b⟩ id = (⟨c', n', l', b'⟩, e)) (hl : QueuesV w tv l) (hb : BooksV w bv b) :
    Calls Tryz.prog 18 #[.agg #[.int .i64 c, .int .i64 n, tv, bv], .int .i64 id] w fun x w' => ∃ u v, x = .returned (.tuple #[.agg #[.int .i64 c', .int .i64 n', u, v], .int .i64 e]) ∧ QueuesV w' u l' ∧ BooksV w' v b' ∧ Ext w w' := by
  have := Cancel_any w tv bv ⟨c, n, l, b⟩ id hl hb; rw [h] at this; exact ret2_parts this
theorem Tick_is {w : World} {tv bv : Value} {c n t : Int} {l : List Queue} {b : List Book} {c' n' : Int} {l' : List Queue} {b' : List Book} {k e : Int} (h : tickR ⟨c, n, l, b⟩ t = (⟨c', n', l', b'⟩, k, e)) (hl : QueuesV w tv l) (hb : BooksV w bv b) :
    Calls Tryz.prog 19 #[.agg #[.int .i64 c, .int .i64 n, tv, bv], .int .i64 t] w fun x w' => ∃ u v, x = .returned (.tuple #[.agg #[.int .i64 c', .int .i64 n', u, v], .int .i64 k, .int .i64 e]) ∧ QueuesV w' u l' ∧ BooksV w' v b' ∧ Ext w w' := by
  have := Tick_any w tv bv ⟨c, n, l, b⟩ t hl hb; rw [h] at this; exact ret3_parts this
theorem piece_i64 {l : List Piece} (h : ∀ x ∈ l, (0 ≤ x.Len ∧ x.Len < 1000) ∧ 0 ≤ x.N ∧ x.N < 1000) : ∀ x ∈ l, I64 x.Len ∧ I64 x.N :=
  fun x hx => ⟨i64_small' (by have := (h x hx).1.1; omega) (by have := (h x hx).1.2; omega), i64_small' (by have := (h x hx).2.1; omega) (by have := (h x hx).2.2; omega)⟩

/-- the bites of the third of the told books -/
theorem third_bites {w : World} {v : Value} {l : List Book} {x : Book} (hv : BooksV w v l) (h : l[2]? = some x) :
    ∃ b off cap bv, v = .slice (some ⟨b, off, none⟩) l.length cap ∧ l.length ≤ cap ∧ cap ≤ 9223372036854775807 ∧ b < w.heap.size ∧ w.cell? ⟨b, off + 20, none⟩ = some bv ∧ BitesV w bv x.Bites := by
  obtain ⟨a, cap, rfl, h1, h2, _, h4⟩ := books_at hv
  obtain ⟨b, off, rfl, hb, hE⟩ := h4 (by have := (List.getElem?_eq_some_iff.1 h).1; omega)
  obtain ⟨cs, ⟨qs, bv, rfl, hq, hbv, _⟩, hc⟩ := hE 2 x h
  obtain ⟨pv, rfl, _⟩ := hq
  exact ⟨b, off, cap, bv, rfl, h1, h2, hb, hc 6 bv rfl, hbv⟩

set_option maxRecDepth 100000 in
set_option maxHeartbeats 4000000 in
theorem bookBegun_true (w : World) : Calls Tryz.prog 16 #[] w fun e w' => e = .returned (.bool true) ∧ Ext w w' := by
  have hv10 : I64 (10 : Int) := i64_small' (by decide) (by decide)
  have PA := hid (fun (W : World) => pieces_lit (w := W) (t := 68) [⟨2, 2⟩, ⟨2, 8⟩] rfl rfl rfl (by decide) (piece_i64 (by decide)))
  have PB := hid (fun (W : World) => pieces_lit (w := W) (t := 68) [⟨2, 5⟩] rfl rfl rfl (by decide) (piece_i64 (by decide)))
  have IA : I64 askRa.Queue ∧ I64 askRa.From ∧ I64 askRa.Until ∧ I64 askRa.Kind := ⟨i64_small' (by decide) (by decide), i64_small' (by decide) (by decide), i64_small' (by decide) (by decide), i64_small' (by decide) (by decide)⟩
  have IB : I64 askRb.Queue ∧ I64 askRb.From ∧ I64 askRb.Until ∧ I64 askRb.Kind := ⟨i64_small' (by decide) (by decide), i64_small' (by decide) (by decide), i64_small' (by decide) (by decide), i64_small' (by decide) (by decide)⟩
  have IC : I64 askRc.Queue ∧ I64 askRc.From ∧ I64 askRc.Until ∧ I64 askRc.Kind := ⟨i64_small' (by decide) (by decide), i64_small' (by decide) (by decide), i64_small' (by decide) (by decide), i64_small' (by decide) (by decide)⟩
  go_enter Tryz.func16, Tryz.ntmps16
  go_wp2_with fail
  refine (farm_any _).mono ?_
  rintro e w1 ⟨F1, G1, p1, q1, r1, s1, rfl, _, FA, hx1⟩
  have HA := hid FA
  have X1 := hid hx1
  clear FA hx1
  go_wp2_with fail
  have AL := (Ext.rf w1).al (.cells #[.int .i64 2, .int .i64 2, .int .i64 2, .int .i64 8] 68)
  have C := hid (Submit_is subFa ((HA.out.ext AL).tree hv10) (HA.out.ext AL).books (PA.out w1) IA)
  have X1' := hid (X1.out.tr AL)
  clear AL HA X1
  refine C.out.mono ?_
  rintro e va ⟨u, v, rfl, hu, hv, hx⟩
  obtain ⟨tb, ofs, vca, sv, h, _, _, htb, hc3, hbv⟩ := third_bites hv (x := ⟨6, askRa, [⟨0, 16⟩, ⟨1, 18⟩]⟩) rfl
  have h' : v = .slice (some ⟨tb, ofs, none⟩) 3 vca := h
  clear h; subst h'
  have HC3 := hid hc3
  have HBV := hid hbv
  clear hc3 hbv
  obtain ⟨uaa, uca, h, _, _, _⟩ := hu.form
  have h' : u = .slice uaa 4 uca := h
  clear h; subst h'
  have hal := (Ext.rf va).al (.cells #[.int .i64 5, .int .i64 7, .slice uaa 4 uca, .slice (some ⟨tb, ofs, none⟩) 3 vca] 25)
  have HBa := hid (fun (V : World) (h : Ext (va.alloc (.cells #[.int .i64 5, .int .i64 7, .slice uaa 4 uca, .slice (some ⟨tb, ofs, none⟩) 3 vca] 25)) V) => newState h)
  have HVa := hid hv
  have Xa := hid (X1'.out.tr hx)
  have Ya := hid (Xa.out.tr hal)
  clear C X1' hx hu hv hal
  go_wp2_with fail
  refine (farm_any _).mono ?_
  rintro e wb ⟨Fb, Gb, pb, qb, rb, sb, rfl, _, FA, hxb⟩
  have HA := hid FA
  have Zb := hid (Ya.out.tr hxb)
  have Qb := hid hxb
  clear FA hxb
  go_wp2_with fail
  have AL := (Ext.rf wb).al (.cells #[.int .i64 2, .int .i64 5] 68)
  have C := hid (Submit_is subFc ((HA.out.ext AL).tree hv10) (HA.out.ext AL).books (PB.out wb) IC)
  have Zb' := hid (Zb.out.tr AL)
  have Qb' := hid (Qb.out.tr AL)
  clear AL HA Zb Qb
  refine C.out.mono ?_
  rintro e vb ⟨u, v, rfl, hu, hv, hx⟩
  obtain ⟨vab, vcb, h, _, _, _⟩ := hv.form
  have h' : v = .slice vab 0 vcb := h
  clear h; subst h'
  obtain ⟨uab, ucb, h, _, _, _⟩ := hu.form
  have h' : u = .slice uab 0 ucb := h
  clear h; subst h'
  have hal := (Ext.rf vb).al (.cells #[.int .i64 0, .int .i64 0, .slice uab 0 ucb, .slice vab 0 vcb] 25)
  have HBb := hid (fun (V : World) (h : Ext (vb.alloc (.cells #[.int .i64 0, .int .i64 0, .slice uab 0 ucb, .slice vab 0 vcb] 25)) V) => newState h)
  have HVb := hid hv
  have Xb := hid (Zb'.out.tr hx)
  have Yb := hid (Xb.out.tr hal)
  have Kb := hid (Qb'.out.tr (hx.tr hal))
  clear C Zb' hx hu hv hal
  go_wp2_with fail
  refine (farm_any _).mono ?_
  rintro e wc ⟨Fc, Gc, pc, qc, rc, sc, rfl, _, FA, hxc⟩
  have HA := hid FA
  have Zc := hid (Yb.out.tr hxc)
  have Qc := hid hxc
  clear FA hxc
  go_wp2_with fail
  have AL := (Ext.rf wc).al (.cells #[.int .i64 2, .int .i64 5] 68)
  have C := hid (Submit_is subFb ((HA.out.ext AL).tree hv10) (HA.out.ext AL).books (PB.out wc) IB)
  have Zc' := hid (Zc.out.tr AL)
  have Qc' := hid (Qc.out.tr AL)
  clear AL HA Zc Qc
  refine C.out.mono ?_
  rintro e vc ⟨u, v, rfl, hu, hv, hx⟩
  obtain ⟨vac, vcc, h, _, _, _⟩ := hv.form
  have h' : v = .slice vac 0 vcc := h
  clear h; subst h'
  obtain ⟨uac, ucc, h, _, _, _⟩ := hu.form
  have h' : u = .slice uac 0 ucc := h
  clear h; subst h'
  have hal := (Ext.rf vc).al (.cells #[.int .i64 0, .int .i64 0, .slice uac 0 ucc, .slice vac 0 vcc] 25)
  have HBc := hid (fun (V : World) (h : Ext (vc.alloc (.cells #[.int .i64 0, .int .i64 0, .slice uac 0 ucc, .slice vac 0 vcc] 25)) V) => newState h)
  have HVc := hid hv
  have Xc := hid (Zc'.out.tr hx)
  have Yc := hid (Xc.out.tr hal)
  have Kc := hid (Qc'.out.tr (hx.tr hal))
  clear C Zc' hx hu hv hal
  go_wp2_with fail
  refine (farm_any _).mono ?_
  rintro e wd ⟨Fd, Gd, pd, qd, rd, sd, rfl, _, FA, hxd⟩
  have C := hid (Cancel_is canF (FA.tree hv10) FA.books)
  have Zd := hid (Yc.out.tr hxd)
  have Qd := hid hxd
  clear FA hxd
  go_wp2_with fail
  refine C.out.mono ?_
  rintro e vd ⟨u, v, rfl, hu, hv, hx⟩
  obtain ⟨vad, vcd, h, _, _, _⟩ := hv.form
  have h' : v = .slice vad 1 vcd := h
  clear h; subst h'
  obtain ⟨uad, ucd, h, _, _, _⟩ := hu.form
  have h' : u = .slice uad 4 ucd := h
  clear h; subst h'
  have hal := (Ext.rf vd).al (.cells #[.int .i64 5, .int .i64 6, .slice uad 4 ucd, .slice vad 1 vcd] 25)
  have HBd := hid (fun (V : World) (h : Ext (vd.alloc (.cells #[.int .i64 5, .int .i64 6, .slice uad 4 ucd, .slice vad 1 vcd] 25)) V) => newState h)
  have HVd := hid hv
  have Xd := hid (Zd.out.tr hx)
  have Yd := hid (Xd.out.tr hal)
  have Kd := hid (Qd.out.tr (hx.tr hal))
  clear C Zd hx hu hv hal
  go_wp2_with fail
  refine (farm_any _).mono ?_
  rintro e we ⟨Fe, Ge, pe, qe, re, se, rfl, _, FA, hxe⟩
  have C := hid (Tick_is tickF (FA.tree hv10) FA.books)
  have Ze := hid (Yd.out.tr hxe)
  have Qe := hid hxe
  clear FA hxe
  go_wp2_with fail
  refine C.out.mono ?_
  rintro e ve ⟨u, v, rfl, hu, hv, hx⟩
  obtain ⟨vae, vce, h, _, _, _⟩ := hv.form
  have h' : v = .slice vae 1 vce := h
  clear h; subst h'
  obtain ⟨uae, uce, h, _, _, _⟩ := hu.form
  have h' : u = .slice uae 4 uce := h
  clear h; subst h'
  have hal := (Ext.rf ve).al (.cells #[.int .i64 15, .int .i64 6, .slice uae 4 uce, .slice vae 1 vce] 25)
  have HBe := hid (fun (V : World) (h : Ext (ve.alloc (.cells #[.int .i64 15, .int .i64 6, .slice uae 4 uce, .slice vae 1 vce] 25)) V) => newState h)
  have HVe := hid hv
  have Xe := hid (Ze.out.tr hx)
  have Ye := hid (Xe.out.tr hal)
  have Ke := hid (Qe.out.tr (hx.tr hal))
  clear C Ze hx hu hv hal
  go_wp2_with fail
  refine (farm_any _).mono ?_
  rintro e wf ⟨Ff, Gf, pf, qf, rf, sf, rfl, _, FA, hxf⟩
  have C := hid (Tick_is tickF4 (FA.tree hv10) FA.books)
  have Zf := hid (Ye.out.tr hxf)
  have Qf := hid hxf
  clear FA hxf
  go_wp2_with fail
  refine C.out.mono ?_
  rintro e vf ⟨u, v, rfl, hu, hv, hx⟩
  obtain ⟨vaf, vcf, h, _, _, _⟩ := hv.form
  have h' : v = .slice vaf 0 vcf := h
  clear h; subst h'
  obtain ⟨uaf, ucf, h, _, _, _⟩ := hu.form
  have h' : u = .slice uaf 0 ucf := h
  clear h; subst h'
  have hal := (Ext.rf vf).al (.cells #[.int .i64 0, .int .i64 0, .slice uaf 0 ucf, .slice vaf 0 vcf] 25)
  have HBf := hid (fun (V : World) (h : Ext (vf.alloc (.cells #[.int .i64 0, .int .i64 0, .slice uaf 0 ucf, .slice vaf 0 vcf] 25)) V) => newState h)
  have HVf := hid hv
  have Xf := hid (Zf.out.tr hx)
  have Yf := hid (Xf.out.tr hal)
  have Kf := hid (Qf.out.tr (hx.tr hal))
  clear C Zf hx hu hv hal
  obtain ⟨a0, a1, a2, a3⟩ := HBa.out _ (Kb.out.tr (Kc.out.tr (Kd.out.tr (Ke.out.tr Kf.out))))
  have XZ := hid (((Ext.rf va).al (.cells #[.int .i64 5, .int .i64 7, .slice uaa 4 uca, .slice (some ⟨tb, ofs, none⟩) 3 vca] 25)).tr (Kb.out.tr (Kc.out.tr (Kd.out.tr (Ke.out.tr Kf.out)))))
  have t0 := XZ.out.ce' HC3.out
  go_wp2_with fail
  have al := (Ext.rf (vf.alloc (.cells #[.int .i64 0, .int .i64 0, .slice uaf 0 ucf, .slice vaf 0 vcf] 25))).al (.cells #[.int .i64 0, .int .i64 16, .int .i64 1, .int .i64 18] 55)
  have hsz : vf.heap.size + 1 = (vf.alloc (.cells #[.int .i64 0, .int .i64 0, .slice uaf 0 ucf, .slice vaf 0 vcf] 25)).heap.size := (World.size_alloc _ _).symm
  refine (sameBites_yes (HBV.out.mono (XZ.tr al)) (bites_lit [⟨0, 16⟩, ⟨1, 18⟩] hsz rfl rfl (by decide) (by decide))).mono ?_
  rintro e z ⟨rfl, hz⟩
  have HZ := hid (Yf.out.tr (al.tr hz))
  have g1 := HBd.out z (Ke.out.tr (Kf.out.tr (al.tr hz)))
  have g2 := HBe.out z (Kf.out.tr (al.tr hz))
  obtain ⟨d0, d1, d2, d3⟩ := g1
  obtain ⟨e0, e1, e2, e3⟩ := g2
  clear al hsz hz XZ
  go_wp2_with fail
  go_ret
  exact ⟨rfl, HZ.out⟩

set_option maxRecDepth 100000 in
set_option maxHeartbeats 4000000 in
theorem bookSubmits_any (w : World) (sv : Value) (s : State) (rv : Value) (r : Request) (hs : StateV w sv s) (hr : ReqV w rv r) :
    Calls Tryz.prog 4 #[sv, rv] w fun e w' => e = .returned (.bool true) ∧ Ext w w' := by
  obtain ⟨cs, rfl, tv, bv, rfl, ht, hb, _⟩ := hs
  obtain ⟨rs, rfl, pv, rfl, hp, hI⟩ := hr
  obtain ⟨⟨S, n, er⟩, hsr⟩ : ∃ x, submitR s r = x := ⟨_, rfl⟩
  have SU := hid (fun (W : World) (h : Ext w W) => ret3_parts (S := S) (n := n) (m := er) (by have := Submit_any W tv bv pv s r (ht.mono h) (hb.mono h) (hp.mono h) hI; rwa [hsr] at this))
  have SR := hid (fun (W : World) (h : Ext w W) => ret3_parts (S := S) (n := n) (m := er) (by have := SubmitOf_any W tv bv pv s r (ht.mono h) (hb.mono h) (hp.mono h) hI; rwa [hsr] at this))
  have BG := hid (fun (W : World) => bookBegun_true W)
  obtain ⟨wb, hwb, HX, HSS, HRR, hszb⟩ := two_boxes w s r tv bv pv
  have HX0 := hid HX
  have HS0 := hid HSS
  have HR0 := hid HRR
  have HWB := hid hwb
  clear HX HSS HRR hwb hszb hsr
  have e2 : (n == n) = true := by simp
  have e3 : (er == er) = true := by simp
  obtain ⟨qa, qc, rfl, _, _, _⟩ := ht.form
  obtain ⟨ba, bc, rfl, _, _, _⟩ := hb.form
  obtain ⟨pa, pc, rfl, _, _, _⟩ := hp.form
  clear ht hb hp
  generalize s.Tree.length = sn at *
  generalize s.Books.length = sz at *
  generalize r.Pieces.length = pn at *
  go_enter Tryz.func4, Tryz.ntmps4
  go_wp2_with fail
  rw [HWB.out]
  refine (SU.out _ HX0.out).mono ?_
  rintro e w2 ⟨u2, v2, rfl, hu2, hv2, hx2⟩
  obtain ⟨ua, uc, rfl, _, _, _⟩ := hu2.form
  obtain ⟨va, vc, rfl, _, _, _⟩ := hv2.form
  have hal := (Ext.rf w2).al (.cells #[.int .i64 S.Clock, .int .i64 S.Next, .slice ua S.Tree.length uc, .slice va S.Books.length vc] 25)
  have HU2 := hid hu2
  have HV2 := hid hv2
  have HX2 := hid (hx2.tr hal)
  have HAL := hid hal
  obtain ⟨a0, a1, a2, a3⟩ := HS0.out w2 hx2
  obtain ⟨c0, c1, c2, c3, c4⟩ := HR0.out w2 hx2
  have hlt1 : w.heap.size < w2.heap.size := World.block_lt_of_cell? _ _ a0
  have hlt2 : w.heap.size + 1 < w2.heap.size := World.block_lt_of_cell? _ _ c0
  clear hu2 hv2 hal hx2
  go_wp2_with fail
  refine (SR.out _ (HX0.out.tr HX2.out)).mono ?_
  rintro e w3 ⟨u3, v3, rfl, hu3, hv3, hx3⟩
  clear a0 a1 a2 a3 c0 c1 c2 c3 c4
  obtain ⟨ub, ud, rfl, _, _, _⟩ := hu3.form
  obtain ⟨vb, vd, rfl, _, _, _⟩ := hv3.form
  have HB2 := hid (fun (V : World) (h : Ext w3 V) => newState (hx3.tr h))
  have HX3 := hid (HX2.out.tr hx3)
  have HU3 := hid hu3
  have HV3 := hid hv3
  have HE3 := hid hx3
  clear hu3 hv3 hx3
  go_wp2_with fail
  refine (BG.out _).mono ?_
  rintro e w4 ⟨rfl, hx4⟩
  have HX34 := hid (((Ext.rf w3).al (.cells #[.int .i64 S.Clock, .int .i64 S.Next, .slice ub S.Tree.length ud, .slice vb S.Books.length vd] 25)).tr hx4)
  obtain ⟨b0, b1, b2, b3⟩ := HB2.out w4 HX34.out
  obtain ⟨d0, d1, d2, d3⟩ := newState hx4
  have SS := hid (fun (W : World) (h : Ext w4 W) => sameStates_yes W S.Clock S.Next (.slice ua S.Tree.length uc) (.slice va S.Books.length vc) (.slice ub S.Tree.length ud) (.slice vb S.Books.length vd) S.Tree S.Books (HU2.out.mono (HAL.out.tr (HE3.out.tr (HX34.out.tr h)))) (HV2.out.mono (HAL.out.tr (HE3.out.tr (HX34.out.tr h)))) (HU3.out.mono (HX34.out.tr h)) (HV3.out.mono (HX34.out.tr h)))
  clear hx4
  go_wp2_with fail
  refine (SS.out _ (Ext.rf _)).mono ?_
  rintro e w5 ⟨rfl, hx5⟩
  go_wp2_with fail
  go_ret
  exact ⟨rfl, HX0.out.tr (HX3.out.tr (HX34.out.tr hx5))⟩

set_option maxRecDepth 100000 in
set_option maxHeartbeats 4000000 in
theorem bookTells_any (w : World) (sv : Value) (s : State) (id t : Int) (hs : StateV w sv s) :
    Calls Tryz.prog 5 #[sv, .int .i64 id, .int .i64 t] w fun e w' => e = .returned (.bool true) ∧ Ext w w' := by
  obtain ⟨cs, rfl, tv, bv, rfl, ht, hb, _⟩ := hs
  obtain ⟨⟨S, er⟩, hsr⟩ : ∃ x, cancelR s id = x := ⟨_, rfl⟩
  obtain ⟨⟨T, n, fr⟩, htr⟩ : ∃ x, tickR s t = x := ⟨_, rfl⟩
  have CA := hid (fun (W : World) (h : Ext w W) => ret2_parts (S := S) (m := er) (by have := Cancel_any W tv bv s id (ht.mono h) (hb.mono h); rwa [hsr] at this))
  have CR := hid (fun (W : World) (h : Ext w W) => ret2_parts (S := S) (m := er) (by have := CancelOf_any W tv bv s id (ht.mono h) (hb.mono h); rwa [hsr] at this))
  have TA := hid (fun (W : World) (h : Ext w W) => ret3_parts (S := T) (n := n) (m := fr) (by have := Tick_any W tv bv s t (ht.mono h) (hb.mono h); rwa [htr] at this))
  have TR := hid (fun (W : World) (h : Ext w W) => ret3_parts (S := T) (n := n) (m := fr) (by have := TickOf_any W tv bv s t (ht.mono h) (hb.mono h); rwa [htr] at this))
  have BG := hid (fun (W : World) => bookBegun_true W)
  have X0 := hid ((Ext.rf w).al (.cells #[.int .i64 s.Clock, .int .i64 s.Next, tv, bv] 25))
  have HS0 := hid (fun (V : World) (h : Ext (w.alloc (.cells #[.int .i64 s.Clock, .int .i64 s.Next, tv, bv] 25)) V) => newState h)
  have e1 : (er == er) = true := by simp
  have e2 : (n == n) = true := by simp
  have e3 : (fr == fr) = true := by simp
  clear hsr htr
  obtain ⟨qa, qc, rfl, _, _, _⟩ := ht.form
  obtain ⟨ba, bc, rfl, _, _, _⟩ := hb.form
  clear ht hb
  generalize s.Tree.length = sn at *
  generalize s.Books.length = sz at *
  go_enter Tryz.func5, Tryz.ntmps5
  go_wp2_with fail
  refine (CA.out _ X0.out).mono ?_
  rintro e wa ⟨u, v, rfl, hu, hv, hx⟩
  obtain ⟨ua, ca, rfl, _, _, _⟩ := hu.form
  obtain ⟨va, da, rfl, _, _, _⟩ := hv.form
  have hal := (Ext.rf wa).al (.cells #[.int .i64 S.Clock, .int .i64 S.Next, .slice ua S.Tree.length ca, .slice va S.Books.length da] 25)
  have HBa := hid (fun (V : World) (h : Ext (wa.alloc (.cells #[.int .i64 S.Clock, .int .i64 S.Next, .slice ua S.Tree.length ca, .slice va S.Books.length da] 25)) V) => newState h)
  have HUa := hid hu
  have HVa := hid hv
  have Aa := hid hal
  have Ga := hid (hx.tr hal)
  have Xa := hid (X0.out.tr Ga.out)
  obtain ⟨a0, a1, a2, a3⟩ := HS0.out wa hx
  clear hx hu hv hal
  have hlt : w.heap.size < wa.heap.size := World.block_lt_of_cell? _ _ a0
  go_wp2_with fail
  clear a0 a1 a2 a3 hlt
  refine (TA.out _ Xa.out).mono ?_
  rintro e wb ⟨u, v, rfl, hu, hv, hx⟩
  obtain ⟨ub, cb, rfl, _, _, _⟩ := hu.form
  obtain ⟨vb, db, rfl, _, _, _⟩ := hv.form
  have hal := (Ext.rf wb).al (.cells #[.int .i64 T.Clock, .int .i64 T.Next, .slice ub T.Tree.length cb, .slice vb T.Books.length db] 25)
  have HBb := hid (fun (V : World) (h : Ext (wb.alloc (.cells #[.int .i64 T.Clock, .int .i64 T.Next, .slice ub T.Tree.length cb, .slice vb T.Books.length db] 25)) V) => newState h)
  have HUb := hid hu
  have HVb := hid hv
  have Ab := hid hal
  have Kb := hid (hx.tr hal)
  have Gb := hid (Ga.out.tr Kb.out)
  have Xb := hid (X0.out.tr Gb.out)
  obtain ⟨a0, a1, a2, a3⟩ := HS0.out wb (Ga.out.tr hx)
  clear hx hu hv hal
  have hlt : w.heap.size < wb.heap.size := World.block_lt_of_cell? _ _ a0
  go_wp2_with fail
  clear a0 a1 a2 a3 hlt
  refine (CR.out _ Xb.out).mono ?_
  rintro e wc ⟨u, v, rfl, hu, hv, hx⟩
  obtain ⟨uc, cc, rfl, _, _, _⟩ := hu.form
  obtain ⟨vc, dc, rfl, _, _, _⟩ := hv.form
  have hal := (Ext.rf wc).al (.cells #[.int .i64 S.Clock, .int .i64 S.Next, .slice uc S.Tree.length cc, .slice vc S.Books.length dc] 25)
  have HBc := hid (fun (V : World) (h : Ext (wc.alloc (.cells #[.int .i64 S.Clock, .int .i64 S.Next, .slice uc S.Tree.length cc, .slice vc S.Books.length dc] 25)) V) => newState h)
  have HUc := hid hu
  have HVc := hid hv
  have Ac := hid hal
  have Kc := hid (hx.tr hal)
  have Gc := hid (Gb.out.tr Kc.out)
  have Xc := hid (X0.out.tr Gc.out)
  obtain ⟨a0, a1, a2, a3⟩ := HS0.out wc (Gb.out.tr hx)
  clear hx hu hv hal
  have hlt : w.heap.size < wc.heap.size := World.block_lt_of_cell? _ _ a0
  go_wp2_with fail
  clear a0 a1 a2 a3 hlt
  refine (TR.out _ Xc.out).mono ?_
  rintro e wd ⟨u, v, rfl, hu, hv, hx⟩
  obtain ⟨ud, cd, rfl, _, _, _⟩ := hu.form
  obtain ⟨vd, dd, rfl, _, _, _⟩ := hv.form
  have hal := (Ext.rf wd).al (.cells #[.int .i64 T.Clock, .int .i64 T.Next, .slice ud T.Tree.length cd, .slice vd T.Books.length dd] 25)
  have HBd := hid (fun (V : World) (h : Ext (wd.alloc (.cells #[.int .i64 T.Clock, .int .i64 T.Next, .slice ud T.Tree.length cd, .slice vd T.Books.length dd] 25)) V) => newState h)
  have HUd := hid hu
  have HVd := hid hv
  have Ad := hid hal
  have Kd := hid (hx.tr hal)
  have Gd := hid (Gc.out.tr Kd.out)
  have Xd := hid (X0.out.tr Gd.out)
  clear hx hu hv hal
  go_wp2_with fail
  refine (BG.out _).mono ?_
  rintro e we ⟨rfl, hx⟩
  have KE := hid hx
  have XE := hid (Xd.out.tr hx)
  clear hx
  obtain ⟨a0, a1, a2, a3⟩ := HBa.out we (Kb.out.tr (Kc.out.tr (Kd.out.tr KE.out)))
  obtain ⟨b0, b1, b2, b3⟩ := HBc.out we (Kd.out.tr KE.out)
  have SS := hid (fun (W : World) (h : Ext we W) => sameStates_yes W S.Clock S.Next (.slice ua S.Tree.length ca) (.slice va S.Books.length da) (.slice uc S.Tree.length cc) (.slice vc S.Books.length dc) S.Tree S.Books (HUa.out.mono (Aa.out.tr (Kb.out.tr (Kc.out.tr (Kd.out.tr (KE.out.tr h)))))) (HVa.out.mono (Aa.out.tr (Kb.out.tr (Kc.out.tr (Kd.out.tr (KE.out.tr h)))))) (HUc.out.mono (Ac.out.tr (Kd.out.tr (KE.out.tr h)))) (HVc.out.mono (Ac.out.tr (Kd.out.tr (KE.out.tr h)))))
  go_wp2_with fail
  refine (SS.out _ (Ext.rf _)).mono ?_
  rintro e wf ⟨rfl, hx⟩
  have XF := hid (XE.out.tr hx)
  have KF := hid (KE.out.tr hx)
  clear a0 a1 a2 a3 b0 b1 b2 b3 SS hx
  obtain ⟨a0, a1, a2, a3⟩ := HBb.out wf (Kc.out.tr (Kd.out.tr KF.out))
  obtain ⟨b0, b1, b2, b3⟩ := HBd.out wf KF.out
  have TT := hid (fun (W : World) (h : Ext wf W) => sameStates_yes W T.Clock T.Next (.slice ub T.Tree.length cb) (.slice vb T.Books.length db) (.slice ud T.Tree.length cd) (.slice vd T.Books.length dd) T.Tree T.Books (HUb.out.mono (Ab.out.tr (Kc.out.tr (Kd.out.tr (KF.out.tr h))))) (HVb.out.mono (Ab.out.tr (Kc.out.tr (Kd.out.tr (KF.out.tr h))))) (HUd.out.mono (Ad.out.tr (KF.out.tr h))) (HVd.out.mono (Ad.out.tr (KF.out.tr h))))
  go_wp2_with fail
  refine (TT.out _ (Ext.rf _)).mono ?_
  rintro e wg ⟨rfl, hx⟩
  go_wp2_with fail
  go_ret
  exact ⟨rfl, XF.out.tr hx⟩
end Go.Proofs.YtfbcmifclaaacaaGreat
