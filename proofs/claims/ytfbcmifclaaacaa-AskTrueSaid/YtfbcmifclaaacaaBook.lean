/- bookBegun; the laws BookSubmits, BookTells. -/
import Derived.Test.YtfbcmifclaaacaaRefO
import Derived.Test.YtfbcmifclaaacaaTick
import Derived.Test.YtfbcmifclaaacaaAskT
set_option linter.unusedVariables false
namespace Go.Proofs.Ytfbcmifclaaacaa
open Go.RowKit

/-- three told values, taken apart -/
theorem ret3_parts {P : Program} {f : FuncId} {args : Array Value} {W : World} {S : State} {n m : Int} (h : Calls P f args W (RetState3 W (S, n, m))) :
    Calls P f args W fun e w' => ∃ u v, e = .returned (.tuple #[.agg #[.int .i64 S.Clock, .int .i64 S.Next, u, v], .int .i64 n, .int .i64 m]) ∧ QueuesV w' u S.Tree ∧ BooksV w' v S.Books ∧ Ext W w' :=
  h.mono fun e w' ⟨u, v, h1, h2, h3⟩ => ⟨u, v, h1, h2.tree, h2.books, h3⟩
theorem ret2_parts {P : Program} {f : FuncId} {args : Array Value} {W : World} {S : State} {m : Int} (h : Calls P f args W (RetState2 W (S, m))) :
    Calls P f args W fun e w' => ∃ u v, e = .returned (.tuple #[.agg #[.int .i64 S.Clock, .int .i64 S.Next, u, v], .int .i64 m]) ∧ QueuesV w' u S.Tree ∧ BooksV w' v S.Books ∧ Ext W w' :=
  h.mono fun e w' ⟨u, v, h1, h2, h3⟩ => ⟨u, v, h1, h2.tree, h2.books, h3⟩
/-- a struct of four cells, made new -/
theorem newState {W V : World} {a b c d : Value} {t : TypeId} (h : Ext (W.alloc (.cells #[a, b, c, d] t)) V) :
    V.cell? ⟨W.heap.size, 0, none⟩ = some a ∧ V.cell? ⟨W.heap.size, 1, none⟩ = some b ∧ V.cell? ⟨W.heap.size, 2, none⟩ = some c ∧ V.cell? ⟨W.heap.size, 3, none⟩ = some d := stateCells h

/-! ### what the farm's calls tell -/
def askRc : Request := ⟨1, 4, 40, 2, [⟨2, 5⟩]⟩
theorem askRc_ok : ReqOk askRc := by decide +kernel
theorem mayRc : mayE (farmS 10) askRc = 9 := mayE_late farmV (reqE_ok fieldC askRc_ok (by decide)) (by decide)
theorem farm_few : ¬ ((farmS 10).Books.length = 12 ∨ (farmS 10).Next = 1048576) := by
  show ¬ ((2 : Nat) = 12 ∨ (6 : Int) = 1048576); decide
def farmB3 : List Book := farmB ++ [⟨6, askRa, [⟨0, 16⟩, ⟨1, 18⟩]⟩]
theorem subFa : submitR (farmS 10) askRa = (⟨5, 7, fieldL 10 0 6, farmB3⟩, 6, 0) := by
  rw [submitR_ok mayRa farm_few (by rw [placeRa]; decide), placeRa]; rfl
theorem subFb : submitR (farmS 10) askRb = (⟨0, 0, [], []⟩, 0, 8) := submitR_full mayRb farm_few placeRb
theorem subFc : submitR (farmS 10) askRc = (⟨0, 0, [], []⟩, 0, 9) := by rw [submitR_bad (by rw [mayRc]; decide), mayRc]; rfl
theorem canF : cancelR (farmS 10) 1 = (⟨5, 6, fieldL 10 0 6, [⟨4, ⟨2, 3, 48, 2, [⟨6, 4⟩]⟩, [⟨0, 9⟩]⟩]⟩, 0) := by
  have h : idxOf (isId 1) farmB = ((0 : Nat) : Int) := by unfold idxOf; decide +kernel
  have h2 := findB_is (s := farmS 10) (id := 1) farmV (by show 0 ≤ idxOf (isId 1) farmB; rw [h]; decide)
  exact cancelR_ok (k := 0) (h2.trans (by show (idxOf (isId 1) farmB, (0 : Int)) = _; rw [h]))
theorem stayF : stayB 15 farmB = [⟨1, plotR 3, [⟨0, 8⟩, ⟨1, 13⟩]⟩] := by
  obtain ⟨_, _, _, hb⟩ := booksE_zero (farm_books fieldC)
  have h1 := late_is (hb ⟨1, plotR 3, [⟨0, 8⟩, ⟨1, 13⟩]⟩ (by simp [farmB])) 15
  have h2 := late_is (hb ⟨4, ⟨2, 3, 48, 2, [⟨6, 4⟩]⟩, [⟨0, 9⟩]⟩ (by simp [farmB])) 15
  rw [show maxTo (overA (⟨1, plotR 3, [⟨0, 8⟩, ⟨1, 13⟩]⟩ : Book).Req (⟨1, plotR 3, [⟨0, 8⟩, ⟨1, 13⟩]⟩ : Book).Bites) ((⟨1, plotR 3, [⟨0, 8⟩, ⟨1, 13⟩]⟩ : Book).Bites.length - 1) = 18 by decide +kernel] at h1
  rw [show maxTo (overA (⟨4, ⟨2, 3, 48, 2, [⟨6, 4⟩]⟩, [⟨0, 9⟩]⟩ : Book).Req (⟨4, ⟨2, 3, 48, 2, [⟨6, 4⟩]⟩, [⟨0, 9⟩]⟩ : Book).Bites) ((⟨4, ⟨2, 3, 48, 2, [⟨6, 4⟩]⟩, [⟨0, 9⟩]⟩ : Book).Bites.length - 1) = 15 by decide +kernel] at h2
  unfold stayB farmB
  rw [List.filter_cons, List.filter_cons, h1, h2]
  rfl
theorem tickF : tickR (farmS 10) 15 = (⟨15, 6, fieldL 10 0 6, [⟨1, plotR 3, [⟨0, 8⟩, ⟨1, 13⟩]⟩]⟩, 1, 0) := by
  rw [tickR_ok farmV (by decide) (by show ¬ (15 : Int) < 5; decide)]
  show (State.mk 15 6 (fieldL 10 0 6) (stayB 15 farmB), (farmB.length : Int) - ((stayB 15 farmB).length : Int), (0 : Int)) = _
  rw [stayF]; rfl
theorem tickF4 : tickR (farmS 10) 4 = (⟨0, 0, [], []⟩, 0, 9) := tickR_late farmV (by decide) (by show (4 : Int) < 5; decide)

theorem Submit_is {w : World} {tv bv pv : Value} {c n : Int} {l : List Queue} {b : List Book} {r : Request} {c' n' : Int} {l' : List Queue} {b' : List Book} {k e : Int} (h : submitR ⟨c, n, l, b⟩ r = (⟨c', n', l', b'⟩, k, e)) (hl : QueuesV w tv l) (hb : BooksV w bv b) (hp : PiecesV w pv r.Pieces) (hI : I64 r.Queue ∧ I64 r.From ∧ I64 r.Until ∧ I64 r.Kind) :
    Calls Try.prog 21 #[.agg #[.int .i64 c, .int .i64 n, tv, bv], .agg #[.int .i64 r.Queue, .int .i64 r.From, .int .i64 r.Until, .int .i64 r.Kind, pv]] w fun x w' => ∃ u v, x = .returned (.tuple #[.agg #[.int .i64 c', .int .i64 n', u, v], .int .i64 k, .int .i64 e]) ∧ QueuesV w' u l' ∧ BooksV w' v b' ∧ Ext w w' := by
  have := Submit_any w tv bv pv ⟨c, n, l, b⟩ r hl hb hp hI; rw [h] at this; exact ret3_parts this
theorem Cancel_is {w : World} {tv bv : Value} {c n id : Int} {l : List Queue} {b : List Book} {c' n' : Int} {l' : List Queue} {b' : List Book} {e : Int} (h : cancelR ⟨c, n, l, b⟩ id = (⟨c', n', l', b'⟩, e)) (hl : QueuesV w tv l) (hb : BooksV w bv b) :
    Calls Try.prog 25 #[.agg #[.int .i64 c, .int .i64 n, tv, bv], .int .i64 id] w fun x w' => ∃ u v, x = .returned (.tuple #[.agg #[.int .i64 c', .int .i64 n', u, v], .int .i64 e]) ∧ QueuesV w' u l' ∧ BooksV w' v b' ∧ Ext w w' := by
  have := Cancel_any w tv bv ⟨c, n, l, b⟩ id hl hb; rw [h] at this; exact ret2_parts this
theorem Tick_is {w : World} {tv bv : Value} {c n t : Int} {l : List Queue} {b : List Book} {c' n' : Int} {l' : List Queue} {b' : List Book} {k e : Int} (h : tickR ⟨c, n, l, b⟩ t = (⟨c', n', l', b'⟩, k, e)) (hl : QueuesV w tv l) (hb : BooksV w bv b) :
    Calls Try.prog 29 #[.agg #[.int .i64 c, .int .i64 n, tv, bv], .int .i64 t] w fun x w' => ∃ u v, x = .returned (.tuple #[.agg #[.int .i64 c', .int .i64 n', u, v], .int .i64 k, .int .i64 e]) ∧ QueuesV w' u l' ∧ BooksV w' v b' ∧ Ext w w' := by
  have := Tick_any w tv bv ⟨c, n, l, b⟩ t hl hb; rw [h] at this; exact ret3_parts this
theorem piece_i64 {l : List Piece} (h : ∀ x ∈ l, (0 ≤ x.Len ∧ x.Len < 1000) ∧ 0 ≤ x.N ∧ x.N < 1000) : ∀ x ∈ l, I64 x.Len ∧ I64 x.N :=
  fun x hx => ⟨i64_small' (by have := (h x hx).1.1; omega) (by have := (h x hx).1.2; omega), i64_small' (by have := (h x hx).2.1; omega) (by have := (h x hx).2.2; omega)⟩

/-- the bites of the third of the told books -/
theorem third_bites {w : World} {v : Value} {l : List Book} {x : Book} (hv : BooksV w v l) (h : l[2]? = some x) :
    ∃ b off cap bv, v = .slice (some ⟨b, off, none⟩) l.length cap ∧ l.length ≤ cap ∧ cap ≤ 9223372036854775807 ∧ b < w.heap.size ∧ w.cell? ⟨b, off + 20, none⟩ = some bv ∧ BitesV w bv x.Bites := by
  obtain ⟨a, cap, rfl, h1, h2, _, h4⟩ := books_at hv
  obtain ⟨b, off, rfl, hb, hE⟩ := h4 (by have := (List.getElem?_eq_some_iff.1 h).1; omega)
  obtain ⟨cs, ⟨qs, bv, rfl, hq, hbv, _⟩, hc⟩ := hE 2 x h
  obtain ⟨pv, rfl, _⟩ := hq
  exact ⟨b, off, cap, bv, rfl, h1, h2, hb, hc 6 bv rfl, hbv⟩

set_option maxRecDepth 100000 in
set_option maxHeartbeats 4000000 in
theorem bookBegun_true (w : World) : Calls Try.prog 23 #[] w fun e w' => e = .returned (.bool true) ∧ Ext w w' := by
  have hv10 : I64 (10 : Int) := i64_small' (by decide) (by decide)
  have PA := hid (fun (W : World) => pieces_lit (w := W) (t := 83) [⟨2, 2⟩, ⟨2, 8⟩] rfl rfl rfl (by decide) (piece_i64 (by decide)))
  have PB := hid (fun (W : World) => pieces_lit (w := W) (t := 83) [⟨2, 5⟩] rfl rfl rfl (by decide) (piece_i64 (by decide)))
  have IA : I64 askRa.Queue ∧ I64 askRa.From ∧ I64 askRa.Until ∧ I64 askRa.Kind := ⟨i64_small' (by decide) (by decide), i64_small' (by decide) (by decide), i64_small' (by decide) (by decide), i64_small' (by decide) (by decide)⟩
  have IB : I64 askRb.Queue ∧ I64 askRb.From ∧ I64 askRb.Until ∧ I64 askRb.Kind := ⟨i64_small' (by decide) (by decide), i64_small' (by decide) (by decide), i64_small' (by decide) (by decide), i64_small' (by decide) (by decide)⟩
  have IC : I64 askRc.Queue ∧ I64 askRc.From ∧ I64 askRc.Until ∧ I64 askRc.Kind := ⟨i64_small' (by decide) (by decide), i64_small' (by decide) (by decide), i64_small' (by decide) (by decide), i64_small' (by decide) (by decide)⟩
  go_enter Try.func23, Try.ntmps23
  go_wp2_with fail
  refine (farm_any _).mono ?_
  rintro e w1 ⟨F1, G1, p1, q1, r1, s1, rfl, _, FA, hx1⟩
  have HA := hid FA
  have X1 := hid hx1
  clear FA hx1
  go_wp2_with fail
  have AL := (Ext.rf w1).al (.cells #[.int .i64 2, .int .i64 2, .int .i64 2, .int .i64 8] 83)
  have C := hid (Submit_is subFa ((HA.out.ext AL).tree hv10) (HA.out.ext AL).books (PA.out w1) IA)
  have X1' := hid (X1.out.tr AL)
  clear AL HA X1
  refine C.out.mono ?_
  rintro e va ⟨u, v, rfl, hu, hv, hx⟩
  obtain ⟨tb, ofs, vca, sv, h, _, _, htb, hc3, hbv⟩ := third_bites hv (x := ⟨6, askRa, [⟨0, 16⟩, ⟨1, 18⟩]⟩) rfl
  have h' : v = .slice (some ⟨tb, ofs, none⟩) 3 vca := h
  clear h; subst h'
  have HC3 := hid hc3
  have HBV := hid hbv
  clear hc3 hbv
  obtain ⟨uaa, uca, h, _, _, _⟩ := hu.form
  have h' : u = .slice uaa 4 uca := h
  clear h; subst h'
  have hal := (Ext.rf va).al (.cells #[.int .i64 5, .int .i64 7, .slice uaa 4 uca, .slice (some ⟨tb, ofs, none⟩) 3 vca] 25)
  have HBa := hid (fun (V : World) (h : Ext (va.alloc (.cells #[.int .i64 5, .int .i64 7, .slice uaa 4 uca, .slice (some ⟨tb, ofs, none⟩) 3 vca] 25)) V) => newState h)
  have HVa := hid hv
  have Xa := hid (X1'.out.tr hx)
  have Ya := hid (Xa.out.tr hal)
  clear C X1' hx hu hv hal
  go_wp2_with fail
  refine (farm_any _).mono ?_
  rintro e wb ⟨Fb, Gb, pb, qb, rb, sb, rfl, _, FA, hxb⟩
  have HA := hid FA
  have Zb := hid (Ya.out.tr hxb)
  have Qb := hid hxb
  clear FA hxb
  go_wp2_with fail
  have AL := (Ext.rf wb).al (.cells #[.int .i64 2, .int .i64 5] 83)
  have C := hid (Submit_is subFc ((HA.out.ext AL).tree hv10) (HA.out.ext AL).books (PB.out wb) IC)
  have Zb' := hid (Zb.out.tr AL)
  have Qb' := hid (Qb.out.tr AL)
  clear AL HA Zb Qb
  refine C.out.mono ?_
  rintro e vb ⟨u, v, rfl, hu, hv, hx⟩
  obtain ⟨vab, vcb, h, _, _, _⟩ := hv.form
  have h' : v = .slice vab 0 vcb := h
  clear h; subst h'
  obtain ⟨uab, ucb, h, _, _, _⟩ := hu.form
  have h' : u = .slice uab 0 ucb := h
  clear h; subst h'
  have hal := (Ext.rf vb).al (.cells #[.int .i64 0, .int .i64 0, .slice uab 0 ucb, .slice vab 0 vcb] 25)
  have HBb := hid (fun (V : World) (h : Ext (vb.alloc (.cells #[.int .i64 0, .int .i64 0, .slice uab 0 ucb, .slice vab 0 vcb] 25)) V) => newState h)
  have HVb := hid hv
  have Xb := hid (Zb'.out.tr hx)
  have Yb := hid (Xb.out.tr hal)
  have Kb := hid (Qb'.out.tr (hx.tr hal))
  clear C Zb' hx hu hv hal
  go_wp2_with fail
  refine (farm_any _).mono ?_
  rintro e wc ⟨Fc, Gc, pc, qc, rc, sc, rfl, _, FA, hxc⟩
  have HA := hid FA
  have Zc := hid (Yb.out.tr hxc)
  have Qc := hid hxc
  clear FA hxc
  go_wp2_with fail
  have AL := (Ext.rf wc).al (.cells #[.int .i64 2, .int .i64 5] 83)
  have C := hid (Submit_is subFb ((HA.out.ext AL).tree hv10) (HA.out.ext AL).books (PB.out wc) IB)
  have Zc' := hid (Zc.out.tr AL)
  have Qc' := hid (Qc.out.tr AL)
  clear AL HA Zc Qc
  refine C.out.mono ?_
  rintro e vc ⟨u, v, rfl, hu, hv, hx⟩
  obtain ⟨vac, vcc, h, _, _, _⟩ := hv.form
  have h' : v = .slice vac 0 vcc := h
  clear h; subst h'
  obtain ⟨uac, ucc, h, _, _, _⟩ := hu.form
  have h' : u = .slice uac 0 ucc := h
  clear h; subst h'
  have hal := (Ext.rf vc).al (.cells #[.int .i64 0, .int .i64 0, .slice uac 0 ucc, .slice vac 0 vcc] 25)
  have HBc := hid (fun (V : World) (h : Ext (vc.alloc (.cells #[.int .i64 0, .int .i64 0, .slice uac 0 ucc, .slice vac 0 vcc] 25)) V) => newState h)
  have HVc := hid hv
  have Xc := hid (Zc'.out.tr hx)
  have Yc := hid (Xc.out.tr hal)
  have Kc := hid (Qc'.out.tr (hx.tr hal))
  clear C Zc' hx hu hv hal
  go_wp2_with fail
  refine (farm_any _).mono ?_
  rintro e wd ⟨Fd, Gd, pd, qd, rd, sd, rfl, _, FA, hxd⟩
  have C := hid (Cancel_is canF (FA.tree hv10) FA.books)
  have Zd := hid (Yc.out.tr hxd)
  have Qd := hid hxd
  clear FA hxd
  go_wp2_with fail
  refine C.out.mono ?_
  rintro e vd ⟨u, v, rfl, hu, hv, hx⟩
  obtain ⟨vad, vcd, h, _, _, _⟩ := hv.form
  have h' : v = .slice vad 1 vcd := h
  clear h; subst h'
  obtain ⟨uad, ucd, h, _, _, _⟩ := hu.form
  have h' : u = .slice uad 4 ucd := h
  clear h; subst h'
  have hal := (Ext.rf vd).al (.cells #[.int .i64 5, .int .i64 6, .slice uad 4 ucd, .slice vad 1 vcd] 25)
  have HBd := hid (fun (V : World) (h : Ext (vd.alloc (.cells #[.int .i64 5, .int .i64 6, .slice uad 4 ucd, .slice vad 1 vcd] 25)) V) => newState h)
  have HVd := hid hv
  have Xd := hid (Zd.out.tr hx)
  have Yd := hid (Xd.out.tr hal)
  have Kd := hid (Qd.out.tr (hx.tr hal))
  clear C Zd hx hu hv hal
  go_wp2_with fail
  refine (farm_any _).mono ?_
  rintro e we ⟨Fe, Ge, pe, qe, re, se, rfl, _, FA, hxe⟩
  have C := hid (Tick_is tickF (FA.tree hv10) FA.books)
  have Ze := hid (Yd.out.tr hxe)
  have Qe := hid hxe
  clear FA hxe
  go_wp2_with fail
  refine C.out.mono ?_
  rintro e ve ⟨u, v, rfl, hu, hv, hx⟩
  obtain ⟨vae, vce, h, _, _, _⟩ := hv.form
  have h' : v = .slice vae 1 vce := h
  clear h; subst h'
  obtain ⟨uae, uce, h, _, _, _⟩ := hu.form
  have h' : u = .slice uae 4 uce := h
  clear h; subst h'
  have hal := (Ext.rf ve).al (.cells #[.int .i64 15, .int .i64 6, .slice uae 4 uce, .slice vae 1 vce] 25)
  have HBe := hid (fun (V : World) (h : Ext (ve.alloc (.cells #[.int .i64 15, .int .i64 6, .slice uae 4 uce, .slice vae 1 vce] 25)) V) => newState h)
  have HVe := hid hv
  have Xe := hid (Ze.out.tr hx)
  have Ye := hid (Xe.out.tr hal)
  have Ke := hid (Qe.out.tr (hx.tr hal))
  clear C Ze hx hu hv hal
  go_wp2_with fail
  refine (farm_any _).mono ?_
  rintro e wf ⟨Ff, Gf, pf, qf, rf, sf, rfl, _, FA, hxf⟩
  have C := hid (Tick_is tickF4 (FA.tree hv10) FA.books)
  have Zf := hid (Ye.out.tr hxf)
  have Qf := hid hxf
  clear FA hxf
  go_wp2_with fail
  refine C.out.mono ?_
  rintro e vf ⟨u, v, rfl, hu, hv, hx⟩
  obtain ⟨vaf, vcf, h, _, _, _⟩ := hv.form
  have h' : v = .slice vaf 0 vcf := h
  clear h; subst h'
  obtain ⟨uaf, ucf, h, _, _, _⟩ := hu.form
  have h' : u = .slice uaf 0 ucf := h
  clear h; subst h'
  have hal := (Ext.rf vf).al (.cells #[.int .i64 0, .int .i64 0, .slice uaf 0 ucf, .slice vaf 0 vcf] 25)
  have HBf := hid (fun (V : World) (h : Ext (vf.alloc (.cells #[.int .i64 0, .int .i64 0, .slice uaf 0 ucf, .slice vaf 0 vcf] 25)) V) => newState h)
  have HVf := hid hv
  have Xf := hid (Zf.out.tr hx)
  have Yf := hid (Xf.out.tr hal)
  have Kf := hid (Qf.out.tr (hx.tr hal))
  clear C Zf hx hu hv hal
  obtain ⟨a0, a1, a2, a3⟩ := HBa.out _ (Kb.out.tr (Kc.out.tr (Kd.out.tr (Ke.out.tr Kf.out))))
  have XZ := hid (((Ext.rf va).al (.cells #[.int .i64 5, .int .i64 7, .slice uaa 4 uca, .slice (some ⟨tb, ofs, none⟩) 3 vca] 25)).tr (Kb.out.tr (Kc.out.tr (Kd.out.tr (Ke.out.tr Kf.out)))))
  have t0 := XZ.out.ce' HC3.out
  go_wp2_with fail
  have al := (Ext.rf (vf.alloc (.cells #[.int .i64 0, .int .i64 0, .slice uaf 0 ucf, .slice vaf 0 vcf] 25))).al (.cells #[.int .i64 0, .int .i64 16, .int .i64 1, .int .i64 18] 54)
  have hsz : vf.heap.size + 1 = (vf.alloc (.cells #[.int .i64 0, .int .i64 0, .slice uaf 0 ucf, .slice vaf 0 vcf] 25)).heap.size := (World.size_alloc _ _).symm
  refine (sameBites_yes (HBV.out.mono (XZ.tr al)) (bites_lit [⟨0, 16⟩, ⟨1, 18⟩] hsz rfl rfl (by decide) (by decide))).mono ?_
  rintro e z ⟨rfl, hz⟩
  have HZ := hid (Yf.out.tr (al.tr hz))
  have g1 := HBd.out z (Ke.out.tr (Kf.out.tr (al.tr hz)))
  have g2 := HBe.out z (Kf.out.tr (al.tr hz))
  obtain ⟨d0, d1, d2, d3⟩ := g1
  obtain ⟨e0, e1, e2, e3⟩ := g2
  clear al hsz hz XZ
  go_wp2_with fail
  go_ret
  exact ⟨rfl, HZ.out⟩

end Go.Proofs.Ytfbcmifclaaacaa
