/- Walk of load.Of; the reference's CheckBooks. -/
import Derived.Test.YtoclbapkgfmphaaLoadD
import Derived.Test.YtoclbapkgfmphaaReqG
set_option linter.unusedVariables false
namespace Go.Proofs.Ytoclbapkgfmphaa
open Go.RowKit

/-- what is taken of all queues -/
def loadsL (l : List Queue) (b : List Book) : List (List Run) := (List.range l.length).map fun k => fold (takenT l b k)
/-- and an error -/
@[irreducible] noncomputable def loadsR (l : List Queue) (b : List Book) : List (List Run) × Int := if booksE l b = 0 then (loadsL l b, 0) else ([], booksE l b)
theorem loadsR_bad {l : List Queue} {b : List Book} (h : booksE l b ≠ 0) : loadsR l b = ([], booksE l b) := by unfold loadsR; rw [if_neg h]
theorem loadsR_ok {l : List Queue} {b : List Book} (h : booksE l b = 0) : loadsR l b = (loadsL l b, 0) := by unfold loadsR; rw [if_pos h]
def RetLoads2 (w : World) (r : List (List Run) × Int) (e : Ending) (w' : World) : Prop := ∃ v, e = .returned (.tuple #[v, .int .i64 r.2]) ∧ LoadsV w' v r.1 ∧ Ext w w'
theorem retLoads2_of {w w' : World} {r : List (List Run) × Int} {l : List (List Run)} {n : Int} {v : Value} (h : r = (l, n)) (hv : LoadsV w' v l) (hx : Ext w w') : RetLoads2 w r (.returned (.tuple #[v, .int .i64 n])) w' := by
  subst h; exact ⟨v, rfl, hv, hx⟩

set_option maxRecDepth 100000 in
set_option maxHeartbeats 2000000 in
theorem LoadOf_go (w : World) (v bv : Value) (l : List Queue) (b : List Book) (hl : QueuesV w v l) (hb : BooksV w bv b) :
    Calls Try.prog 11 #[v, bv] w (RetLoads2 w (loadsR l b)) := by
  have C := hid (loadCheck_any w v bv l b hl hb)
  by_cases h : booksE l b = 0
  · obtain ⟨ok, _, h12, hbok⟩ := booksE_zero h
    rw [h] at C
    have Hr := hid (loadsR_ok h)
    have I := hid (fun (W : World) (hx : Ext w W) => show Calls Try.prog 45 #[v, bv] W (fun e w' => ∃ u, e = .returned u ∧ LoadsV w' u (loadsL l b) ∧ Ext W w') from Taken_any W v bv l b (hl.mono hx) (hb.mono hx) ok.pars ok.n5 hbok h12 ok.n1)
    obtain ⟨a, cap, rfl, _, _, hl5⟩ := hl.form
    obtain ⟨ba, bc, rfl, _, _, _⟩ := hb.form
    clear hl hb h ok hbok
    generalize l.length = n at *
    generalize b.length = z at *
    go_enter Try.func11, Try.ntmps11
    go_wp2_with fail
    refine C.out.mono ?_
    rintro e w1 ⟨rfl, hx⟩
    go_wp2_with fail
    refine (I.out _ hx).mono ?_
    rintro e w2 ⟨u, rfl, hu, hx2⟩
    obtain ⟨ua, uc, rfl, _, _, _⟩ := hu.form
    go_wp2_with fail
    go_ret2
    refine retLoads2_of Hr.out ?_ (hx.tr hx2)
    exact hu
  · have Hr := hid (loadsR_bad h)
    have hne := neT h
    obtain ⟨a, cap, rfl, _, _, hl5⟩ := hl.form
    obtain ⟨ba, bc, rfl, _, _, _⟩ := hb.form
    clear hl hb h
    generalize booksE l b = be at *
    generalize l.length = n at *
    generalize b.length = z at *
    go_enter Try.func11, Try.ntmps11
    go_wp2_with fail
    refine C.out.mono ?_
    rintro e w1 ⟨rfl, hx⟩
    go_wp2_with fail
    go_ret2
    exact retLoads2_of Hr.out SV.nil hx

set_option maxRecDepth 100000 in
set_option maxHeartbeats 4000000 in
theorem CheckBooks_any (w : World) (v bv : Value) (l : List Queue) (b : List Book) (hl : QueuesV w v l) (hb : BooksV w bv b) :
    Calls Try.prog 13 #[v, bv] w fun e w' => e = .returned (.int .i64 (booksE l b)) ∧ Ext w w' := by
  have T := hid (CheckTree_any w v l hl)
  have Q := hid (fun (W : World) (pv : Value) (r : Request) (h : Ext w W) (hp : PiecesV W pv r.Pieces) => CheckReq_any W v pv l r (hl.mono h) hp)
  obtain ⟨ba, bc, rfl, hbc, hbc9, hbl, hbE⟩ := books_at hb
  obtain ⟨qa, qc, rfl, _, _, _⟩ := hl.form
  have HBE := hid hbE
  by_cases h0 : checkT l = 0
  · rw [h0] at T
    by_cases h12 : 12 < b.length
    · have hR := hid (booksE_many h0 h12)
      have h12' : (12 : Int) < (b.length : Int) := by omega
      clear hl hb hbE h0 h12 Q HBE
      generalize l.length = ln at *
      generalize b.length = bn at *
      go_enter Try.func13, Try.ntmps13
      go_wp2_with fail
      refine T.out.mono ?_
      rintro e w1 ⟨rfl, hx1⟩
      go_wp2_with fail
      go_ret
      exact ⟨ret_int hR.out.symm, hx1⟩
    · have hR := booksE_first h0 h12
      rw [hR]
      have h12' : ¬ (12 : Int) < (b.length : Int) := by omega
      obtain ⟨R, hRr⟩ : ∃ R, firstE l b = R := ⟨_, rfl⟩
      have HR := hid hRr
      rw [hRr]
      have H0 := hid (show firstE l [] = 0 from rfl)
      clear hl hb hbE h0 h12 hR hRr
      generalize l.length = ln at *
      generalize hzz : b.length = z at *
      have Hz := hid hzz
      clear hzz
      go_enter Try.func13, Try.ntmps13
      go_wp2_with fail
      refine T.out.mono ?_
      rintro e w1 ⟨rfl, hx1⟩
      go_wp2_with fail
      go_loopw [6] (fun c wr => ∃ k : Nat, c = .int .i64 k ∧ k ≤ z ∧ Hid (firstE l (b.drop k) = R) ∧ Ext w wr) (fun c _ => z - (intOf c).toNat)
      case atStart => exact ⟨0, rfl, by omega, HR, hx1⟩
      case round =>
        obtain ⟨k, rfl, hk, Hg, hx⟩ := hrel
        by_cases hlt : k < z
        · have hlt' : (k : Int) < (z : Int) := by omega
          obtain ⟨x, hxk⟩ := getA (f := b) (k := k) (by rw [Hz.out]; exact hlt)
          obtain ⟨bb, bo, rfl, hbb, hE⟩ := HBE.out (by omega)
          obtain ⟨pv, bv, c0, c1, c2, c3, c4, c5, c6, hp, hbi⟩ := ebook_cells (EBook.mono w wr bb _ x hx (hE k x hxk))
          have hg := Hg.out
          rw [drop_get hxk] at hg
          have Q1 := hid (Q.out wr pv x.Req hx hp)
          have M1 := hid (fun (W : World) (h : Ext wr W) => MeetsOf_any W pv bv x.Req x.Bites (hp.mono h) (hbi.mono h))
          obtain ⟨pa, pc, rfl, _, _, _⟩ := hp.form
          obtain ⟨bia, bic, rfl, _, _, _⟩ := hbi.form
          by_cases hq : reqE l x.Req = 0
          · rw [hq] at Q1
            have HG0 := hid hg
            have HQ := hid hq
            clear hg hq hxk hE hp hbi Hg
            generalize x.Req.Pieces.length = pn at *
            generalize x.Bites.length = bn at *
            go_wp2_with fail
            refine Q1.out.mono ?_
            rintro e w2 ⟨rfl, hx2⟩
            replace c1 := fun p : Later w2 => p.cell (hx2.ce' c1)
            replace c2 := fun p : Later w2 => p.cell (hx2.ce' c2)
            replace c3 := fun p : Later w2 => p.cell (hx2.ce' c3)
            replace c4 := fun p : Later w2 => p.cell (hx2.ce' c4)
            replace c5 := fun p : Later w2 => p.cell (hx2.ce' c5)
            replace c6 := fun p : Later w2 => p.cell (hx2.ce' c6)
            clear c0
            have ML := hid (fun p : Later w2 => later_of p (M1.out p.v (hx2.tr p.h)))
            have HX2 := hid (hx.tr hx2)
            clear hx2 M1 Q1 Q T
            go_wp2_with fail
            refine region_later (by kernel_rfl) (by kernel_rfl) ?_
            repeat (go_big_quiet_step (with_reducible exact ML.out _))
            refine wpQuiet_nil ?_
            rintro w' ⟨p, rfl⟩
            have HX3 := hid (HX2.out.tr p.h)
            clear ML c1 c2 c3 c4 c5 c6
            generalize p.v = W3 at *
            cases hm : meetsR x.Req x.Bites with
            | false =>
              have hg := HG0.out
              rw [firstE_form HQ.out hm] at hg
              have HG := hid hg
              clear hg
              go_wp2_with fail
              go_ret
              exact ⟨ret_int HG.out, HX3.out⟩
            | true =>
              have hg := HG0.out
              rw [firstE_ok HQ.out hm] at hg
              have HG := hid hg
              clear hg
              go_wp2_with fail
              go_roundw
              case rel => exact ⟨k + 1, by go_num, by omega, HG, HX3.out⟩
              case measure => simp [intOf]; omega
          · rw [firstE_bad hq] at hg
            have HG := hid hg
            have hne := neT hq
            clear hg hq hxk hE hp hbi Hg M1
            generalize reqE l x.Req = re at *
            generalize x.Req.Pieces.length = pn at *
            generalize x.Bites.length = bn at *
            go_wp2_with fail
            refine Q1.out.mono ?_
            rintro e w2 ⟨rfl, hx2⟩
            go_wp2_with fail
            go_ret
            exact ⟨ret_int HG.out, hx.tr hx2⟩
        · obtain rfl : k = z := by omega
          have hlt' : ¬ (k : Int) < (k : Int) := by omega
          have hg := Hg.out
          rw [List.drop_of_length_le (by rw [Hz.out]; exact Nat.le_refl _), H0.out] at hg
          have HG := hid hg
          clear hg
          go_wp2_with fail
          go_ret
          exact ⟨ret_int HG.out, hx⟩
  · have hR := hid (booksE_tree (b := b) h0)
    have hne := neT h0
    clear hl hb hbE h0 Q HBE
    generalize checkT l = ce at *
    generalize l.length = ln at *
    generalize b.length = bn at *
    go_enter Try.func13, Try.ntmps13
    go_wp2_with fail
    refine T.out.mono ?_
    rintro e w1 ⟨rfl, hx1⟩
    go_wp2_with fail
    go_ret
    exact ⟨ret_int hR.out.symm, hx1⟩

end Go.Proofs.Ytoclbapkgfmphaa
