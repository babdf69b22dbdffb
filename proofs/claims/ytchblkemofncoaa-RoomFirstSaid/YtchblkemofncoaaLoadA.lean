/- Walk of load.Check. -/
import Derived.Test.YtchblkemofncoaaReqB
import Derived.Test.YtchblkemofncoaaReqC
set_option linter.unusedVariables false
namespace Go.Proofs.Ytchblkemofncoaa
open Go.RowKit

theorem ebook_cells {w : World} {b o : Nat} {x : Book} (h : EBook w b o x) : ∃ pv bv, w.cell? ⟨b, o, none⟩ = some (.int .i64 x.Id) ∧ w.cell? ⟨b, o + 1, none⟩ = some (.int .i64 x.Req.Queue) ∧ w.cell? ⟨b, o + 2, none⟩ = some (.int .i64 x.Req.From) ∧ w.cell? ⟨b, o + 3, none⟩ = some (.int .i64 x.Req.Until) ∧ w.cell? ⟨b, o + 4, none⟩ = some (.int .i64 x.Req.Kind) ∧ w.cell? ⟨b, o + 5, none⟩ = some pv ∧ w.cell? ⟨b, o + 6, none⟩ = some bv ∧ PiecesV w pv x.Req.Pieces ∧ BitesV w bv x.Bites := by
  obtain ⟨cs, ⟨qs, bv, rfl, ⟨pv, rfl, h1, _⟩, h2, _⟩, hc⟩ := h
  exact ⟨pv, bv, hc 0 _ rfl, hc 1 _ rfl, hc 2 _ rfl, hc 3 _ rfl, hc 4 _ rfl, hc 5 _ rfl, hc 6 _ rfl, h1, h2⟩

/-- the first error of books -/
noncomputable def firstE (l : List Queue) : List Book → Int
  | [] => 0
  | x :: b => if reqE l x.Req ≠ 0 then reqE l x.Req else if meetsR x.Req x.Bites = true then firstE l b else 1
@[irreducible] noncomputable def booksE (l : List Queue) (b : List Book) : Int := if checkT l ≠ 0 then checkT l else if 12 < b.length then 2 else firstE l b
theorem booksE_tree {l : List Queue} {b : List Book} (h : checkT l ≠ 0) : booksE l b = checkT l := by unfold booksE; rw [if_pos h]
theorem booksE_many {l : List Queue} {b : List Book} (h : checkT l = 0) (h2 : 12 < b.length) : booksE l b = 2 := by unfold booksE; rw [if_neg (fun h' => h' h), if_pos h2]
theorem booksE_first {l : List Queue} {b : List Book} (h : checkT l = 0) (h2 : ¬ 12 < b.length) : booksE l b = firstE l b := by unfold booksE; rw [if_neg (fun h' => h' h), if_neg h2]
theorem firstE_bad {l : List Queue} {x : Book} {b : List Book} (h : reqE l x.Req ≠ 0) : firstE l (x :: b) = reqE l x.Req := by rw [firstE, if_pos h]
theorem firstE_form {l : List Queue} {x : Book} {b : List Book} (h : reqE l x.Req = 0) (h2 : meetsR x.Req x.Bites = false) : firstE l (x :: b) = 1 := by rw [firstE, if_neg (fun h' => h' h), if_neg (by rw [h2]; decide)]
theorem firstE_ok {l : List Queue} {x : Book} {b : List Book} (h : reqE l x.Req = 0) (h2 : meetsR x.Req x.Bites = true) : firstE l (x :: b) = firstE l b := by rw [firstE, if_neg (fun h' => h' h), if_pos h2]

theorem drop_get {α : Type} {b : List α} {k : Nat} {x : α} (h : b[k]? = some x) : b.drop k = x :: b.drop (k + 1) := by
  obtain ⟨hk, e⟩ := List.getElem?_eq_some_iff.1 h
  rw [List.drop_eq_getElem_cons hk, e]

theorem books_at {w : World} {v : Value} {l : List Book} (hv : BooksV w v l) : ∃ a cap, v = .slice a l.length cap ∧ l.length ≤ cap ∧ cap ≤ 9223372036854775807 ∧ l.length ≤ 17592186044416 ∧
    (1 ≤ l.length → ∃ b off, a = some ⟨b, off, none⟩ ∧ b < w.heap.size ∧ ∀ k x, l[k]? = some x → EBook w b (off + k * 7) x) := by
  rcases hv with ⟨rfl, a, cap, rfl, h⟩ | ⟨b, off, cap, rfl, h1, h2, h3, h4, h5⟩
  · exact ⟨a, cap, rfl, by simp, h, by simp, fun h => by simp at h⟩
  · exact ⟨_, cap, rfl, h1, h2, h3, fun _ => ⟨b, off, rfl, h4, h5⟩⟩

/-- a boxed book, later on -/
theorem bookCells {w W : World} {a b c d e f g : Value} {t : TypeId} (hx : Ext (w.alloc (.cells #[a, b, c, d, e, f, g] t)) W) :
    W.cell? ⟨w.heap.size, 1, none⟩ = some b ∧ W.cell? ⟨w.heap.size, 2, none⟩ = some c ∧ W.cell? ⟨w.heap.size, 3, none⟩ = some d ∧ W.cell? ⟨w.heap.size, 4, none⟩ = some e ∧ W.cell? ⟨w.heap.size, 5, none⟩ = some f ∧ W.cell? ⟨w.heap.size, 6, none⟩ = some g := by
  have h := heap_alloc_new w (.cells #[a, b, c, d, e, f, g] t)
  have k : ∀ j v, (#[a, b, c, d, e, f, g] : Array Value)[j]? = some v → W.cell? ⟨w.heap.size, j, none⟩ = some v := fun j v hv => hx.ce' (by rw [cell_of_row _ _ _ _ _ _ h]; exact hv)
  exact ⟨k 1 _ rfl, k 2 _ rfl, k 3 _ rfl, k 4 _ rfl, k 5 _ rfl, k 6 _ rfl⟩

set_option maxRecDepth 100000 in
set_option maxHeartbeats 4000000 in
theorem loadCheck_any (w : World) (v bv : Value) (l : List Queue) (b : List Book) (hl : QueuesV w v l) (hb : BooksV w bv b) :
    Calls Try.prog 126 #[v, bv] w fun e w' => e = .returned (.int .i64 (booksE l b)) ∧ Ext w w' := by
  have T := hid (treeCheck_any w v l hl)
  have Q := hid (fun (W : World) (pv : Value) (r : Request) (h : Ext w W) (hp : PiecesV W pv r.Pieces) => reqCheck_any W v pv l r (hl.mono h) hp)
  obtain ⟨ba, bc, rfl, hbc, hbc9, hbl, hbE⟩ := books_at hb
  obtain ⟨qa, qc, rfl, _, _, _⟩ := hl.form
  have HBE := hid hbE
  by_cases h0 : checkT l = 0
  · rw [h0] at T
    by_cases h12 : 12 < b.length
    · have hR := hid (booksE_many h0 h12)
      have h12' : (12 : Int) < (b.length : Int) := by omega
      clear hl hb hbE h0 h12 Q HBE
      generalize l.length = ln at *
      generalize b.length = bn at *
      go_enter Try.func126, Try.ntmps126
      go_wp2_with fail
      refine T.out.mono ?_
      rintro e w1 ⟨rfl, hx1⟩
      go_wp2_with fail
      go_ret
      exact ⟨ret_int hR.out.symm, hx1⟩
    · have hR := booksE_first h0 h12
      rw [hR]
      have h12' : ¬ (12 : Int) < (b.length : Int) := by omega
      obtain ⟨R, hRr⟩ : ∃ R, firstE l b = R := ⟨_, rfl⟩
      have HR := hid hRr
      rw [hRr]
      have H0 := hid (show firstE l [] = 0 from rfl)
      clear hl hb hbE h0 h12 hR hRr
      generalize l.length = ln at *
      generalize hzz : b.length = z at *
      have Hz := hid hzz
      clear hzz
      go_enter Try.func126, Try.ntmps126
      go_wp2_with fail
      refine T.out.mono ?_
      rintro e w1 ⟨rfl, hx1⟩
      go_wp2_with fail
      go_loopw [19] (fun c wr => ∃ k : Nat, c = .int .i64 k ∧ k ≤ z ∧ Hid (firstE l (b.drop k) = R) ∧ Ext w wr) (fun c _ => z - (intOf c).toNat)
      case atStart => exact ⟨0, rfl, by omega, HR, hx1⟩
      case round =>
        obtain ⟨k, rfl, hk, Hg, hx⟩ := hrel
        by_cases hlt : k < z
        · have hlt' : (k : Int) < (z : Int) := by omega
          obtain ⟨x, hxk⟩ := getA (f := b) (k := k) (by rw [Hz.out]; exact hlt)
          obtain ⟨bb, bo, rfl, hbb, hE⟩ := HBE.out (by omega)
          obtain ⟨pv, bv, c0, c1, c2, c3, c4, c5, c6, hp, hbi⟩ := ebook_cells (EBook.mono w wr bb _ x hx (hE k x hxk))
          have hg := Hg.out
          rw [drop_get hxk] at hg
          have Q1 := hid (fun (W : World) (h : Ext wr W) => Q.out W pv x.Req (hx.tr h) (hp.mono h))
          have M1 := hid (fun (W : World) (h : Ext wr W) => Meets_any W pv bv x.Req x.Bites (hp.mono h) (hbi.mono h))
          obtain ⟨pa, pc, rfl, _, _, _⟩ := hp.form
          obtain ⟨bia, bic, rfl, _, _, _⟩ := hbi.form
          have hal := hid (fun (o : Obj) => (Ext.rf wr).al o)
          by_cases hq : reqE l x.Req = 0
          · rw [hq] at Q1
            cases hm : meetsR x.Req x.Bites with
            | false =>
              rw [hm] at M1
              rw [firstE_form hq hm] at hg
              have HG := hid hg
              clear hg hq hm hxk hE hp hbi Hg
              generalize x.Req.Pieces.length = pn at *
              generalize x.Bites.length = bn at *
              go_wp2_with fail
              refine (Q1.out _ (hal.out _)).mono ?_
              rintro e w2 ⟨rfl, hx2⟩
              obtain ⟨_, _, _, _, _, _⟩ := bookCells hx2
              have hx02 := (hal.out _).tr hx2
              go_wp2_with fail
              refine (M1.out _ hx02).mono ?_
              rintro e w3 ⟨rfl, hx3⟩
              go_wp2_with fail
              go_ret
              exact ⟨ret_int HG.out, hx.tr (hx02.tr hx3)⟩
            | true =>
              rw [hm] at M1
              rw [firstE_ok hq hm] at hg
              have HG := hid hg
              clear hg hq hm hxk hE hp hbi Hg
              generalize x.Req.Pieces.length = pn at *
              generalize x.Bites.length = bn at *
              go_wp2_with fail
              refine (Q1.out _ (hal.out _)).mono ?_
              rintro e w2 ⟨rfl, hx2⟩
              obtain ⟨_, _, _, _, _, _⟩ := bookCells hx2
              have hx02 := (hal.out _).tr hx2
              go_wp2_with fail
              refine (M1.out _ hx02).mono ?_
              rintro e w3 ⟨rfl, hx3⟩
              go_wp2_with fail
              go_roundw
              case rel => exact ⟨k + 1, by go_num, by omega, HG, hx.tr (hx02.tr hx3)⟩
              case measure => simp [intOf]; omega
          · rw [firstE_bad hq] at hg
            have HG := hid hg
            have hne := neT hq
            clear hg hq hxk hE hp hbi Hg M1
            generalize reqE l x.Req = re at *
            generalize x.Req.Pieces.length = pn at *
            generalize x.Bites.length = bn at *
            go_wp2_with fail
            refine (Q1.out _ (hal.out _)).mono ?_
            rintro e w2 ⟨rfl, hx2⟩
            have hx02 := (hal.out _).tr hx2
            go_wp2_with fail
            go_ret
            exact ⟨ret_int HG.out, hx.tr hx02⟩
        · obtain rfl : k = z := by omega
          have hlt' : ¬ (k : Int) < (k : Int) := by omega
          have hg := Hg.out
          rw [List.drop_of_length_le (by rw [Hz.out]; exact Nat.le_refl _), H0.out] at hg
          have HG := hid hg
          clear hg
          go_wp2_with fail
          go_ret
          exact ⟨ret_int HG.out, hx⟩
  · have hR := hid (booksE_tree (b := b) h0)
    have hne := neT h0
    clear hl hb hbE h0 Q HBE
    generalize checkT l = ce at *
    generalize l.length = ln at *
    generalize b.length = bn at *
    go_enter Try.func126, Try.ntmps126
    go_wp2_with fail
    refine T.out.mono ?_
    rintro e w1 ⟨rfl, hx1⟩
    go_wp2_with fail
    go_ret
    exact ⟨ret_int hR.out.symm, hx1⟩

end Go.Proofs.Ytchblkemofncoaa
