/- Queues that a call makes: a row of its own. -/
import Derived.Test.YtdcndkojmflhnaaDoorTextC
import Derived.Maps.Own
import Derived.Deep.AppendLies
import Derived.Test.YtdcndkojmflhnaaDoorTail
set_option linter.unusedVariables false
set_option linter.unusedSimpArgs false
set_option maxRecDepth 100000
set_option maxHeartbeats 4000000
namespace Go.Proofs.YtdcndkojmflhnaaDoor
open Go.RowKit
/-- the value lies apart from the row -/
def ApartT (v : Value) (row : Option Nat) : Prop := ∀ a n c, v = .slice (some a) n c → row ≠ some a.block
theorem svT_apart {α : Type} {f g : α → Int} {W W' : World} {v : Value} {xs : List α} {row : Option Nat} (h : SV 2 (E2 f g) W v xs) (hg : W.grownBy W' row) (ha : ApartT v row) : SV 2 (E2 f g) W' v xs := by
  rcases h with h | ⟨b, off, cap, rfl, h1, h2, h3, h4, h5⟩
  · exact .inl h
  · refine .inr ⟨b, off, cap, rfl, h1, h2, h3, Nat.lt_of_lt_of_le h4 hg.size, fun k x hk => ?_⟩
    have hb := hg.block b h4 (fun e => ha _ _ _ rfl e.symm)
    obtain ⟨c1, c2, c3⟩ := h5 k x hk
    exact ⟨(World.cell?_of_block (a := ⟨b, off + k * 2, none⟩) hb).trans c1, (World.cell?_of_block (a := ⟨b, off + k * 2 + 1, none⟩) hb).trans c2, c3⟩
/-- a slice that was made since -/
def NewT (base : Nat) (w : World) (v : Value) : Prop := ∀ a n c, v = .slice (some a) n c → base ≤ a.block ∧ a.block < w.heap.size
theorem NewT.ext {base : Nat} {w w' : World} {v : Value} (h : NewT base w v) (hx : Ext w w') : NewT base w' v := fun a n c e => ⟨(h a n c e).1, Nat.lt_of_lt_of_le (h a n c e).2 hx.size⟩
def QueueC (w : World) (cs : List Value) (x : Queue) : Prop :=
  ∃ cv, cs = [.string x.Name, .int .i64 x.Parent, cv] ∧ RunsV w cv x.Cap ∧ x.Name.size ≤ 9223372036854775807 ∧ I64 x.Parent
theorem QueueC.mono {w w' : World} {cs : List Value} {x : Queue} (h : QueueC w cs x) (hx : Ext w w') : QueueC w' cs x := by
  obtain ⟨cv, rfl, h1, h2⟩ := h
  exact ⟨cv, rfl, h1.mono hx, h2⟩
theorem QueueC.three {w : World} {cs : List Value} {x : Queue} (h : QueueC w cs x) : cs.length = 3 := by obtain ⟨cv, rfl, _⟩ := h; rfl
theorem QueueC.one {w : World} {cs : List Value} {x : Queue} (h : QueueC w cs x) : ∀ u ∈ cs, u.oneCell' = true := by
  obtain ⟨cv, rfl, hp, _⟩ := h
  obtain ⟨a, c, rfl, _⟩ := hp.form
  simp [Value.oneCell']
theorem QueueC.grown {W W' : World} {cs : List Value} {x : Queue} {row : Option Nat} (h : QueueC W cs x) (hg : W.grownBy W' row) (ha : ∀ u ∈ cs, ApartT u row) : QueueC W' cs x := by
  obtain ⟨cv, rfl, hp, hi⟩ := h
  exact ⟨cv, rfl, svT_apart hp hg (ha _ (by simp)), hi⟩
theorem flat3 {α : Type} : ∀ (css : List (List α)), (∀ cs ∈ css, cs.length = 3) → ∀ k j, j < 3 → css.flatten[k * 3 + j]? = (css[k]?).bind (fun cs => cs[j]?)
  | [], _, k, j, _ => by simp
  | cs :: css, h, k, j, hj => by
    have h1 := h cs (List.mem_cons_self ..)
    rw [List.flatten_cons]
    cases k with
    | zero =>
      rw [Nat.zero_mul, Nat.zero_add, List.getElem?_append_left (by omega)]
      rfl
    | succ k =>
      rw [List.getElem?_append_right (by omega), h1, show (k + 1) * 3 + j - 3 = k * 3 + j by omega, flat3 css (fun c hc => h c (List.mem_cons_of_mem _ hc)) k j hj]
      rfl
/-- the queues that the call owns -/
structure Qs3 (base : Nat) (W : World) (v : Value) (l : List Queue) (css : List (List Value)) : Prop where
  row : W.ownsRow base 41 3 v l.length css.flatten
  len : css.length = l.length
  each : ∀ (k : Nat) (cs : List Value) (x : Queue), css[k]? = some cs → l[k]? = some x → QueueC W cs x
  low : ∀ cs ∈ css, ∀ u ∈ cs, ∀ a n c, u = .slice (some a) n c → a.block < W.heap.size ∧ ∀ g, v.ownBlock = some g → a.block ≠ g
def OwnT (base : Nat) (W : World) (v : Value) (l : List Queue) : Prop := ∃ css, Qs3 base W v l css
theorem OwnT.none (base : Nat) (W : World) : OwnT base W (.slice none 0 0) [] :=
  ⟨[], World.ownsRow_nil _ _ _ _, rfl, fun k cs x h => by simp at h, fun cs h => by simp at h⟩
theorem Qs3.snocC {base g cap : Nat} {W W3 W5 : World} {v : Value} {l : List Queue} {x : Queue} {css : List (List Value)} {cs : List Value} (h : Qs3 base W v l css) (hx : Ext W W3) (hc : QueueC W3 cs x) (hn : ∀ u ∈ cs, NewT W.heap.size W3 u)
    (hown : W5.ownsRow base 41 3 (.slice (some ⟨g, 0, none⟩) (l.length + 1) cap) (l.length + 1) (css.flatten ++ cs)) (hg : W3.grownBy W5 v.ownBlock) (hgg : v.ownBlock = some g ∨ g = W3.heap.size) :
    Qs3 base W5 (.slice (some ⟨g, 0, none⟩) (l ++ [x]).length cap) (l ++ [x]) (css ++ [cs]) := by
  have hlen : (l ++ [x]).length = l.length + 1 := by simp
  have hlt : ∀ r, v.ownBlock = some r → r < W.heap.size := fun r hr => (h.row.lt r hr).2
  have hA : ∀ ds ∈ css ++ [cs], ∀ u ∈ ds, ∀ a n c, u = .slice (some a) n c → a.block < W3.heap.size ∧ ∀ r, v.ownBlock = some r → a.block ≠ r := fun ds hd u hu a n c e => by
    rcases List.mem_append.1 hd with h1 | h1
    · have := h.low ds h1 u hu a n c e
      exact ⟨Nat.lt_of_lt_of_le this.1 hx.size, this.2⟩
    · rw [List.mem_singleton.1 h1] at hu
      have := hn u hu a n c e
      exact ⟨this.2, fun r hr e' => by have := hlt r hr; omega⟩
  refine ⟨by rw [hlen, List.flatten_append]; simpa using hown, by simp [h.len], fun k ds y hk hy => ?_, fun ds hd u hu a n c e => ⟨Nat.lt_of_lt_of_le (hA ds hd u hu a n c e).1 hg.size, fun g' hg' => ?_⟩⟩
  · refine QueueC.grown (W := W3) ?_ hg (fun u hu a n c e he => (hA ds (List.mem_of_getElem? hk) u hu a n c e).2 a.block he rfl)
    by_cases hkb : k < l.length
    · rw [List.getElem?_append_left (by rw [h.len]; exact hkb)] at hk
      rw [List.getElem?_append_left hkb] at hy
      exact (h.each k ds y hk hy).mono hx
    · have hkl := (List.getElem?_eq_some_iff.1 hy).1
      have hkk : k = l.length := by simp at hkl; omega
      subst hkk
      rw [List.getElem?_append_right (by rw [h.len]; omega), h.len] at hk
      rw [List.getElem?_append_right (by omega)] at hy
      simp at hk hy
      subst hk; subst hy
      exact hc
  · obtain rfl : g = g' := by simpa [Value.ownBlock] using hg'
    rcases hgg with h1 | h1
    · exact (hA ds hd u hu a n c e).2 g h1
    · have := (hA ds hd u hu a n c e).1; omega
theorem Qs3.snoc {base g cap : Nat} {W W3 W5 : World} {v : Value} {l : List Queue} {x : Queue} {css : List (List Value)} {cs : List Value} (h : Qs3 base W v l css) (hx : Ext W W3) (hc : QueueC W3 cs x) (hn : ∀ u ∈ cs, NewT W.heap.size W3 u)
    (hown : W5.ownsRow base 41 3 (.slice (some ⟨g, 0, none⟩) (l.length + 1) cap) (l.length + 1) (css.flatten ++ cs)) (hg : W3.grownBy W5 v.ownBlock) (hgg : v.ownBlock = some g ∨ g = W3.heap.size) :
    OwnT base W5 (.slice (some ⟨g, 0, none⟩) (l ++ [x]).length cap) (l ++ [x]) :=
  ⟨_, h.snocC hx hc hn hown hg hgg⟩
theorem Qs3.three {base : Nat} {W : World} {v : Value} {l : List Queue} {css : List (List Value)} (h : Qs3 base W v l css) : ∀ cs ∈ css, cs.length = 3 := fun cs hc => by
  obtain ⟨k, hk⟩ := List.mem_iff_getElem?.1 hc
  have hkl := (List.getElem?_eq_some_iff.1 hk).1
  obtain ⟨x, hx⟩ := getA (f := l) (k := k) (by rw [← h.len]; exact hkl)
  exact (h.each k cs x hk hx).three
theorem addT (b o j : Nat) : (⟨b, o, none⟩ : Addr).add j = ⟨b, o + j, none⟩ := by unfold Addr.add; split <;> simp_all
theorem OwnT.v {base : Nat} {W : World} {v : Value} {l : List Queue} (h : OwnT base W v l) (h60 : l.length ≤ 17592186044416) : QueuesV W v l := by
  obtain ⟨css, h⟩ := h
  rcases h.row.2 with ⟨rfl, h0⟩ | ⟨g, cap, cur, rfl, hb, hg, hcp, hm, hcs, htk⟩
  · exact .inl ⟨List.eq_nil_of_length_eq_zero h0, Option.none, 0, rfl, by omega⟩
  · refine .inr ⟨g, 0, cap, rfl, hcp, by unfold maxLen at hm; omega, by omega, (Array.getElem?_eq_some_iff.1 hg).1, fun k x hk => ?_⟩
    have hkb := (List.getElem?_eq_some_iff.1 hk).1
    obtain ⟨cs, hcs'⟩ := getA (f := css) (k := k) (by rw [h.len]; exact hkb)
    obtain ⟨cv, rfl, hr, hn, hi⟩ := h.each k cs x hcs' hk
    have get : ∀ j u, ([.string x.Name, .int .i64 x.Parent, cv] : List Value)[j]? = some u → W.cell? ⟨g, 0 + k * 3 + j, Option.none⟩ = some u := fun j u hj => by
      have hj3 : j < 3 := by have := (List.getElem?_eq_some_iff.1 hj).1; simpa using this
      have e : css.flatten[k * 3 + j]? = some u := by rw [flat3 css h.three k j hj3, hcs']; exact hj
      have := h.row.cells (g := g) rfl (k * 3 + j) u e
      rw [addT] at this
      rwa [show 0 + (k * 3 + j) = 0 + k * 3 + j by omega] at this
    exact ⟨get 0 _ rfl, hn, get 1 _ rfl, hi, cv, get 2 _ rfl, hr⟩
theorem OwnT.ext {base : Nat} {W W' : World} {v : Value} {l : List Queue} (h : OwnT base W v l) (hx : Ext W W') : OwnT base W' v l := by
  obtain ⟨css, h⟩ := h
  exact ⟨css, ownsRow_ext h.row hx, h.len, fun k cs x h1 h2 => (h.each k cs x h1 h2).mono hx, fun cs hc u hu a n c e => ⟨Nat.lt_of_lt_of_le (h.low cs hc u hu a n c e).1 hx.size, (h.low cs hc u hu a n c e).2⟩⟩
theorem OwnT.form {base : Nat} {W : World} {v : Value} {l : List Queue} (h : OwnT base W v l) : ∃ a c, v = .slice a l.length c := by
  obtain ⟨css, h⟩ := h
  rcases h.row.2 with ⟨rfl, h0⟩ | ⟨g, cap, cur, rfl, _⟩
  · exact ⟨Option.none, 0, by rw [h0]⟩
  · exact ⟨_, _, rfl⟩
theorem own_someT {w : World} {base e sz n : Nat} {v : Value} {xs : List Value} (h : w.ownsRow base e sz v n xs) (hn : 1 ≤ n) : ∃ g cap, v = .slice (some ⟨g, 0, none⟩) n cap := by
  rcases h.2 with ⟨_, h0⟩ | ⟨g, cap, _, rfl, _⟩
  · omega
  · exact ⟨g, cap, rfl⟩
theorem blk_extT {W W' : World} {B : Nat} {o : Obj} (h : W.heap[B]? = some o) (hx : Ext W W') : W'.heap[B]? = some o := (hx.block B (Array.getElem?_eq_some_iff.1 h).1).trans h
/-! ### TreeFrom -/
def RetFrom (w : World) (q : List Queue × Bool) (e : Ending) (w' : World) : Prop := ∃ v, e = .returned (.tuple #[v, .bool q.2]) ∧ QueuesV w' v q.1 ∧ Ext w w'
theorem cell_three_new (W : World) (a b c : Value) (t : TypeId) : ∀ (j : Nat) u, [a, b, c][j]? = some u → (W.alloc (.cells #[a, b, c] t)).cell? ((⟨W.heap.size, 0, none⟩ : Addr).add j) = some u := by
  intro j u hu
  rw [addT, Nat.zero_add, cell_of_row _ _ _ _ _ _ (heap_alloc_new W _)]
  simpa using hu
theorem queue_info : (Tryd.prog.info? 41).map (fun i => (i.zero, i.size, i.bytes)) = some (some (.agg #[.string ByteArray.empty, .int .i64 0, .slice none 0 0]), 3, 48) := by kernel_rfl
theorem queue_size : (Tryd.prog.info? 41).map (·.size) = some 3 := by kernel_rfl
theorem tx_list (r : By) : (tx r).toList = r := by unfold tx; simp
theorem empT {r : By} (h : r = []) : (tx r).toList.isEmpty = true := by rw [tx_list, h]; rfl
theorem empF {r : By} (h : ¬ r = []) : (tx r).toList.isEmpty = false := by
  rw [tx_list]; cases r with
  | nil => exact absurd rfl h
  | cons x y => rfl
theorem cut_len1 (s p : By) : (Lib.cut s p).1.length ≤ s.length := by
  unfold Lib.cut; split <;> simp; omega
theorem cut_len2 (s p : By) (hp : p ≠ []) (hs : s ≠ []) : (Lib.cut s p).2.1.length < s.length := by
  have h1 := List.length_pos_iff.2 hp
  have h2 := List.length_pos_iff.2 hs
  unfold Lib.cut; split <;> simp <;> omega
theorem cut_rest (s p : By) (hp : p ≠ []) (h : (Lib.cut s p).2.2 = true) : (Lib.cut s p).2.1.length < s.length := by
  have h1 := List.length_pos_iff.2 hp
  have hi := Lib.index_room s p
  unfold Lib.cut at h ⊢; split
  · rename_i h0; have := hi h0; simp; omega
  · rename_i h0; rw [if_neg h0] at h; simp at h
theorem runsGo_fuel : ∀ (f g : Nat) (m : Bool) (s : By), s.length < f → s.length < g → runsGo f m s = runsGo g m s
  | 0, _, _, _, h, _ => by omega
  | _, 0, _, _, _, h => by omega
  | f + 1, g + 1, m, s, h1, h2 => by
    cases m with
    | false => simp [runsGo]
    | true =>
      cases hm : (Lib.cut s [32]).2.2 with
      | false =>
        simp only [runsGo, hm]
        cases f <;> cases g <;> simp [runsGo]
      | true =>
        have := cut_rest s [32] (by simp) hm
        simp only [runsGo, hm]
        rw [runsGo_fuel f g true _ (by omega) (by omega)]
theorem fromGo_fuel : ∀ (f g : Nat) (l : List Queue) (s : By), s.length ≤ f → s.length ≤ g → fromGo f l s = fromGo g l s
  | 0, 0, _, _, _, _ => rfl
  | 0, g + 1, l, s, h, _ => by
    have : s = [] := List.eq_nil_of_length_eq_zero (by omega)
    subst this; simp [fromGo]
  | f + 1, 0, l, s, _, h => by
    have : s = [] := List.eq_nil_of_length_eq_zero (by omega)
    subst this; simp [fromGo]
  | f + 1, g + 1, l, s, h1, h2 => by
    by_cases hs : s = []
    · simp [fromGo, hs]
    · have := cut_len2 s [10] (by simp) hs
      rw [fromGo, fromGo, if_neg hs, if_neg hs, fromGo_fuel f g _ _ (by omega) (by omega)]
theorem lastT_step (l : List Queue) (s : By) (k : Nat) : lastT l s (k + 1) = if bs (nm l k) = s then (k : Int) else lastT l s k := rfl
theorem lastT_bnd (l : List Queue) (s : By) : ∀ k, -1 ≤ lastT l s k ∧ lastT l s k < k
  | 0 => by simp [lastT]
  | k + 1 => by
    have := lastT_bnd l s k
    rw [lastT_step]; split <;> omega
theorem cut_len3 (s p : By) : (Lib.cut s p).2.1.length ≤ s.length := by
  unfold Lib.cut; split <;> simp
theorem cut_next (s p : By) (hp : p ≠ []) : (Lib.cut s p).2.1.length + (if (Lib.cut s p).2.2 = true then 1 else 0) ≤ s.length := by
  cases h : (Lib.cut s p).2.2 with
  | true => have := cut_rest s p hp h; simp; omega
  | false => have := cut_len3 s p; simp; exact this
theorem runsGo_no (f : Nat) (s : By) : runsGo f false s = [] := by cases f <;> simp [runsGo]
theorem runs_step (U : By) : runsGo (U.length + 1) true U = ⟨saidR (Lib.cut (Lib.cut U [32]).1 [61]).1, saidR (Lib.cut (Lib.cut U [32]).1 [61]).2.1⟩ :: runsGo ((Lib.cut U [32]).2.1.length + 1) (Lib.cut U [32]).2.2 (Lib.cut U [32]).2.1 := by
  rw [runsGo, if_pos rfl]
  cases h : (Lib.cut U [32]).2.2 with
  | true => rw [runsGo_fuel U.length ((Lib.cut U [32]).2.1.length + 1) true _ (cut_rest U [32] (by simp) h) (by omega)]
  | false => rw [runsGo_no, runsGo_no]
theorem said_i64 (s : By) : I64 (saidR s) := by
  unfold saidR; split
  · rename_i h
    have := saidF_bnd s s.length (Nat.le_refl _)
    rw [List.take_length] at this
    have h2 := bnd_le s.length h.2
    unfold I64 saidF at *; omega
  · unfold I64; omega
theorem TreeFrom_any (w : World) (s : By) (hs : s.length ≤ 4096) :
    Calls Tryd.prog 10 #[.string (tx s)] w (RetFrom w (fromR s)) := by
  go_enter Tryd.func10, Tryd.ntmps10
  go_wp2_with fail
  go_loopw [4, 5] (fun v c wr => ∃ (l : List Queue) (r : By) (R : ByteArray) (a : Option Addr) (cp : Nat), v = .slice a l.length cp ∧ c = .string R ∧ l.length + r.length ≤ 4096 ∧ R.size = r.length ∧ Hid (R = tx r) ∧ Hid (fromL s = fromGo r.length l r) ∧ Hid (OwnT w.heap.size wr v l) ∧ Hid (Ext w wr)) (fun _ c _ => match c with | .string R => R.size | _ => 0)
  case atStart => exact ⟨[], s, tx s, none, 0, rfl, rfl, by simpa using hs, tx_size s, hid rfl, hid rfl, hid (OwnT.none _ _), hid (Ext.rf w)⟩
  case round =>
    obtain ⟨l, r, R, a, cp, rfl, rfl, hlr, hR, HR, HF, HOW, HX⟩ := hrel
    by_cases hr : r = []
    · have hem := empT hr
      rw [← HR.out] at hem
      have hl : fromL s = l := by rw [HF.out, hr]; rfl
      have hlv := HOW.out.v (by omega)
      have CK := hid (CheckTree_any wr _ l hlv)
      by_cases hc : checkT l = 0
      · have TT := hid (fun (W : World) (h : Ext wr W) => TreeText_any W _ l (hlv.mono h) (checkT_ok hc))
        by_cases ht : treeB l = s
        · have HR2 := hid (show fromR s = (l, true) from by unfold fromR; rw [hl, if_pos ⟨hc, ht⟩])
          have HV := hid hlv
          have hq := nameT (x := tx (treeB l)) (y := tx s) (by rw [ht])
          rw [hc] at CK
          clear hlv hl hc
          go_wp2_with fail
          refine (CK.out).mono ?_
          rintro e w1 ⟨rfl, hx1⟩
          go_wp2_with fail
          refine (TT.out _ hx1).mono ?_
          rintro e w2 ⟨rfl, hx2⟩
          go_wp2_with fail
          go_ret2
          rw [HR2.out]
          exact ⟨_, rfl, HV.out.mono (hx1.tr hx2), HX.out.tr (hx1.tr hx2)⟩
        · have HR2 := hid (show fromR s = ([], false) from by unfold fromR; rw [hl, if_neg (fun h => ht h.2)])
          have hq := nameF (x := tx (treeB l)) (y := tx s) (fun e => ht (congrArg bs e))
          rw [hc] at CK
          clear hlv hl hc
          go_wp2_with fail
          refine (CK.out).mono ?_
          rintro e w1 ⟨rfl, hx1⟩
          go_wp2_with fail
          refine (TT.out _ hx1).mono ?_
          rintro e w2 ⟨rfl, hx2⟩
          go_wp2_with fail
          go_ret2
          rw [HR2.out]
          exact ⟨_, rfl, SV.nil, HX.out.tr (hx1.tr hx2)⟩
      · have HR2 := hid (show fromR s = ([], false) from by unfold fromR; rw [hl, if_neg (fun h => hc h.1)])
        clear hlv hl
        generalize checkT l = c at *
        go_wp2_with fail
        refine (CK.out).mono ?_
        rintro e w1 ⟨rfl, hx1⟩
        go_wp2_with fail
        go_ret2
        rw [HR2.out]
        exact ⟨_, rfl, SV.nil, HX.out.tr hx1⟩
    · have hne := empF hr
      rw [← HR.out] at hne
      have C1 := hid (fun W => cut_any R ⟨#[10]⟩ (by decide) (by omega) W)
      obtain ⟨L1, hL1⟩ : ∃ L1, (Lib.cut r [10]).1 = L1 := ⟨_, rfl⟩
      obtain ⟨R1, hR1⟩ : ∃ R1, (Lib.cut r [10]).2.1 = R1 := ⟨_, rfl⟩
      have q1 : L1.length ≤ r.length := by rw [← hL1]; exact cut_len1 _ _
      have q2 : R1.length < r.length := by rw [← hR1]; exact cut_len2 _ _ (by simp) hr
      have C2 := hid (fun W => cut_any (tx L1) ⟨#[58, 32]⟩ (by decide) (by rw [tx_size]; omega) W)
      obtain ⟨H1, hH1⟩ : ∃ H1, (Lib.cut L1 [58, 32]).1 = H1 := ⟨_, rfl⟩
      obtain ⟨U1, hU1⟩ : ∃ U1, (Lib.cut L1 [58, 32]).2.1 = U1 := ⟨_, rfl⟩
      obtain ⟨m1, hm1⟩ : ∃ m1, (Lib.cut L1 [58, 32]).2.2 = m1 := ⟨_, rfl⟩
      have q3 : H1.length ≤ L1.length := by rw [← hH1]; exact cut_len1 _ _
      have q4 : U1.length ≤ L1.length := by rw [← hU1]; exact cut_len3 _ _
      have C3 := hid (fun W => cut_any (tx H1) ⟨#[32, 60, 32]⟩ (by decide) (by rw [tx_size]; omega) W)
      obtain ⟨N1, hN1⟩ : ∃ N1, (Lib.cut H1 [32, 60, 32]).1 = N1 := ⟨_, rfl⟩
      have q5 : N1.length ≤ H1.length := by rw [← hN1]; exact cut_len1 _ _
      obtain ⟨P1, hP1⟩ : ∃ P1, (Lib.cut H1 [32, 60, 32]).2.1 = P1 := ⟨_, rfl⟩
      obtain ⟨b1, hb1⟩ : ∃ b1, (Lib.cut H1 [32, 60, 32]).2.2 = b1 := ⟨_, rfl⟩
      have E1 := hid (show ∀ e, CutIs R ⟨#[10]⟩ e → ∃ z, e = .returned (.tuple #[.string (tx L1), .string (tx R1), .bool z]) from fun e h => ⟨(Lib.cut r [10]).2.2, by rw [h, HR.out, bs_tx, ← hL1, ← hR1]; rfl⟩)
      have E2 := hid (show ∀ e, CutIs (tx L1) ⟨#[58, 32]⟩ e → e = .returned (.tuple #[.string (tx H1), .string (tx U1), .bool m1]) from fun e h => by rw [h, bs_tx, ← hH1, ← hU1, ← hm1]; rfl)
      have E3 := hid (show ∀ e, CutIs (tx H1) ⟨#[32, 60, 32]⟩ e → e = .returned (.tuple #[.string (tx N1), .string (tx P1), .bool b1]) from fun e h => by rw [h, bs_tx, ← hN1, ← hP1, ← hb1]; rfl)
      have HS := hid (And.intro hL1 (And.intro hR1 (And.intro hH1 (And.intro hU1 (And.intro hm1 (And.intro hN1 (And.intro hP1 hb1)))))))
      clear hL1 hR1 hH1 hU1 hm1 hN1 hP1 hb1
      go_wp2_with fail
      refine (C1.out _).mono ?_
      rintro e w1 ⟨he, hx1⟩
      obtain ⟨z, rfl⟩ := E1.out e he
      clear he
      go_wp2_with fail
      refine (C2.out _).mono ?_
      rintro e w2 ⟨he, hx2⟩
      obtain rfl := E2.out e he
      clear he
      go_wp2_with fail
      refine (C3.out _).mono ?_
      rintro e w3 ⟨he, hx3⟩
      obtain rfl := E3.out e he
      clear he
      go_wp2_with fail
      obtain ⟨X, hXd⟩ : ∃ X, w3.heap.size = X := ⟨_, rfl⟩
      obtain ⟨w4, hw4⟩ : ∃ w4, w3.alloc (.cells #[.string (tx N1), .int .i64 (-1), .slice none 0 0] 41) = w4 := ⟨_, rfl⟩
      have hX4 : w4.heap[X]? = some (.cells #[.string (tx N1), .int .i64 (-1), .slice none 0 0] 41 (0, 0)) := by rw [← hw4, ← hXd]; exact heap_alloc_new w3 _
      have hx34 : Ext w3 w4 := by rw [← hw4]; exact (Ext.rf w3).al _
      have hX3 : w3.heap.size ≤ X := by omega
      rw [hw4, hXd]
      have HX3 := hid (hx1.tr (hx2.tr hx3))
      have HQV := hid (fun W (h : Ext w3 W) => (HOW.out.v (by omega)).mono (HX3.out.tr h))
      have HXd := hid hXd
      clear hw4 hx1 hx2 hx3 C1 C2 C3 E1 E2 E3 hXd
      go_loopw [14] (fun c W => ∃ (k : Nat) (p : Int), c = .int .i64 k ∧ k ≤ l.length ∧ Hid (p = if b1 = true then lastT l P1 k else -1) ∧ Hid (W.heap[X]? = some (.cells #[.string (tx N1), .int .i64 p, .slice none 0 0] 41 (0, 0))) ∧ Hid (Ext w3 W)) (fun c _ => l.length - (intOf c).toNat)
      case atStart => exact ⟨0, -1, rfl, Nat.zero_le _, hid (by cases b1 <;> rfl), hid hX4, hid hx34⟩
      case round =>
        obtain ⟨k, p, rfl, hk, HP, HXk, HWk⟩ := hrel
        by_cases hgo : k < l.length ∧ b1 = true
        · obtain ⟨hkl, hbt⟩ := hgo
          subst hbt
          have hkl' : (k : Int) < (l.length : Int) := by omega
          obtain ⟨x, hxk⟩ := getA (f := l) (k := k) hkl
          have hnm : nm l k = x.Name := by unfold nm; rw [List.getD_eq_getElem?_getD, hxk]; rfl
          obtain ⟨ga, gc, hga, _, _, _, hgE⟩ := svAt (HQV.out wr HWk.out)
          injection hga with hg1 hg2 hg3
          obtain ⟨gb, go, hgb, hgbl, hge⟩ := hgE (by omega)
          rw [hgb] at hg1
          subst hg1
          obtain ⟨c0, _⟩ := hge k x hxk
          have t1 := deF (show ¬ (k : Int) < 0 by omega)
          have t2 := deF (show ¬ (l.length : Int) ≤ (k : Int) by omega)
          have t3 := deF (show ¬ l.length ≤ k by omega)
          have HKL := hid hkl
          by_cases hpn : bs x.Name = P1
          · have hy := nameT (x := x.Name) (y := tx P1) (by rw [← hpn, tx_bs])
            have HP2 := hid (show (k : Int) = if true = true then lastT l P1 (k + 1) else -1 from by rw [if_pos rfl, lastT_step, hnm, if_pos hpn])
            have hXk := HXk.out
            have x1 := cell_of_row _ X 1 _ _ _ hXk
            have f1 := frozen_of_row wr X 1 _ _ hXk
            have HX5 := hid (heap_setCell_same wr X 1 _ _ (.int .i64 k) hXk)
            have HW5 := hid (HWk.out.se (o := 1) hX3 (.int .i64 k))
            clear hge hgE hxk hnm hpn hXk
            go_wp2_with fail
            go_roundw
            case rel => exact ⟨k + 1, _, by go_num, HKL.out, HP2, HX5, HW5⟩
            case measure => have := HKL.out; simp [intOf]; omega
          · have hy := nameF (x := x.Name) (y := tx P1) (fun e => hpn (by rw [e, bs_tx]))
            have HP2 := hid (show p = if true = true then lastT l P1 (k + 1) else -1 from by rw [HP.out, if_pos rfl, if_pos rfl, lastT_step, hnm, if_neg hpn])
            clear hge hgE hxk hnm hpn
            go_wp2_with fail
            go_roundw
            case rel => exact ⟨k + 1, _, by go_num, HKL.out, HP2, HXk, HWk⟩
            case measure => have := HKL.out; simp [intOf]; omega
        · have HPF := hid (show p = if b1 = true then lastT l P1 l.length else -1 from by
            rw [HP.out]
            by_cases hb : b1 = true
            · have : k = l.length := by
                rcases Nat.lt_or_ge k l.length with h | h
                · exact absurd ⟨h, hb⟩ hgo
                · omega
              rw [this]
            · rw [if_neg hb, if_neg hb])
          by_cases hkl : k < l.length
          · have hbf : b1 = false := by cases b1 <;> simp_all
            subst hbf
            have hkl' : (k : Int) < (l.length : Int) := by omega
            clear hgo
            go_wp2_with fail
            have HW0 := hid HWk.out
            go_loopw [8, 9] (fun c q W => ∃ (U : By) (R2 : ByteArray) (m : Bool) (f : List Run) (cv : Value), c = .string R2 ∧ q = .bool m ∧ R2.size = U.length ∧ f.length + U.length + (if m = true then 1 else 0) ≤ U1.length + 1 ∧ Hid (R2 = tx U) ∧ Hid (runsGo (U1.length + 1) m1 U1 = f ++ runsGo (U.length + 1) m U) ∧
                Hid (W.heap[X]? = some (.cells #[.string (tx N1), .int .i64 p, cv] 41 (0, 0))) ∧ Hid (W.ownsRow (X + 1) 48 2 cv f.length (cells2 Run.At Run.N f)) ∧ Hid (∀ y ∈ f, I64 y.At ∧ I64 y.N) ∧ Hid (Ext w3 W))
              (fun c q _ => (match c with | .string R => R.size | _ => 0) + (match q with | .bool true => 1 | _ => 0))
            case atStart => exact ⟨U1, tx U1, m1, [], .slice none 0 0, rfl, rfl, tx_size U1, by cases m1 <;> simp, hid rfl, hid rfl, HXk, hid (World.ownsRow_nil _ _ _ _), hid (by simp), HWk⟩
            case round =>
              clear HXk HWk HQV
              obtain ⟨U, R2, m, f, cv, rfl, rfl, hR2, hfu, HR2, HRG, HXk, HOR, HI, HWk⟩ := hrel
              cases m with
              | true =>
                simp only [if_true] at hfu
                have CA := hid (fun W => cut_any R2 ⟨#[32]⟩ (by decide) (by omega) W)
                obtain ⟨V1, hV1⟩ : ∃ V1, (Lib.cut U [32]).1 = V1 := ⟨_, rfl⟩
                obtain ⟨U2, hU2⟩ : ∃ U2, (Lib.cut U [32]).2.1 = U2 := ⟨_, rfl⟩
                obtain ⟨m2, hm2⟩ : ∃ m2, (Lib.cut U [32]).2.2 = m2 := ⟨_, rfl⟩
                have q1 : V1.length ≤ U.length := by rw [← hV1]; exact cut_len1 _ _
                have CB := hid (fun W => cut_any (tx V1) ⟨#[61]⟩ (by decide) (by rw [tx_size]; omega) W)
                obtain ⟨A1, hA1⟩ : ∃ A1, (Lib.cut V1 [61]).1 = A1 := ⟨_, rfl⟩
                obtain ⟨B1, hB1⟩ : ∃ B1, (Lib.cut V1 [61]).2.1 = B1 := ⟨_, rfl⟩
                have q2 : A1.length ≤ V1.length := by rw [← hA1]; exact cut_len1 _ _
                have q3 : B1.length ≤ V1.length := by rw [← hB1]; exact cut_len3 _ _
                have EA := hid (show ∀ e, CutIs R2 ⟨#[32]⟩ e → e = .returned (.tuple #[.string (tx V1), .string (tx U2), .bool m2]) from fun e h => by rw [h, HR2.out, bs_tx, ← hV1, ← hU2, ← hm2]; rfl)
                have EB := hid (show ∀ e, CutIs (tx V1) ⟨#[61]⟩ e → ∃ z, e = .returned (.tuple #[.string (tx A1), .string (tx B1), .bool z]) from fun e h => ⟨(Lib.cut V1 [61]).2.2, by rw [h, bs_tx, ← hA1, ← hB1]; rfl⟩)
                have SA := hid (fun (W : World) => show Calls _ _ _ W (fun e w' => e = .returned (.int .i64 (saidR A1)) ∧ Ext W w') from said_any (tx A1) (by rw [tx_size]; omega) W)
                have SB := hid (fun (W : World) => show Calls _ _ _ W (fun e w' => e = .returned (.int .i64 (saidR B1)) ∧ Ext W w') from said_any (tx B1) (by rw [tx_size]; omega) W)
                have HST := hid (show runsGo (U1.length + 1) m1 U1 = (f ++ [⟨saidR A1, saidR B1⟩]) ++ runsGo (U2.length + 1) m2 U2 from by
                  rw [HRG.out, runs_step U, hV1, hA1, hB1, hm2, hU2, List.append_assoc]; rfl)
                have HB2 := hid (show (f ++ [(⟨saidR A1, saidR B1⟩ : Run)]).length + U2.length + (if m2 = true then 1 else 0) ≤ U1.length + 1 from by
                  have := cut_next U [32] (by simp)
                  rw [hm2, hU2] at this
                  simp only [List.length_append, List.length_cons, List.length_nil]; omega)
                have HLT := hid (show U2.length + (if m2 = true then 1 else 0) ≤ U.length from by
                  have := cut_next U [32] (by simp)
                  rw [hm2, hU2] at this; omega)
                have HI2 := hid (show ∀ y ∈ f ++ [(⟨saidR A1, saidR B1⟩ : Run)], I64 y.At ∧ I64 y.N from fun y hy => by
                  rcases List.mem_append.1 hy with h | h
                  · exact HI.out y h
                  · rw [List.mem_singleton.1 h]; exact ⟨said_i64 A1, said_i64 B1⟩)
                clear hV1 hU2 hm2 hA1 hB1
                go_wp2_with fail
                refine (CA.out _).mono ?_
                rintro e w5 ⟨he, hx5⟩
                obtain rfl := EA.out e he
                clear he
                go_wp2_with fail
                refine (CB.out _).mono ?_
                rintro e w6 ⟨he, hx6⟩
                obtain ⟨z2, rfl⟩ := EB.out e he
                clear he
                have hxq : Ext wr w6 := hx5.tr hx6
                have hX0 := HXk.out
                have k2 := cell_of_row _ X 2 _ _ _ hX0
                have hXwr := (Array.getElem?_eq_some_iff.1 hX0).1
                obtain ⟨ir, ir1, ir2, ir3, ir4⟩ := info_parts Tryd.info48
                obtain ⟨fa, fcp, rfl⟩ := ownsRow_slice HOR.out
                clear CA CB EA EB hX0 hx5 hx6
                go_wp2_with fail
                refine wp_region_tail 10 (fun W => W.cell? ⟨X, 2, none⟩ = some (.slice fa f.length fcp)) (by kernel_rfl) (hxq.dr.ce' k2) (fun hHeld => ?_)
                refine wpAnyT_take (i := 0) (v := ?_) rfl (by kernel_rfl) (fun _ _ _ h => h) (Or.inl ⟨by rfl, ?_⟩) (by assumption) ?_
                rotate_left
                · intro W hSW
                  simp only [List.getElem_toArray, List.getElem_cons_zero]
                  (try dsimp only at hSW)
                  go_simp
                  (try with_reducible rfl)
                simp only [List.getElem_toArray, List.getElem_cons_zero, Act.put, List.setIfInBounds_toArray, List.set_cons_zero, List.set_cons_succ]
                refine wpAnyT_take (i := 1) (v := ?_) rfl (by kernel_rfl) (fun _ _ _ h => h) (Or.inl ⟨by rfl, ?_⟩) (by assumption) ?_
                rotate_left
                · intro W hSW
                  simp only [List.getElem_toArray, List.getElem_cons_zero, List.getElem_cons_succ]
                  (try dsimp only at hSW)
                  go_simp
                  (try with_reducible rfl)
                simp only [List.getElem_toArray, List.getElem_cons_zero, List.getElem_cons_succ, Act.put, List.setIfInBounds_toArray, List.set_cons_zero, List.set_cons_succ]
                refine wpAnyT_take (i := 2) (v := ?_) rfl (by kernel_rfl) (fun _ _ _ h => h) (Or.inl ⟨by rfl, ?_⟩) (by assumption) ?_
                rotate_left
                · intro W hSW
                  simp only [List.getElem_toArray, List.getElem_cons_zero, List.getElem_cons_succ]
                  (try dsimp only at hSW)
                  go_simp
                  (try with_reducible rfl)
                simp only [List.getElem_toArray, List.getElem_cons_zero, List.getElem_cons_succ, Act.put, List.setIfInBounds_toArray, List.set_cons_zero, List.set_cons_succ]
                refine wpAnyT_take (i := 4) (v := ?_) rfl (by kernel_rfl) (fun _ _ _ h => h) (Or.inl ⟨by rfl, ?_⟩) (by assumption) ?_
                rotate_left
                · intro W hSW
                  simp only [List.getElem_toArray, List.getElem_cons_zero, List.getElem_cons_succ]
                  (try dsimp only at hSW)
                  go_simp
                  (try with_reducible rfl)
                simp only [List.getElem_toArray, List.getElem_cons_zero, List.getElem_cons_succ, Act.put, List.setIfInBounds_toArray, List.set_cons_zero, List.set_cons_succ]
                refine wpAnyT_go (i := 3) (by kernel_rfl) rfl (fun K hK => ?_)
                simp only [List.getElem_toArray, List.getElem_cons_zero, List.getElem_cons_succ]
                go_simp
                refine (SA.out _).mono ?_
                rintro e W1 ⟨rfl, hx1⟩
                have hxa1 : Ext wr W1 := hxq.dr.tr hx1
                go_wp2_with fail
                refine hK.out _ _ ?_ (fun hHeld => ?_)
                · (exact hxa1.ce' k2)
                clear hK K
                refine wpAnyT_go (i := 5) (by kernel_rfl) rfl (fun K hK => ?_)
                simp only [List.getElem_toArray, List.getElem_cons_zero, List.getElem_cons_succ]
                go_simp
                refine (SB.out _).mono ?_
                rintro e W2 ⟨rfl, hx2⟩
                have hxa2 : Ext wr W2 := hxa1.tr hx2
                go_wp2_with fail
                refine hK.out _ _ ?_ (fun hHeld => ?_)
                · (exact hxa2.ce' k2)
                clear hK K
                refine wpAnyT_take (i := 6) (v := ?_) rfl (by kernel_rfl) (fun _ _ _ h => h) (Or.inl ⟨by rfl, ?_⟩) (by assumption) ?_
                rotate_left
                · intro W hSW
                  simp only [List.getElem_toArray, List.getElem_cons_zero, List.getElem_cons_succ]
                  (try dsimp only at hSW)
                  go_simp
                  (try with_reducible rfl)
                simp only [List.getElem_toArray, List.getElem_cons_zero, List.getElem_cons_succ, Act.put, List.setIfInBounds_toArray, List.set_cons_zero, List.set_cons_succ]
                refine wpAnyT_go (i := 7) (by kernel_rfl) rfl (fun K hK => ?_)
                simp only [List.getElem_toArray, List.getElem_cons_zero, List.getElem_cons_succ]
                go_simp
                obtain ⟨W3, hW3⟩ : ∃ W3, W2.alloc (.cells #[.int .i64 (saidR A1), .int .i64 (saidR B1)] 48) = W3 := ⟨_, rfl⟩
                have hxa3 : Ext wr W3 := hW3 ▸ hxa2.al _
                have hne2 := new2 W2 rfl (.int .i64 (saidR A1)) (.int .i64 (saidR B1)) 48
                rw [hW3] at hne2 ⊢
                have hf5 : f.length ≤ 5000 := by omega
                have hsz3 := hxa3.size
                refine hK.out _ _ ?_ (fun hHeld => ?_)
                · (exact hxa3.ce' k2)
                clear hK K
                refine wpAnyT_go (i := 8) (by kernel_rfl) rfl (fun K hK => ?_)
                simp only [List.getElem_toArray, List.getElem_cons_zero, List.getElem_cons_succ]
                refine wp_append_own _ _ _ _ (by rfl) (X + 1) 48 ir _ 2 16 Tryd.underlying39 ir1 ir2 ir3 ir4 rfl (by decide) (.slice fa f.length fcp) f.length (cells2 Run.At Run.N f) (by rfl) (ownsRow_ext HOR.out hxa3) ⟨W2.heap.size, 0, none⟩ 1 1 [.int .i64 (saidR A1), .int .i64 (saidR B1)] (by rfl) (by rfl) hne2 (one2 _ _ _ _) (by unfold maxLen; omega) (by omega) (by omega) (fun v5 W5 hown5 hgrow5 hnil5 => ?_)
                obtain ⟨g5, c5, rfl⟩ := own_someT hown5 (by omega)
                have hX5 : W5.heap[X]? = some (.cells #[.string (tx N1), .int .i64 p, .slice fa f.length fcp] 41 (0, 0)) := (hgrow5.block _ (by omega) (fun e => by have := own_lt HOR.out _ e.symm; omega)).trans (blk_extT HXk.out hxa3)
                have hx5 : Ext w3 W5 := (HWk.out.tr hxa3).gr hgrow5 (fun g hg => by have := own_lt HOR.out g hg; omega)
                have k25 := cell_of_row _ _ 2 _ _ _ hX5
                have f25 := frozen_of_row _ _ 2 _ _ hX5
                refine hK.out _ _ ?_ (fun hHeld => ?_)
                · (exact k25)
                clear hK K
                refine wpAnyT_take (i := 9) (v := ?_) rfl (by kernel_rfl) (fun _ _ _ h => h) (Or.inl ⟨by rfl, ?_⟩) (by assumption) ?_
                rotate_left
                · intro W hSW
                  simp only [List.getElem_toArray, List.getElem_cons_zero, List.getElem_cons_succ]
                  (try dsimp only at hSW)
                  go_simp
                  (try with_reducible rfl)
                simp only [List.getElem_toArray, List.getElem_cons_zero, List.getElem_cons_succ, Act.put, List.setIfInBounds_toArray, List.set_cons_zero, List.set_cons_succ]
                refine wpAnyT_last (t := 10) (by kernel_rfl) rfl (by kernel_rfl) (fun K hK => ?_)
                simp only [List.getElem_toArray, List.getElem_cons_zero, List.getElem_cons_succ]
                go_simp
                refine hK.out _ _ ?_
                clear hK K
                have HX6 := hid (heap_setCell_same W5 X 2 _ _ (.slice (some ⟨g5, 0, none⟩) (f.length + 1) c5) hX5)
                have HO6 := hid (ownsRow_setCell (c := X) (o := 2) (u := .slice (some ⟨g5, 0, none⟩) (f.length + 1) c5) hown5 (by omega))
                have HXX := hid (hx5.se (b := X) (o := 2) hX3 (.slice (some ⟨g5, 0, none⟩) (f.length + 1) c5))
                generalize W5.setCell ⟨X, 2, none⟩ (.slice (some ⟨g5, 0, none⟩) (f.length + 1) c5) = W6 at *
                clear hHeld k2 k25 f25 hX5 hx5 hown5 hgrow5 hnil5 hW3 hxa1 hxa2 hxa3 hx1 hx2 hne2 HOR HXk HWk
                go_wp2_with fail
                go_roundw
                case rel =>
                  refine ⟨U2, tx U2, m2, f ++ [⟨saidR A1, saidR B1⟩], _, rfl, rfl, tx_size U2, HB2.out, hid rfl, HST, HX6, hid ?_, HI2, HXX⟩
                  have := HO6.out
                  simpa [cells2] using this
                case measure =>
                  have h1 := HLT.out
                  have e1 := tx_size U2
                  cases m2
                  · show (tx U2).size + 0 < R2.size + 1
                    simp at h1; omega
                  · show (tx U2).size + 1 < R2.size + 1
                    simp at h1; omega
              | false =>
                have HFL := hid (show fromLine l L1 = ⟨tx N1, p, f⟩ from by
                  obtain ⟨hL1, hR1, hH1, hU1, hm1, hN1, hP1, hb1⟩ := HS.out
                  have e := HRG.out
                  rw [runsGo_no, List.append_nil] at e
                  unfold fromLine
                  rw [hH1, hN1, hP1, hb1, hm1, hU1, ← HPF.out, e]; rfl)
                obtain ⟨fa, fcp, rfl⟩ := ownsRow_slice HOR.out
                obtain ⟨iq, iq1, iq2, iq3, iq4⟩ := info_parts queue_info
                have hX0 := HXk.out
                have k0 := cell_of_row _ X 0 _ _ _ hX0
                have k1 := cell_of_row _ X 1 _ _ _ hX0
                have k2 := cell_of_row _ X 2 _ _ _ hX0
                have hI := HI.out
                have hpb : -1 ≤ p ∧ p < 5000 := by
                  rw [HPF.out]
                  have := lastT_bnd l P1 l.length
                  split <;> omega
                have hrv : RunsV wr (.slice fa f.length fcp) f := sv_of_owns2 HOR.out hI (by omega)
                obtain ⟨x, hx⟩ : ∃ x : Queue, x = ⟨tx N1, p, f⟩ := ⟨_, rfl⟩
                have hqc : QueueC wr [.string (tx N1), .int .i64 p, .slice fa f.length fcp] x := ⟨_, by rw [hx], by rw [hx]; exact hrv, by rw [hx]; show (tx N1).size ≤ _; rw [tx_size]; omega, by rw [hx]; show I64 p; unfold I64; omega⟩
                have hxa := (Ext.rf wr).al (.cells #[.string (tx N1), .int .i64 p, .slice fa f.length fcp] 41)
                obtain ⟨css, hA⟩ := HOW.out
                have hx03 := HX3.out.tr (HWk.out.tr hxa)
                have hnew : ∀ u ∈ ([.string (tx N1), .int .i64 p, .slice fa f.length fcp] : List Value), NewT w3.heap.size (wr.alloc (.cells #[.string (tx N1), .int .i64 p, .slice fa f.length fcp] 41)) u := fun u hu => by
                  simp only [List.mem_cons, List.not_mem_nil, or_false] at hu
                  rcases hu with rfl | rfl | rfl
                  · intro a n c e; cases e
                  · intro a n c e; cases e
                  · intro a n c e
                    have hb := HOR.out.lt a.block (by rw [e]; rfl)
                    exact ⟨by omega, by rw [World.size_alloc]; omega⟩
                have hone := hqc.one
                have hn3 := cell_three_new wr (.string (tx N1)) (.int .i64 p) (.slice fa f.length fcp) 41
                have HO1 := hid (ownsRow_ext hA.row hx03)
                have hsz0 := (HX.out.tr hx03).size
                have HSZ0 := hid hsz0
                have hsz3 := HX3.out.size
                have HSN := hid (fun (g cap : Nat) (W5 : World) => hA.snoc (g := g) (cap := cap) (W5 := W5) hx03 (hqc.mono hxa) (fun u hu a n c e => ⟨Nat.le_trans hsz3 (hnew u hu a n c e).1, (hnew u hu a n c e).2⟩))
                have HX1 := hid (HX.out.tr hx03)
                have HOWN := hid (fun rr hr => (hA.row.lt rr hr).1)
                have HN3 := hid hn3
                have HONE := hid hone
                have HXX := hid hx
                clear hX0 hI hrv hqc hxa hx03 hnew hone hn3 hsz0 hsz3 hA hx
                go_wp2_with (at_builtin; refine wpList_append_lies _ rfl _ _ 22 rfl w.heap.size 41 iq _ 3 48 Tryd.underlying22 iq1 iq2 iq3 iq4 rfl (by decide) (.slice a l.length cp) l.length css.flatten rfl HO1.out ⟨wr.heap.size, 0, none⟩ 1 1 [.string (tx N1), .int .i64 p, .slice fa f.length fcp] rfl rfl HN3.out HONE.out (by omega) (by unfold maxLen; omega) (by omega) HSZ0.out (wr.heap.size + 1) (by simp) ?_; intro g2 cap2 W2 hown hgrow hlie hlt2; have HO2 := hid (HSN.out g2 cap2 W2 hown hgrow (hlie.imp_right fun e => e.trans (by simp only [World.size_alloc]))); have HX2 := hid (HX1.out.gr (v := .slice a l.length cp) hgrow HOWN.out); clear hown hgrow hlie hlt2)
                go_roundw
                case rel =>
                  have e : (l ++ [x]).length = l.length + 1 := by simp
                  refine ⟨l ++ [x], R1, tx R1, _, _, by rw [e], rfl, by rw [e]; omega, tx_size R1, hid rfl, hid ?_, by rw [e] at HO2; exact HO2, HX2⟩
                  obtain ⟨hL1, hR1, _⟩ := HS.out
                  rw [HF.out]
                  obtain ⟨m, hm⟩ : ∃ m, r.length = m + 1 := ⟨r.length - 1, by omega⟩
                  rw [hm, fromGo, if_neg hr, hL1, hR1, HFL.out, ← HXX.out]
                  exact fromGo_fuel _ _ _ _ (by omega) (Nat.le_refl _)
                case measure =>
                  show (tx R1).size < R.size
                  rw [tx_size]; omega
          · have hkl' : ¬ (k : Int) < (l.length : Int) := by omega
            clear hgo
            go_wp2_with fail
            have HW0 := hid HWk.out
            go_loopw [8, 9] (fun c q W => ∃ (U : By) (R2 : ByteArray) (m : Bool) (f : List Run) (cv : Value), c = .string R2 ∧ q = .bool m ∧ R2.size = U.length ∧ f.length + U.length + (if m = true then 1 else 0) ≤ U1.length + 1 ∧ Hid (R2 = tx U) ∧ Hid (runsGo (U1.length + 1) m1 U1 = f ++ runsGo (U.length + 1) m U) ∧
                Hid (W.heap[X]? = some (.cells #[.string (tx N1), .int .i64 p, cv] 41 (0, 0))) ∧ Hid (W.ownsRow (X + 1) 48 2 cv f.length (cells2 Run.At Run.N f)) ∧ Hid (∀ y ∈ f, I64 y.At ∧ I64 y.N) ∧ Hid (Ext w3 W))
              (fun c q _ => (match c with | .string R => R.size | _ => 0) + (match q with | .bool true => 1 | _ => 0))
            case atStart => exact ⟨U1, tx U1, m1, [], .slice none 0 0, rfl, rfl, tx_size U1, by cases m1 <;> simp, hid rfl, hid rfl, HXk, hid (World.ownsRow_nil _ _ _ _), hid (by simp), HWk⟩
            case round =>
              clear HXk HWk HQV
              obtain ⟨U, R2, m, f, cv, rfl, rfl, hR2, hfu, HR2, HRG, HXk, HOR, HI, HWk⟩ := hrel
              cases m with
              | true =>
                simp only [if_true] at hfu
                have CA := hid (fun W => cut_any R2 ⟨#[32]⟩ (by decide) (by omega) W)
                obtain ⟨V1, hV1⟩ : ∃ V1, (Lib.cut U [32]).1 = V1 := ⟨_, rfl⟩
                obtain ⟨U2, hU2⟩ : ∃ U2, (Lib.cut U [32]).2.1 = U2 := ⟨_, rfl⟩
                obtain ⟨m2, hm2⟩ : ∃ m2, (Lib.cut U [32]).2.2 = m2 := ⟨_, rfl⟩
                have q1 : V1.length ≤ U.length := by rw [← hV1]; exact cut_len1 _ _
                have CB := hid (fun W => cut_any (tx V1) ⟨#[61]⟩ (by decide) (by rw [tx_size]; omega) W)
                obtain ⟨A1, hA1⟩ : ∃ A1, (Lib.cut V1 [61]).1 = A1 := ⟨_, rfl⟩
                obtain ⟨B1, hB1⟩ : ∃ B1, (Lib.cut V1 [61]).2.1 = B1 := ⟨_, rfl⟩
                have q2 : A1.length ≤ V1.length := by rw [← hA1]; exact cut_len1 _ _
                have q3 : B1.length ≤ V1.length := by rw [← hB1]; exact cut_len3 _ _
                have EA := hid (show ∀ e, CutIs R2 ⟨#[32]⟩ e → e = .returned (.tuple #[.string (tx V1), .string (tx U2), .bool m2]) from fun e h => by rw [h, HR2.out, bs_tx, ← hV1, ← hU2, ← hm2]; rfl)
                have EB := hid (show ∀ e, CutIs (tx V1) ⟨#[61]⟩ e → ∃ z, e = .returned (.tuple #[.string (tx A1), .string (tx B1), .bool z]) from fun e h => ⟨(Lib.cut V1 [61]).2.2, by rw [h, bs_tx, ← hA1, ← hB1]; rfl⟩)
                have SA := hid (fun (W : World) => show Calls _ _ _ W (fun e w' => e = .returned (.int .i64 (saidR A1)) ∧ Ext W w') from said_any (tx A1) (by rw [tx_size]; omega) W)
                have SB := hid (fun (W : World) => show Calls _ _ _ W (fun e w' => e = .returned (.int .i64 (saidR B1)) ∧ Ext W w') from said_any (tx B1) (by rw [tx_size]; omega) W)
                have HST := hid (show runsGo (U1.length + 1) m1 U1 = (f ++ [⟨saidR A1, saidR B1⟩]) ++ runsGo (U2.length + 1) m2 U2 from by
                  rw [HRG.out, runs_step U, hV1, hA1, hB1, hm2, hU2, List.append_assoc]; rfl)
                have HB2 := hid (show (f ++ [(⟨saidR A1, saidR B1⟩ : Run)]).length + U2.length + (if m2 = true then 1 else 0) ≤ U1.length + 1 from by
                  have := cut_next U [32] (by simp)
                  rw [hm2, hU2] at this
                  simp only [List.length_append, List.length_cons, List.length_nil]; omega)
                have HLT := hid (show U2.length + (if m2 = true then 1 else 0) ≤ U.length from by
                  have := cut_next U [32] (by simp)
                  rw [hm2, hU2] at this; omega)
                have HI2 := hid (show ∀ y ∈ f ++ [(⟨saidR A1, saidR B1⟩ : Run)], I64 y.At ∧ I64 y.N from fun y hy => by
                  rcases List.mem_append.1 hy with h | h
                  · exact HI.out y h
                  · rw [List.mem_singleton.1 h]; exact ⟨said_i64 A1, said_i64 B1⟩)
                clear hV1 hU2 hm2 hA1 hB1
                go_wp2_with fail
                refine (CA.out _).mono ?_
                rintro e w5 ⟨he, hx5⟩
                obtain rfl := EA.out e he
                clear he
                go_wp2_with fail
                refine (CB.out _).mono ?_
                rintro e w6 ⟨he, hx6⟩
                obtain ⟨z2, rfl⟩ := EB.out e he
                clear he
                have hxq : Ext wr w6 := hx5.tr hx6
                have hX0 := HXk.out
                have k2 := cell_of_row _ X 2 _ _ _ hX0
                have hXwr := (Array.getElem?_eq_some_iff.1 hX0).1
                obtain ⟨ir, ir1, ir2, ir3, ir4⟩ := info_parts Tryd.info48
                obtain ⟨fa, fcp, rfl⟩ := ownsRow_slice HOR.out
                clear CA CB EA EB hX0 hx5 hx6
                go_wp2_with fail
                refine wp_region_tail 10 (fun W => W.cell? ⟨X, 2, none⟩ = some (.slice fa f.length fcp)) (by kernel_rfl) (hxq.dr.ce' k2) (fun hHeld => ?_)
                refine wpAnyT_take (i := 0) (v := ?_) rfl (by kernel_rfl) (fun _ _ _ h => h) (Or.inl ⟨by rfl, ?_⟩) (by assumption) ?_
                rotate_left
                · intro W hSW
                  simp only [List.getElem_toArray, List.getElem_cons_zero]
                  (try dsimp only at hSW)
                  go_simp
                  (try with_reducible rfl)
                simp only [List.getElem_toArray, List.getElem_cons_zero, Act.put, List.setIfInBounds_toArray, List.set_cons_zero, List.set_cons_succ]
                refine wpAnyT_take (i := 1) (v := ?_) rfl (by kernel_rfl) (fun _ _ _ h => h) (Or.inl ⟨by rfl, ?_⟩) (by assumption) ?_
                rotate_left
                · intro W hSW
                  simp only [List.getElem_toArray, List.getElem_cons_zero, List.getElem_cons_succ]
                  (try dsimp only at hSW)
                  go_simp
                  (try with_reducible rfl)
                simp only [List.getElem_toArray, List.getElem_cons_zero, List.getElem_cons_succ, Act.put, List.setIfInBounds_toArray, List.set_cons_zero, List.set_cons_succ]
                refine wpAnyT_take (i := 2) (v := ?_) rfl (by kernel_rfl) (fun _ _ _ h => h) (Or.inl ⟨by rfl, ?_⟩) (by assumption) ?_
                rotate_left
                · intro W hSW
                  simp only [List.getElem_toArray, List.getElem_cons_zero, List.getElem_cons_succ]
                  (try dsimp only at hSW)
                  go_simp
                  (try with_reducible rfl)
                simp only [List.getElem_toArray, List.getElem_cons_zero, List.getElem_cons_succ, Act.put, List.setIfInBounds_toArray, List.set_cons_zero, List.set_cons_succ]
                refine wpAnyT_take (i := 4) (v := ?_) rfl (by kernel_rfl) (fun _ _ _ h => h) (Or.inl ⟨by rfl, ?_⟩) (by assumption) ?_
                rotate_left
                · intro W hSW
                  simp only [List.getElem_toArray, List.getElem_cons_zero, List.getElem_cons_succ]
                  (try dsimp only at hSW)
                  go_simp
                  (try with_reducible rfl)
                simp only [List.getElem_toArray, List.getElem_cons_zero, List.getElem_cons_succ, Act.put, List.setIfInBounds_toArray, List.set_cons_zero, List.set_cons_succ]
                refine wpAnyT_go (i := 3) (by kernel_rfl) rfl (fun K hK => ?_)
                simp only [List.getElem_toArray, List.getElem_cons_zero, List.getElem_cons_succ]
                go_simp
                refine (SA.out _).mono ?_
                rintro e W1 ⟨rfl, hx1⟩
                have hxa1 : Ext wr W1 := hxq.dr.tr hx1
                go_wp2_with fail
                refine hK.out _ _ ?_ (fun hHeld => ?_)
                · (exact hxa1.ce' k2)
                clear hK K
                refine wpAnyT_go (i := 5) (by kernel_rfl) rfl (fun K hK => ?_)
                simp only [List.getElem_toArray, List.getElem_cons_zero, List.getElem_cons_succ]
                go_simp
                refine (SB.out _).mono ?_
                rintro e W2 ⟨rfl, hx2⟩
                have hxa2 : Ext wr W2 := hxa1.tr hx2
                go_wp2_with fail
                refine hK.out _ _ ?_ (fun hHeld => ?_)
                · (exact hxa2.ce' k2)
                clear hK K
                refine wpAnyT_take (i := 6) (v := ?_) rfl (by kernel_rfl) (fun _ _ _ h => h) (Or.inl ⟨by rfl, ?_⟩) (by assumption) ?_
                rotate_left
                · intro W hSW
                  simp only [List.getElem_toArray, List.getElem_cons_zero, List.getElem_cons_succ]
                  (try dsimp only at hSW)
                  go_simp
                  (try with_reducible rfl)
                simp only [List.getElem_toArray, List.getElem_cons_zero, List.getElem_cons_succ, Act.put, List.setIfInBounds_toArray, List.set_cons_zero, List.set_cons_succ]
                refine wpAnyT_go (i := 7) (by kernel_rfl) rfl (fun K hK => ?_)
                simp only [List.getElem_toArray, List.getElem_cons_zero, List.getElem_cons_succ]
                go_simp
                obtain ⟨W3, hW3⟩ : ∃ W3, W2.alloc (.cells #[.int .i64 (saidR A1), .int .i64 (saidR B1)] 48) = W3 := ⟨_, rfl⟩
                have hxa3 : Ext wr W3 := hW3 ▸ hxa2.al _
                have hne2 := new2 W2 rfl (.int .i64 (saidR A1)) (.int .i64 (saidR B1)) 48
                rw [hW3] at hne2 ⊢
                have hf5 : f.length ≤ 5000 := by omega
                have hsz3 := hxa3.size
                refine hK.out _ _ ?_ (fun hHeld => ?_)
                · (exact hxa3.ce' k2)
                clear hK K
                refine wpAnyT_go (i := 8) (by kernel_rfl) rfl (fun K hK => ?_)
                simp only [List.getElem_toArray, List.getElem_cons_zero, List.getElem_cons_succ]
                refine wp_append_own _ _ _ _ (by rfl) (X + 1) 48 ir _ 2 16 Tryd.underlying39 ir1 ir2 ir3 ir4 rfl (by decide) (.slice fa f.length fcp) f.length (cells2 Run.At Run.N f) (by rfl) (ownsRow_ext HOR.out hxa3) ⟨W2.heap.size, 0, none⟩ 1 1 [.int .i64 (saidR A1), .int .i64 (saidR B1)] (by rfl) (by rfl) hne2 (one2 _ _ _ _) (by unfold maxLen; omega) (by omega) (by omega) (fun v5 W5 hown5 hgrow5 hnil5 => ?_)
                obtain ⟨g5, c5, rfl⟩ := own_someT hown5 (by omega)
                have hX5 : W5.heap[X]? = some (.cells #[.string (tx N1), .int .i64 p, .slice fa f.length fcp] 41 (0, 0)) := (hgrow5.block _ (by omega) (fun e => by have := own_lt HOR.out _ e.symm; omega)).trans (blk_extT HXk.out hxa3)
                have hx5 : Ext w3 W5 := (HWk.out.tr hxa3).gr hgrow5 (fun g hg => by have := own_lt HOR.out g hg; omega)
                have k25 := cell_of_row _ _ 2 _ _ _ hX5
                have f25 := frozen_of_row _ _ 2 _ _ hX5
                refine hK.out _ _ ?_ (fun hHeld => ?_)
                · (exact k25)
                clear hK K
                refine wpAnyT_take (i := 9) (v := ?_) rfl (by kernel_rfl) (fun _ _ _ h => h) (Or.inl ⟨by rfl, ?_⟩) (by assumption) ?_
                rotate_left
                · intro W hSW
                  simp only [List.getElem_toArray, List.getElem_cons_zero, List.getElem_cons_succ]
                  (try dsimp only at hSW)
                  go_simp
                  (try with_reducible rfl)
                simp only [List.getElem_toArray, List.getElem_cons_zero, List.getElem_cons_succ, Act.put, List.setIfInBounds_toArray, List.set_cons_zero, List.set_cons_succ]
                refine wpAnyT_last (t := 10) (by kernel_rfl) rfl (by kernel_rfl) (fun K hK => ?_)
                simp only [List.getElem_toArray, List.getElem_cons_zero, List.getElem_cons_succ]
                go_simp
                refine hK.out _ _ ?_
                clear hK K
                have HX6 := hid (heap_setCell_same W5 X 2 _ _ (.slice (some ⟨g5, 0, none⟩) (f.length + 1) c5) hX5)
                have HO6 := hid (ownsRow_setCell (c := X) (o := 2) (u := .slice (some ⟨g5, 0, none⟩) (f.length + 1) c5) hown5 (by omega))
                have HXX := hid (hx5.se (b := X) (o := 2) hX3 (.slice (some ⟨g5, 0, none⟩) (f.length + 1) c5))
                generalize W5.setCell ⟨X, 2, none⟩ (.slice (some ⟨g5, 0, none⟩) (f.length + 1) c5) = W6 at *
                clear hHeld k2 k25 f25 hX5 hx5 hown5 hgrow5 hnil5 hW3 hxa1 hxa2 hxa3 hx1 hx2 hne2 HOR HXk HWk
                go_wp2_with fail
                go_roundw
                case rel =>
                  refine ⟨U2, tx U2, m2, f ++ [⟨saidR A1, saidR B1⟩], _, rfl, rfl, tx_size U2, HB2.out, hid rfl, HST, HX6, hid ?_, HI2, HXX⟩
                  have := HO6.out
                  simpa [cells2] using this
                case measure =>
                  have h1 := HLT.out
                  have e1 := tx_size U2
                  cases m2
                  · show (tx U2).size + 0 < R2.size + 1
                    simp at h1; omega
                  · show (tx U2).size + 1 < R2.size + 1
                    simp at h1; omega
              | false =>
                have HFL := hid (show fromLine l L1 = ⟨tx N1, p, f⟩ from by
                  obtain ⟨hL1, hR1, hH1, hU1, hm1, hN1, hP1, hb1⟩ := HS.out
                  have e := HRG.out
                  rw [runsGo_no, List.append_nil] at e
                  unfold fromLine
                  rw [hH1, hN1, hP1, hb1, hm1, hU1, ← HPF.out, e]; rfl)
                obtain ⟨fa, fcp, rfl⟩ := ownsRow_slice HOR.out
                obtain ⟨iq, iq1, iq2, iq3, iq4⟩ := info_parts queue_info
                have hX0 := HXk.out
                have k0 := cell_of_row _ X 0 _ _ _ hX0
                have k1 := cell_of_row _ X 1 _ _ _ hX0
                have k2 := cell_of_row _ X 2 _ _ _ hX0
                have hI := HI.out
                have hpb : -1 ≤ p ∧ p < 5000 := by
                  rw [HPF.out]
                  have := lastT_bnd l P1 l.length
                  split <;> omega
                have hrv : RunsV wr (.slice fa f.length fcp) f := sv_of_owns2 HOR.out hI (by omega)
                obtain ⟨x, hx⟩ : ∃ x : Queue, x = ⟨tx N1, p, f⟩ := ⟨_, rfl⟩
                have hqc : QueueC wr [.string (tx N1), .int .i64 p, .slice fa f.length fcp] x := ⟨_, by rw [hx], by rw [hx]; exact hrv, by rw [hx]; show (tx N1).size ≤ _; rw [tx_size]; omega, by rw [hx]; show I64 p; unfold I64; omega⟩
                have hxa := (Ext.rf wr).al (.cells #[.string (tx N1), .int .i64 p, .slice fa f.length fcp] 41)
                obtain ⟨css, hA⟩ := HOW.out
                have hx03 := HX3.out.tr (HWk.out.tr hxa)
                have hnew : ∀ u ∈ ([.string (tx N1), .int .i64 p, .slice fa f.length fcp] : List Value), NewT w3.heap.size (wr.alloc (.cells #[.string (tx N1), .int .i64 p, .slice fa f.length fcp] 41)) u := fun u hu => by
                  simp only [List.mem_cons, List.not_mem_nil, or_false] at hu
                  rcases hu with rfl | rfl | rfl
                  · intro a n c e; cases e
                  · intro a n c e; cases e
                  · intro a n c e
                    have hb := HOR.out.lt a.block (by rw [e]; rfl)
                    exact ⟨by omega, by rw [World.size_alloc]; omega⟩
                have hone := hqc.one
                have hn3 := cell_three_new wr (.string (tx N1)) (.int .i64 p) (.slice fa f.length fcp) 41
                have HO1 := hid (ownsRow_ext hA.row hx03)
                have hsz0 := (HX.out.tr hx03).size
                have HSZ0 := hid hsz0
                have hsz3 := HX3.out.size
                have HSN := hid (fun (g cap : Nat) (W5 : World) => hA.snoc (g := g) (cap := cap) (W5 := W5) hx03 (hqc.mono hxa) (fun u hu a n c e => ⟨Nat.le_trans hsz3 (hnew u hu a n c e).1, (hnew u hu a n c e).2⟩))
                have HX1 := hid (HX.out.tr hx03)
                have HOWN := hid (fun rr hr => (hA.row.lt rr hr).1)
                have HN3 := hid hn3
                have HONE := hid hone
                have HXX := hid hx
                clear hX0 hI hrv hqc hxa hx03 hnew hone hn3 hsz0 hsz3 hA hx
                go_wp2_with (at_builtin; refine wpList_append_lies _ rfl _ _ 22 rfl w.heap.size 41 iq _ 3 48 Tryd.underlying22 iq1 iq2 iq3 iq4 rfl (by decide) (.slice a l.length cp) l.length css.flatten rfl HO1.out ⟨wr.heap.size, 0, none⟩ 1 1 [.string (tx N1), .int .i64 p, .slice fa f.length fcp] rfl rfl HN3.out HONE.out (by omega) (by unfold maxLen; omega) (by omega) HSZ0.out (wr.heap.size + 1) (by simp) ?_; intro g2 cap2 W2 hown hgrow hlie hlt2; have HO2 := hid (HSN.out g2 cap2 W2 hown hgrow (hlie.imp_right fun e => e.trans (by simp only [World.size_alloc]))); have HX2 := hid (HX1.out.gr (v := .slice a l.length cp) hgrow HOWN.out); clear hown hgrow hlie hlt2)
                go_roundw
                case rel =>
                  have e : (l ++ [x]).length = l.length + 1 := by simp
                  refine ⟨l ++ [x], R1, tx R1, _, _, by rw [e], rfl, by rw [e]; omega, tx_size R1, hid rfl, hid ?_, by rw [e] at HO2; exact HO2, HX2⟩
                  obtain ⟨hL1, hR1, _⟩ := HS.out
                  rw [HF.out]
                  obtain ⟨m, hm⟩ : ∃ m, r.length = m + 1 := ⟨r.length - 1, by omega⟩
                  rw [hm, fromGo, if_neg hr, hL1, hR1, HFL.out, ← HXX.out]
                  exact fromGo_fuel _ _ _ _ (by omega) (Nat.le_refl _)
                case measure =>
                  show (tx R1).size < R.size
                  rw [tx_size]; omega
end Go.Proofs.YtdcndkojmflhnaaDoor
