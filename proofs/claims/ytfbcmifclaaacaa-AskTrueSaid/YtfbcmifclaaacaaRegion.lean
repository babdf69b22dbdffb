/- Drawn regions. -/
import Derived.Deep.Quiet
import Derived.StillTail
import Derived.Test.YtfbcmifclaaacaaBase
import Derived.Tactics

/- Regions that draw their order: a head of operations that are quiet in a class of worlds (here: all worlds that extend w), in whatever order, then a tail whose order is forced. -/
set_option linter.unusedVariables false
namespace Go.Proofs.Ytfbcmifclaaacaa
open Go.RowKit

section
variable {P : Program} {ops : Array Oper} {md : Region.Mode} {C : World → Prop}

/-- the head's operations, in whatever order, none of the tail's among them; L at the end -/
def headAny (P : Program) (md : Region.Mode) (ops : Array Oper) (C : World → Prop) (n : Nat) (L : Array Bool → Act → Prop) : Nat → Array Bool → Act → Prop
  | 0, listed, a => L listed a
  | f + 1, listed, a =>
    Region.ready md ops listed ≠ [] ∧ ∀ i ∈ Region.ready md ops listed, i < n ∧ qOp P ops C i (headAny P md ops C n L f (listed.setIfInBounds i true)) a

theorem any_of_headAny {n g : Nat} {L : Array Bool → Act → Prop} {Q' : Exit → Act → World → Prop} (hL : ∀ listed a w, C w → L listed a → wpAny P md ops Q' g listed a w) :
    ∀ (f : Nat) (listed : Array Bool) (a : Act) (w : World), C w → headAny P md ops C n L f listed a → wpAny P md ops Q' (f + g) listed a w
  | 0, listed, a, w, hw, h => by rw [Nat.zero_add]; exact hL _ _ _ hw h
  | f + 1, listed, a, w, hw, h => by
    rw [show f + 1 + g = (f + g) + 1 by omega]
    exact ⟨fun h0 => absurd h0 h.1, fun i hi => wpOp_of_qOp hw (fun a' w' hw' h' => any_of_headAny hL f _ a' w' hw' h') (h.2 i hi).2⟩

theorem headAny_first {n i : Nat} {oi : Oper} {v : Value} {L : Array Bool → Act → Prop} (hi : ops[i]? = some oi) (hsel : ∀ (j : Nat) (o : Oper) cs b, ops[j]? = some o → o.op ≠ .select cs b)
    (hs : Region.sinkB md ops n = true) (hc : Region.chainB md ops n = true) (hn : n < ops.size) (hin : i < n)
    (hdone : ∀ listed a, L listed a → ∀ j ∈ Region.ready md ops listed, n ≤ j) :
    ∀ (f : Nat) (listed : Array Bool) (a : Act), HeadInv md ops n listed →
      (∀ j oj, ops[j]? = some oj → j ≠ i → listed.getD j true = false → (∀ e ∈ oj.after, Region.binds md e = true → e.on ≠ i) → oi.apart ops oj = true) →
      i ∈ Region.ready md ops listed → YieldsIn P ops C oi v a →
      headAny P md ops C n L f (listed.setIfInBounds i true) (a.put oi.dst v) → headAny P md ops C n L (f + 1) listed a := by
  intro f
  induction f with
  | zero =>
    intro listed a inv _ hr hy H
    have hun := (mem_ready.1 hr).1
    refine ⟨fun h => (by rw [h] at hr; cases hr), fun j hj => ?_⟩
    have hjn : j < n := (Nat.lt_or_ge j n).elim id (fun h => absurd hj (tail_waits hs hc hn inv _ i rfl hin hun j h))
    refine ⟨hjn, ?_⟩
    by_cases hji : j = i
    · subst hji; exact hy.qOp hi H
    · have := hdone _ _ H j (ready_mono hj hji)
      omega
  | succ f ih =>
    intro listed a inv hfree hr hy H
    have hun := (mem_ready.1 hr).1
    refine ⟨fun h => (by rw [h] at hr; cases hr), fun j hj => ?_⟩
    have hjn : j < n := (Nat.lt_or_ge j n).elim id (fun h => absurd hj (tail_waits hs hc hn inv _ i rfl hin hun j h))
    refine ⟨hjn, ?_⟩
    by_cases hji : j = i
    · subst hji; exact hy.qOp hi H
    · obtain ⟨hjun, oj, hoj, hall⟩ := mem_ready.1 hj
      have hnot : ∀ e ∈ oj.after, Region.binds md e = true → e.on ≠ i := fun e he hb heq => by
        have h1 := hall e he hb
        rw [heq, getD_both hun] at h1
        cases h1
      have h2 := qOp_put hoj (hfree j oj hoj hji hjun hnot) (fun cs b => hsel i oi cs b hi) (fun cs b => hsel j oj cs b hoj) hy (H.2 j (ready_mono hj hji)).2
      have hfree' : ∀ k ok, ops[k]? = some ok → k ≠ i → (listed.setIfInBounds j true).getD k true = false →
          (∀ e ∈ ok.after, Region.binds md e = true → e.on ≠ i) → oi.apart ops ok = true := fun k ok hk hki hk2 hno => by
        refine hfree k ok hk hki ?_ hno
        by_cases hjk : j = k
        · subst hjk; exact hjun
        · rwa [getD_set_ne true hjk] at hk2
      refine qOp_mono (fun a' h3 => ih (listed.setIfInBounds j true) a' (inv.set hj hjn) hfree' (ready_mono hr (Ne.symm hji)) h3.1 ?_) h2
      rw [Array.setIfInBounds_comm _ _ hji]
      exact h3.2

theorem headAny_lex {n g : Nat} {Lq : Act → Prop} (hsel : Region.noSelect ops = true) (hs : Region.sinkB md ops n = true) (hc : Region.chainB md ops n = true) (hn : n < ops.size) :
    ∀ (l : List Oper) (k : Nat) (listed : Array Bool) (a : Act), (∀ j, j < l.length → l[j]? = ops[k + j]?) → k + l.length = n → HeadInv md ops n listed →
    Region.lexHead md ops g l.length k listed = true → wpQuiet P ops C Lq l a →
    headAny P md ops C n (fun listed' a' => Region.seqB md ops g n listed' = true ∧ Lq a') l.length listed a
  | [], k, listed, a, _, hk, _, hB, h => by
    have : k = n := by simpa using hk
    subst this
    exact ⟨by simpa [Region.lexHead] using hB, h⟩
  | o :: l, k, listed, a, hl, hk, inv, hB, h => by
    have h0 : ops[k]? = some o := by simpa using (hl 0 (by simp)).symm
    simp only [List.length_cons, Region.lexHead, Bool.and_eq_true] at hB
    obtain ⟨⟨hr, hf⟩, hB'⟩ := hB
    have hkn : k < n := by simp only [List.length_cons] at hk; omega
    have hr' : k ∈ Region.ready md ops listed := by simpa using hr
    have hst : qOp P ops C k (wpQuiet P ops C Lq l) a := by unfold qOp; simp only [h0]; exact h
    obtain ⟨v, hy, hK⟩ := yieldsIn_of_qOp h0 hst
    exact headAny_first h0 (Region.noSelect_spec hsel) hs hc hn hkn (fun listed' a' hL => seqB_ready hL.1) l.length listed a inv (Region.free_spec h0 hf) hr' hy
      (headAny_lex hsel hs hc hn l (k + 1) _ _ (fun j hj => by have := hl (j + 1) (by simp; omega); simpa [Nat.add_assoc, Nat.add_comm 1 j] using this) (by simp only [List.length_cons] at hk; omega) (inv.set hr' hkn) hB' hK)

/-- a head of n quiet operations, then a forced tail -/
theorem region_quiet_tail {id : Nat} {Q : Exit → Act → World → Prop} {a : Act} {w : World} {l : List Oper} (n : Nat) (hm : P.follows .mixedOrders = true) (hB : Region.lexTailB .any l.toArray n = true) (hC : C { w with drawn := w.drawn + 1 })
    (h : wpQuiet P l.toArray C (fun a' => ∀ w', C w' → wpList P l.toArray Q (l.drop n) a' w') (l.take n) a) : (Code.region id l.toArray true).wp P Q a w := by
  simp only [Region.lexTailB, Bool.and_eq_true, decide_eq_true_eq] at hB
  obtain ⟨⟨⟨⟨hsel, hn⟩, hs⟩, hc⟩, hlex⟩ := hB
  have hn' : n < l.length := by simpa using hn
  have htl : (l.take n).length = n := by simp; omega
  have hdl : (l.drop n).length = l.toArray.size - n := by simp
  have inv0 : HeadInv .any l.toArray n (Array.replicate l.toArray.size false) :=
    ⟨by simp, fun j oj _ hl => (by rw [getD_replicate_false] at hl; cases hl), fun t _ ht => getD_in (by simpa using ht) (getD_replicate_false _ _)⟩
  have H := headAny_lex (md := .any) (C := C) (g := l.toArray.size - n) hsel hs hc hn (l.take n) 0 _ a (fun j hj => by
    have hj' : j < n := by rw [htl] at hj; exact hj
    simp [hj']) (by simpa using htl) inv0 (by rw [htl]; exact hlex) h
  refine wp_region_any hm ?_
  have := any_of_headAny (Q' := Q) (g := l.toArray.size - n) (fun listed a' w' hw' hL => by
    have := wpAny_of_seq (md := .any) (Q' := Q) (l.drop n) n listed a' w' (fun j => by simp [List.getElem?_drop]) (by rw [hdl]; exact hL.1) (hL.2 w' hw')
    rwa [hdl] at this) _ _ _ _ hC H
  rw [htl, show n + (l.toArray.size - n) = l.toArray.size by omega] at this
  exact this
end

/-! ### the class of all worlds that extend w -/

structure Later (w : World) where
  v : World
  h : Ext w v

instance (w : World) : Nonempty (Later w) := ⟨⟨w, Ext.rf w⟩⟩

abbrev LaterC (w : World) : World → Prop := fun w' => ∃ p : Later w, w' = p.v

theorem Later.cell {w : World} (p : Later w) {a : Addr} {u : Value} (h : w.cell? a = some u) : p.v.cell? a = some u := by
  rw [p.h.cell (World.block_lt_of_cell? w a h)]; exact h

theorem region_later {P : Program} {id : Nat} {Q : Exit → Act → World → Prop} {a : Act} {w : World} {l : List Oper} (hm : P.follows .mixedOrders = true) (hB : Region.lexB .any l.toArray = true)
    (h : wpQuiet P l.toArray (fun w' => ∃ p : Later w, w' = p.v) (fun a' => ∀ w', (∃ p : Later w, w' = p.v) → Q .normal a' w') l a) : (Code.region id l.toArray true).wp P Q a w :=
  wp_region_quiet (C := fun w' => ∃ p : Later w, w' = p.v) hm hB ⟨⟨w.drew, Ext.dr (Ext.rf w)⟩, rfl⟩ (by simpa using h)

theorem region_later_tail {P : Program} {id : Nat} {Q : Exit → Act → World → Prop} {a : Act} {w : World} {l : List Oper} (n : Nat) (hm : P.follows .mixedOrders = true) (hB : Region.lexTailB .any l.toArray n = true)
    (h : wpQuiet P l.toArray (fun w' => ∃ p : Later w, w' = p.v) (fun a' => ∀ w', (∃ p : Later w, w' = p.v) → wpList P l.toArray Q (l.drop n) a' w') (l.take n) a) : (Code.region id l.toArray true).wp P Q a w :=
  region_quiet_tail (C := fun w' => ∃ p : Later w, w' = p.v) n hm hB ⟨⟨w.drew, Ext.dr (Ext.rf w)⟩, rfl⟩ h

/-- a contract, met in a world of the class -/
theorem later_of {P : Program} {f : FuncId} {args : Array Value} {w : World} (p : Later w) {v : Value} (h : Calls P f args p.v fun e w' => e = .returned v ∧ Ext p.v w') :
    Calls P f args p.v fun e w' => e = .returned v ∧ ∃ q : Later w, w' = q.v :=
  h.mono fun _ w' ⟨he, hx⟩ => ⟨he, ⟨w', p.h.tr hx⟩, rfl⟩

theorem later_of_same {P : Program} {f : FuncId} {args : Array Value} {w : World} (p : Later w) {v : Value} (h : Calls P f args p.v fun e w' => e = .returned v ∧ w' = p.v) :
    Calls P f args p.v fun e w' => e = .returned v ∧ ∃ q : Later w, w' = q.v :=
  h.mono fun _ w' ⟨he, hx⟩ => ⟨he, p, hx⟩

end Go.Proofs.Ytfbcmifclaaacaa

/- Regions that draw their order in which one block is laid (operation number ia) beside operations that are quiet, a forced tail behind them: one walk in the order of the text serves. -/
set_option linter.unusedVariables false
namespace Go.Proofs.Ytfbcmifclaaacaa
open Go.RowKit

section
variable {P : Program} {ops : Array Oper} {md : Region.Mode} {D0 D1 : World → Prop} {ia : Nat} {oa : Oper} {va : Value}

/-- one value, in every world of either class; the class is kept -/
def quiet2 (P : Program) (D0 D1 : World → Prop) (o : Oper) (a : Act) (next : Act → Prop) : Prop :=
  ∃ v, ((∀ w, D0 w → o.quietAt P a D0 w v) ∧ (∀ w, D1 w → o.quietAt P a D1 w v)) ∧ next (a.put o.dst v)

def op2 (P : Program) (ops : Array Oper) (D0 D1 : World → Prop) (ia : Nat) (va : Value) (i : Nat) (K : Act → Prop) (a : Act) : Prop :=
  match ops[i]? with
  | none => K a
  | some o => if i = ia then K (a.put o.dst va) else if Region.wanted o (yielded ops a.tmps) then quiet2 P D0 D1 o a K else K (a.put o.dst undef)

theorem op2_mono {i : Nat} {K K' : Act → Prop} {a : Act} (h : ∀ a, K a → K' a) (hh : op2 P ops D0 D1 ia va i K a) : op2 P ops D0 D1 ia va i K' a := by
  unfold op2 at *
  cases ho : ops[i]? with
  | none => simp only [ho] at hh ⊢; exact h _ hh
  | some o =>
    simp only [ho] at hh ⊢
    by_cases hi : i = ia
    · rw [if_pos hi] at hh ⊢; exact h _ hh
    · rw [if_neg hi] at hh ⊢
      by_cases hw : Region.wanted o (yielded ops a.tmps) = true
      · rw [if_pos hw] at hh ⊢
        obtain ⟨v, h1, h2⟩ := hh
        exact ⟨v, h1, h _ h2⟩
      · rw [if_neg hw] at hh ⊢; exact h _ hh

/-- what operation i leaves -/
def Yields2 (P : Program) (ops : Array Oper) (D0 D1 : World → Prop) (ia : Nat) (va : Value) (i : Nat) (o : Oper) (v : Value) (a : Act) : Prop :=
  if i = ia then v = va else YieldsIn P ops D0 o v a ∧ YieldsIn P ops D1 o v a

theorem yields2_of {i : Nat} {o : Oper} {a : Act} {K : Act → Prop} (hi : ops[i]? = some o) (h : op2 P ops D0 D1 ia va i K a) : ∃ v, Yields2 P ops D0 D1 ia va i o v a ∧ K (a.put o.dst v) := by
  unfold op2 at h
  simp only [hi] at h
  unfold Yields2
  by_cases he : i = ia
  · rw [if_pos he] at h; exact ⟨va, by rw [if_pos he], h⟩
  · rw [if_neg he] at h
    by_cases hw : Region.wanted o (yielded ops a.tmps) = true
    · rw [if_pos hw] at h
      obtain ⟨v, ⟨h1, h2⟩, h3⟩ := h
      exact ⟨v, by rw [if_neg he]; exact ⟨.inl ⟨hw, h1⟩, .inl ⟨hw, h2⟩⟩, h3⟩
    · rw [if_neg hw] at h
      exact ⟨undef, by rw [if_neg he]; exact ⟨.inr ⟨by simpa using hw, rfl⟩, .inr ⟨by simpa using hw, rfl⟩⟩, h⟩

theorem Yields2.op {i : Nat} {o : Oper} {v : Value} {a : Act} (hi : ops[i]? = some o) (hy : Yields2 P ops D0 D1 ia va i o v a) {K : Act → Prop} (h : K (a.put o.dst v)) : op2 P ops D0 D1 ia va i K a := by
  unfold op2
  simp only [hi]
  unfold Yields2 at hy
  by_cases he : i = ia
  · rw [if_pos he] at hy ⊢; subst hy; exact h
  · rw [if_neg he] at hy ⊢
    rcases hy.1 with ⟨hw, h1⟩ | ⟨hw, rfl⟩
    · rw [if_pos hw]
      rcases hy.2 with ⟨_, h2⟩ | ⟨hw', _⟩
      · exact ⟨v, ⟨h1, h2⟩, h⟩
      · rw [hw] at hw'; cases hw'
    · rw [if_neg (by rw [hw]; exact Bool.false_ne_true)]; exact h

theorem Yields2.put {i : Nat} {oi : Oper} {v : Value} {a : Act} {oj : Oper} (hap : oi.apart ops oj = true) (hsi : ∀ cs b, oi.op ≠ .select cs b) (hy : Yields2 P ops D0 D1 ia va i oi v a) (u : Value) :
    Yields2 P ops D0 D1 ia va i oi v (a.put oj.dst u) := by
  obtain ⟨h1, h2, h3⟩ := Oper.apart_spec hap
  unfold Yields2 at *
  by_cases he : i = ia
  · rw [if_pos he] at hy ⊢; exact hy
  · rw [if_neg he] at hy ⊢
    exact ⟨hy.1.of_same (execOp_put oi hsi a oj.dst u h3) (wanted_put oi a oj.dst u h3), hy.2.of_same (execOp_put oi hsi a oj.dst u h3) (wanted_put oi a oj.dst u h3)⟩

theorem op2_put {i j : Nat} {oi oj : Oper} {v : Value} (hj : ops[j]? = some oj) (hap : oi.apart ops oj = true)
    (hsi : ∀ cs b, oi.op ≠ .select cs b) (hsj : ∀ cs b, oj.op ≠ .select cs b) {K : Act → Prop} {a : Act}
    (hy : Yields2 P ops D0 D1 ia va i oi v a) (h : op2 P ops D0 D1 ia va j K (a.put oi.dst v)) :
    op2 P ops D0 D1 ia va j (fun a' => Yields2 P ops D0 D1 ia va i oi v a' ∧ K (a'.put oi.dst v)) a := by
  obtain ⟨h1, h2, h3⟩ := Oper.apart_spec hap
  unfold op2 at *
  simp only [hj] at *
  by_cases he : j = ia
  · rw [if_pos he] at h ⊢
    exact ⟨hy.put hap hsi _, by rw [← Act.put_comm a v va h2]; exact h⟩
  · rw [if_neg he] at h ⊢
    rw [wanted_put oj a oi.dst v h1] at h
    by_cases hw : Region.wanted oj (yielded ops a.tmps) = true
    · rw [if_pos hw] at h ⊢
      obtain ⟨u, ⟨hu0, hu1⟩, hn⟩ := h
      refine ⟨u, ⟨fun w hw' => ?_, fun w hw' => ?_⟩, hy.put hap hsi _, by rw [← Act.put_comm a v u h2]; exact hn⟩
      · have := hu0 w hw'
        unfold Oper.quietAt at *
        rwa [execOp_put oj hsj a oi.dst v h1] at this
      · have := hu1 w hw'
        unfold Oper.quietAt at *
        rwa [execOp_put oj hsj a oi.dst v h1] at this
    · rw [if_neg hw] at h ⊢
      exact ⟨hy.put hap hsi _, by rw [← Act.put_comm a v undef h2]; exact h⟩

/-- the head's operations, in whatever order -/
def head2 (P : Program) (md : Region.Mode) (ops : Array Oper) (D0 D1 : World → Prop) (ia : Nat) (va : Value) (n : Nat) (L : Array Bool → Act → Prop) : Nat → Array Bool → Act → Prop
  | 0, listed, a => L listed a
  | f + 1, listed, a =>
    Region.ready md ops listed ≠ [] ∧ ∀ i ∈ Region.ready md ops listed, i < n ∧ op2 P ops D0 D1 ia va i (head2 P md ops D0 D1 ia va n L f (listed.setIfInBounds i true)) a

/-- the class in which a world stands: has the block been laid? -/
def D2 (D0 D1 : World → Prop) (ia : Nat) (listed : Array Bool) (w : World) : Prop := if listed.getD ia false = true then D1 w else D0 w

theorem wp_of_op2 {i : Nat} {a : Act} {K : Act → Prop} {K' : Act → World → Prop} {Q' : Exit → Act → World → Prop} {w : World} {listed : Array Bool} (hia : ops[ia]? = some oa) (hga : oa.guard = none)
    (hrun : ∀ (a : Act) (w : World), D0 w → ∃ w', (execOp a.eval oa).run P w = .ok (.value va) w' ∧ D1 w') (hi : i ∈ Region.ready md ops listed) (hil : i < listed.size) (hw : D2 D0 D1 ia listed w)
    (h : ∀ a w', D2 D0 D1 ia (listed.setIfInBounds i true) w' → K a → K' a w') (hh : op2 P ops D0 D1 ia va i K a) : wpOp P ops Q' i K' a w := by
  have hun := (mem_ready.1 hi).1
  unfold op2 at hh
  unfold wpOp
  by_cases he : i = ia
  · subst he
    simp only [hia, if_true] at hh ⊢
    have hwd : Region.wanted oa (yielded ops a.tmps) = true := by simp [Region.wanted, hga]
    rw [if_pos hwd]
    have h0 : D0 w := by
      unfold D2 at hw
      rw [if_neg] at hw
      · exact hw
      · rw [getD_both hun]; exact Bool.false_ne_true
    obtain ⟨w', hr, h1⟩ := hrun a w h0
    left
    unfold Oper.wp
    rw [hr]
    show K' (a.put oa.dst va) w'
    refine h _ _ ?_ hh
    unfold D2
    rw [if_pos]
    · exact h1
    · simp [hil]
  · have hset : ∀ w, D2 D0 D1 ia listed w → D2 D0 D1 ia (listed.setIfInBounds i true) w := fun w hw => by
      unfold D2 at *
      rw [getD_set_ne false he]; exact hw
    cases ho : ops[i]? with
    | none => simp only [ho] at hh ⊢; exact h _ _ (hset _ hw) hh
    | some o =>
      simp only [ho] at hh ⊢
      rw [if_neg he] at hh
      by_cases hwd : Region.wanted o (yielded ops a.tmps) = true
      · rw [if_pos hwd] at hh ⊢
        obtain ⟨v, ⟨h0, h1⟩, h2⟩ := hh
        left
        by_cases hb : listed.getD ia false = true
        · have hw1 : D1 w := by unfold D2 at hw; rwa [if_pos hb] at hw
          refine Oper.wp_of_quiet (C := D1) hw1 (K := fun a' => a' = a.put o.dst v) (fun a' w' hw' e => ?_) ⟨v, h1, rfl⟩
          subst e
          refine h _ _ (hset _ ?_) h2
          unfold D2; rw [if_pos hb]; exact hw'
        · have hw0 : D0 w := by unfold D2 at hw; rwa [if_neg hb] at hw
          refine Oper.wp_of_quiet (C := D0) hw0 (K := fun a' => a' = a.put o.dst v) (fun a' w' hw' e => ?_) ⟨v, h0, rfl⟩
          subst e
          refine h _ _ (hset _ ?_) h2
          unfold D2; rw [if_neg hb]; exact hw'
      · rw [if_neg hwd] at hh ⊢; exact h _ _ (hset _ hw) hh

theorem any_of_head2 {n g : Nat} {L : Array Bool → Act → Prop} {Q' : Exit → Act → World → Prop} (hia : ops[ia]? = some oa) (hga : oa.guard = none)
    (hrun : ∀ (a : Act) (w : World), D0 w → ∃ w', (execOp a.eval oa).run P w = .ok (.value va) w' ∧ D1 w') (hL : ∀ listed a w, D2 D0 D1 ia listed w → L listed a → wpAny P md ops Q' g listed a w) :
    ∀ (f : Nat) (listed : Array Bool) (a : Act) (w : World), listed.size = ops.size → D2 D0 D1 ia listed w → head2 P md ops D0 D1 ia va n L f listed a → wpAny P md ops Q' (f + g) listed a w
  | 0, listed, a, w, _, hw, h => by rw [Nat.zero_add]; exact hL _ _ _ hw h
  | f + 1, listed, a, w, hs, hw, h => by
    rw [show f + 1 + g = (f + g) + 1 by omega]
    refine ⟨fun h0 => absurd h0 h.1, fun i hi => ?_⟩
    have hil : i < listed.size := by
      rcases Nat.lt_or_ge i listed.size with hh | hh
      · exact hh
      · have := (mem_ready.1 hi).1; simp [Array.getElem?_eq_none hh] at this
    exact wp_of_op2 hia hga hrun hi hil hw (fun a' w' hw' h' => any_of_head2 hia hga hrun hL f _ a' w' (by simp [hs]) hw' h') (h.2 i hi).2

theorem head2_first {n i : Nat} {oi : Oper} {v : Value} {L : Array Bool → Act → Prop} (hi : ops[i]? = some oi) (hsel : ∀ (j : Nat) (o : Oper) cs b, ops[j]? = some o → o.op ≠ .select cs b)
    (hs : Region.sinkB md ops n = true) (hc : Region.chainB md ops n = true) (hn : n < ops.size) (hin : i < n)
    (hdone : ∀ listed a, L listed a → ∀ j ∈ Region.ready md ops listed, n ≤ j) :
    ∀ (f : Nat) (listed : Array Bool) (a : Act), HeadInv md ops n listed →
      (∀ j oj, ops[j]? = some oj → j ≠ i → listed.getD j true = false → (∀ e ∈ oj.after, Region.binds md e = true → e.on ≠ i) → oi.apart ops oj = true) →
      i ∈ Region.ready md ops listed → Yields2 P ops D0 D1 ia va i oi v a →
      head2 P md ops D0 D1 ia va n L f (listed.setIfInBounds i true) (a.put oi.dst v) → head2 P md ops D0 D1 ia va n L (f + 1) listed a := by
  intro f
  induction f with
  | zero =>
    intro listed a inv _ hr hy H
    have hun := (mem_ready.1 hr).1
    refine ⟨fun h => (by rw [h] at hr; cases hr), fun j hj => ?_⟩
    have hjn : j < n := (Nat.lt_or_ge j n).elim id (fun h => absurd hj (tail_waits hs hc hn inv _ i rfl hin hun j h))
    refine ⟨hjn, ?_⟩
    by_cases hji : j = i
    · subst hji; exact hy.op hi H
    · have := hdone _ _ H j (ready_mono hj hji)
      omega
  | succ f ih =>
    intro listed a inv hfree hr hy H
    have hun := (mem_ready.1 hr).1
    refine ⟨fun h => (by rw [h] at hr; cases hr), fun j hj => ?_⟩
    have hjn : j < n := (Nat.lt_or_ge j n).elim id (fun h => absurd hj (tail_waits hs hc hn inv _ i rfl hin hun j h))
    refine ⟨hjn, ?_⟩
    by_cases hji : j = i
    · subst hji; exact hy.op hi H
    · obtain ⟨hjun, oj, hoj, hall⟩ := mem_ready.1 hj
      have hnot : ∀ e ∈ oj.after, Region.binds md e = true → e.on ≠ i := fun e he hb heq => by
        have h1 := hall e he hb
        rw [heq, getD_both hun] at h1
        cases h1
      have h2 := op2_put hoj (hfree j oj hoj hji hjun hnot) (fun cs b => hsel i oi cs b hi) (fun cs b => hsel j oj cs b hoj) hy (H.2 j (ready_mono hj hji)).2
      have hfree' : ∀ k ok, ops[k]? = some ok → k ≠ i → (listed.setIfInBounds j true).getD k true = false →
          (∀ e ∈ ok.after, Region.binds md e = true → e.on ≠ i) → oi.apart ops ok = true := fun k ok hk hki hk2 hno => by
        refine hfree k ok hk hki ?_ hno
        by_cases hjk : j = k
        · subst hjk; exact hjun
        · rwa [getD_set_ne true hjk] at hk2
      refine op2_mono (fun a' h3 => ih (listed.setIfInBounds j true) a' (inv.set hj hjn) hfree' (ready_mono hr (Ne.symm hji)) h3.1 ?_) h2
      rw [Array.setIfInBounds_comm _ _ hji]
      exact h3.2

/-- the lexical walk -/
def wpQuiet2 (P : Program) (ops : Array Oper) (D0 D1 : World → Prop) (ia : Nat) (va : Value) (Q : Act → Prop) : Nat → List Oper → Act → Prop
  | _, [], a => Q a
  | k, o :: rest, a => if k = ia then wpQuiet2 P ops D0 D1 ia va Q (k + 1) rest (a.put o.dst va) else if Region.wanted o (yielded ops a.tmps) then quiet2 P D0 D1 o a (wpQuiet2 P ops D0 D1 ia va Q (k + 1) rest) else wpQuiet2 P ops D0 D1 ia va Q (k + 1) rest (a.put o.dst undef)

theorem head2_lex {n g : Nat} {Lq : Act → Prop} (hsel : Region.noSelect ops = true) (hs : Region.sinkB md ops n = true) (hc : Region.chainB md ops n = true) (hn : n < ops.size) :
    ∀ (l : List Oper) (k : Nat) (listed : Array Bool) (a : Act), (∀ j, j < l.length → l[j]? = ops[k + j]?) → k + l.length = n → HeadInv md ops n listed → (∀ j, j < k → listed.getD j false = true) →
    Region.lexHead md ops g l.length k listed = true → wpQuiet2 P ops D0 D1 ia va Lq k l a →
    head2 P md ops D0 D1 ia va n (fun listed' a' => Region.seqB md ops g n listed' = true ∧ (∀ j, j < n → listed'.getD j false = true) ∧ Lq a') l.length listed a
  | [], k, listed, a, _, hk, _, hall, hB, h => by
    have : k = n := by simpa using hk
    subst this
    exact ⟨by simpa [Region.lexHead] using hB, hall, h⟩
  | o :: l, k, listed, a, hl, hk, inv, hall, hB, h => by
    have h0 : ops[k]? = some o := by simpa using (hl 0 (by simp)).symm
    simp only [List.length_cons, Region.lexHead, Bool.and_eq_true] at hB
    obtain ⟨⟨hr, hf⟩, hB'⟩ := hB
    have hkn : k < n := by simp only [List.length_cons] at hk; omega
    have hr' : k ∈ Region.ready md ops listed := by simpa using hr
    have hst : op2 P ops D0 D1 ia va k (wpQuiet2 P ops D0 D1 ia va Lq (k + 1) l) a := by
      unfold op2; simp only [h0]; exact h
    obtain ⟨v, hy, hK⟩ := yields2_of h0 hst
    have hall' : ∀ j, j < k + 1 → (listed.setIfInBounds k true).getD j false = true := fun j hj => by
      by_cases e : k = j
      · subst e
        have : k < listed.size := by rw [inv.size]; omega
        simp [this]
      · rw [getD_set_ne false e]; exact hall j (by omega)
    exact head2_first h0 (Region.noSelect_spec hsel) hs hc hn hkn (fun listed' a' hL => seqB_ready hL.1) l.length listed a inv (Region.free_spec h0 hf) hr' hy
      (head2_lex hsel hs hc hn l (k + 1) _ _ (fun j hj => by have := hl (j + 1) (by simp; omega); simpa [Nat.add_assoc, Nat.add_comm 1 j] using this) (by simp only [List.length_cons] at hk; omega) (inv.set hr' hkn) hall' hB' hK)

/-- a head of n operations, one of them (number ia) laying a block, then a forced tail -/
theorem region_alloc_tail {id : Nat} {Q : Exit → Act → World → Prop} {a : Act} {w : World} {l : List Oper} (n ia : Nat) {oa : Oper} {va : Value} {D0 D1 : World → Prop} (hm : P.follows .mixedOrders = true) (hB : Region.lexTailB .any l.toArray n = true)
    (hia : l[ia]? = some oa) (han : ia < n) (hga : oa.guard = none) (hrun : ∀ (a : Act) (w : World), D0 w → ∃ w', (execOp a.eval oa).run P w = .ok (.value va) w' ∧ D1 w') (hC : D0 { w with drawn := w.drawn + 1 })
    (h : wpQuiet2 P l.toArray D0 D1 ia va (fun a' => ∀ w', D1 w' → wpList P l.toArray Q (l.drop n) a' w') 0 (l.take n) a) : (Code.region id l.toArray true).wp P Q a w := by
  simp only [Region.lexTailB, Bool.and_eq_true, decide_eq_true_eq] at hB
  obtain ⟨⟨⟨⟨hsel, hn⟩, hs⟩, hc⟩, hlex⟩ := hB
  have hn' : n < l.length := by simpa using hn
  have htl : (l.take n).length = n := by simp; omega
  have hdl : (l.drop n).length = l.toArray.size - n := by simp
  have inv0 : HeadInv .any l.toArray n (Array.replicate l.toArray.size false) :=
    ⟨by simp, fun j oj _ hl => (by rw [getD_replicate_false] at hl; cases hl), fun t _ ht => getD_in (by simpa using ht) (getD_replicate_false _ _)⟩
  have H := head2_lex (md := .any) (g := l.toArray.size - n) hsel hs hc hn (l.take n) 0 _ a (fun j hj => by
    have hj' : j < n := by rw [htl] at hj; exact hj
    simp [hj']) (by simpa using htl) inv0 (fun j hj => absurd hj (Nat.not_lt_zero _)) (by rw [htl]; exact hlex) h
  refine wp_region_any hm ?_
  have := any_of_head2 (Q' := Q) (g := l.toArray.size - n) (oa := oa) (by simpa using hia) hga hrun (fun listed a' w' hw' hL => by
    have hw1 : D1 w' := by unfold D2 at hw'; rwa [if_pos (hL.2.1 ia han)] at hw'
    have := wpAny_of_seq (md := .any) (Q' := Q) (l.drop n) n listed a' w' (fun j => by simp [List.getElem?_drop]) (by rw [hdl]; exact hL.1) (hL.2.2 w' hw1)
    rwa [hdl] at this) _ _ _ _ (by simp) (by unfold D2; rw [if_neg (by rw [getD_replicate_false]; exact Bool.false_ne_true)]; exact hC) H
  rw [htl, show n + (l.toArray.size - n) = l.toArray.size by omega] at this
  exact this

theorem wpQuiet2_nil {k : Nat} {Q : Act → Prop} {a : Act} (h : Q a) : wpQuiet2 P ops D0 D1 ia va Q k [] a := h
theorem wpQuiet2_step {k : Nat} {Q : Act → Prop} {a : Act} {o : Oper} {rest : List Oper} (hk : (k == ia) = false)
    (h : ∀ K : Act → Prop, (∀ a, wpQuiet2 P ops D0 D1 ia va Q (k + 1) rest a → K a) → if Region.wanted o (yielded ops a.tmps) then quiet2 P D0 D1 o a K else K (a.put o.dst undef)) : wpQuiet2 P ops D0 D1 ia va Q k (o :: rest) a := by
  unfold wpQuiet2
  rw [if_neg (by simpa using hk)]
  exact h _ (fun _ h => h)
theorem wpQuiet2_alloc {k : Nat} {Q : Act → Prop} {a : Act} {o : Oper} {rest : List Oper} (hk : (k == ia) = true) (h : wpQuiet2 P ops D0 D1 ia va Q (k + 1) rest (a.put o.dst va)) : wpQuiet2 P ops D0 D1 ia va Q k (o :: rest) a := by
  unfold wpQuiet2
  rw [if_pos (by simpa using hk)]
  exact h
end

/-- the two classes: some draws behind w; the block besides -/
theorem region_box_tail {P : Program} {id : Nat} {Q : Exit → Act → World → Prop} {a : Act} {w : World} {l : List Oper} (n ia : Nat) {oa : Oper} (o : Obj) (hm : P.follows .mixedOrders = true) (hB : Region.lexTailB .any l.toArray n = true)
    (hia : l[ia]? = some oa) (han : (decide (ia < n)) = true) (hga : oa.guard = none) (hrun : ∀ (a : Act) (w : World), (execOp a.eval oa).run P w = .ok (.value (.pointer (some ⟨w.heap.size, 0, none⟩))) (w.alloc o))
    (h : wpQuiet2 P l.toArray (fun w' => ∃ m, w' = w.drewN m) (fun w' => ∃ m, w' = (w.alloc o).drewN m) ia (.pointer (some ⟨w.heap.size, 0, none⟩)) (fun a' => ∀ m, wpList P l.toArray Q (l.drop n) a' ((w.alloc o).drewN m)) 0 (l.take n) a) : (Code.region id l.toArray true).wp P Q a w := by
  refine region_alloc_tail (D0 := fun w' => ∃ m, w' = w.drewN m) (D1 := fun w' => ∃ m, w' = (w.alloc o).drewN m) (va := .pointer (some ⟨w.heap.size, 0, none⟩)) n ia hm hB hia (of_decide_eq_true han) hga ?_ ⟨1, rfl⟩ ?_
  · rintro a _ ⟨m, rfl⟩
    refine ⟨_, hrun a _, m, ?_⟩
    rfl
  · have e : (fun a' => ∀ w', (∃ m, w' = (w.alloc o).drewN m) → wpList P l.toArray Q (l.drop n) a' w') = (fun a' => ∀ m, wpList P l.toArray Q (l.drop n) a' ((w.alloc o).drewN m)) := by
      funext a'
      exact propext ⟨fun h m => h _ ⟨m, rfl⟩, fun h w' ⟨m, e⟩ => e ▸ h m⟩
    rw [e]; exact h

end Go.Proofs.Ytfbcmifclaaacaa
