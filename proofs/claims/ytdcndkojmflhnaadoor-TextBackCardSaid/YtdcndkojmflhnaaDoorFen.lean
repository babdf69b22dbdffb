/- Regions in a round of a range over a function. -/
import Derived.OrdersIn
import Derived.RangeFuncCalls
import Derived.Deep.RegionHeld3
import Derived.WalkKit

/- A region that draws its order in a round of a range over a function: what is shown of it anywhere holds there. -/
set_option linter.unusedVariables false
namespace Go.Proofs.YtdcndkojmflhnaaDoor
open Go.RowKit

section
variable {P : Program} {ops : Array Oper} {Q : Exit → Act → World → Prop} {md : Region.Mode}

def noDeferB (ops : Array Oper) : Bool := ops.all fun o => match o.op with | .defer _ => false | _ => true
theorem noDefer_spec (h : noDeferB ops = true) {i : Nat} {o : Oper} (ho : ops[i]? = some o) : ∀ c, o.op ≠ .defer c := by
  intro c hc
  have := Array.all_eq_true.1 h i (Array.getElem?_eq_some_iff.1 ho).1
  rw [(Array.getElem?_eq_some_iff.1 ho).2, hc] at this
  cases this

theorem wpOpIn_of_wpOp {n l i : Nat} (hd : noDeferB ops = true) (hQ : ¬ LetsOut Q) {K : Act → World → Prop} {a : Act} {w : World} (h : wpOp P ops Q i K a w) : wpOpIn (Fence.wide.inRound l) n P ops Q i K a w := by
  unfold wpOp at h
  unfold Go.wpOpIn
  cases ho : ops[i]? with
  | none => simpa only [ho] using h
  | some o =>
    simp only [ho] at h ⊢
    split
    · rename_i hw
      rw [if_pos hw] at h
      rcases h with h | ⟨_, h⟩
      · unfold Oper.wp at h
        unfold Oper.wpIn
        refine ⟨fun f _ => trivial, ?_⟩
        rw [Oper.semAt_eq _ _ _ (noDefer_spec hd ho)]
        generalize (execOp a.eval o).run P w = r at *
        cases r with
        | ok x w' =>
          cases x <;> simp only [Oper.upon] at h <;> simp only [Oper.uponIn]
          case value v => exact h
          case skip => exact h
          case defer d => exact h
          case enter f args => exact ⟨fun h' => (by cases h'), CallsIn.inRound l (callsIn_wide.2 h)⟩
          case row row args => 
            refine ⟨fun h' => (by cases h'), fun c cs _ => ?_⟩
            obtain ⟨v, w', r, s⟩ := h c cs
            exact ⟨v, w', r, stepsIn_wide.2 s⟩
        | halt x w' => cases x <;> simp only [Oper.upon] at h <;> simp only [Oper.uponIn] <;> exact h
      · exact absurd h hQ
    · rename_i hw
      rw [if_neg hw] at h
      exact ⟨fun f _ => trivial, h⟩

theorem wpAnyIn_of_wpAny {n l : Nat} (hd : noDeferB ops = true) (hQ : ¬ LetsOut Q) : ∀ (fuel : Nat) (listed : Array Bool) (a : Act) (w : World), wpAny P md ops Q fuel listed a w → wpAnyIn (Fence.wide.inRound l) n P md ops Q fuel listed a w
  | 0, _, _, _, h => h
  | fuel + 1, _, _, _, h => ⟨h.1, fun i hi => wpOpIn_mono (fun a' w' h' => wpAnyIn_of_wpAny hd hQ fuel _ a' w' h') (wpOpIn_of_wpOp hd hQ (h.2 i hi))⟩

/-- a region that draws its order, in a round: by the held walk -/
theorem wpIn_round_held {S : World → Prop} {n l id : Nat} {a : Act} {w : World} (G : World → Prop) (hm : P.follows .mixedOrders = true) (hd : noDeferB ops = true) (hG : ∀ a' w', G w' → Q .normal a' w')
    (h : wpAnyH P .any ops (fun e _ w' => e = .normal ∧ G w') S ops.size (Array.replicate ops.size false) a w.drew) : (Code.region id ops true).wpIn (Fence.wide.inRound l) n P Q a w := by
  refine wpIn_mono (Q := fun e _ w' => e = .normal ∧ G w') (wpIn_region_any hm (wpAnyIn_of_wpAny hd (fun h => by obtain ⟨_, _, h, _⟩ := h; cases h) _ _ _ _ (wpAny_of_held _ _ _ _ h))) ?_
  rintro e a' w' ⟨rfl, hg⟩
  exact hG a' w' hg
/-- the same, where what comes behind looks at the frame -/
theorem wpIn_round_heldA {S : World → Prop} {n l id : Nat} {a : Act} {w : World} (G : Act → World → Prop) (hm : P.follows .mixedOrders = true) (hd : noDeferB ops = true) (hG : ∀ a' w', G a' w' → Q .normal a' w')
    (h : wpAnyH P .any ops (fun e a' w' => e = .normal ∧ G a' w') S ops.size (Array.replicate ops.size false) a w.drew) : (Code.region id ops true).wpIn (Fence.wide.inRound l) n P Q a w := by
  refine wpIn_mono (Q := fun e a' w' => e = .normal ∧ G a' w') (wpIn_region_any hm (wpAnyIn_of_wpAny hd (fun h => by obtain ⟨_, _, h, _⟩ := h; cases h) _ _ _ _ (wpAny_of_held _ _ _ _ h))) ?_
  rintro e a' w' ⟨rfl, hg⟩
  exact hG a' w' hg
end

end Go.Proofs.YtdcndkojmflhnaaDoor
