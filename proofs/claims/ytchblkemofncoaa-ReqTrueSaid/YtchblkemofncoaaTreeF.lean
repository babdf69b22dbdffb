/- Walk of tree.Check. -/
import Derived.Test.YtchblkemofncoaaTreeE
set_option linter.unusedVariables false
namespace Go.Proofs.Ytchblkemofncoaa
open Go.RowKit

theorem Check1_any (w0 w : World) (b off cap bl : Nat) (l : List Queue) (G : Nat) (lb : Array Value) (p : Nat → Bool) (I : Nat → World → Prop) (hl : l.length ≤ 17592186044416) (hb : b < w0.heap.size)
    (hE : ∀ k x, l[k]? = some x → EQueue w0 b (off + k * 3) x)
    (heg : ∀ (args : Array Value) (w : World), (callFunc G args).run Try.prog w = .ok (.enter G args) w)
    (hbl : w.cell? ⟨bl, 0, none⟩ = some (.slice (some ⟨b, off, none⟩) l.length cap))
    (hI0 : I 0 w) (hIx : ∀ k W, I k W → Ext w0 W)
    (hp : ∀ (k : Nat) (x : Queue), l[k]? = some x → ∀ W v, I k W → RunsV W v x.Cap → Calls Try.prog G (#[.agg #[.string x.Name, .int .i64 x.Parent, v]] ++ lb) W fun e w' => e = .returned (.bool (p k)) ∧ I (k + 1) w') :
    Calls Try.prog 66 #[.func (.func G) #[] lb, .pointer (some ⟨bl, 0, none⟩)] w fun e w' => ∃ c, e = .returned (.bool c) ∧ HasQ l.length p I c w' := by
  have C := hid (ContainsFunc_Queue w0 w b off cap l G lb p I hl hb hE heg hI0 hIx hp)
  clear hE hp hIx hI0
  generalize l.length = n at *
  go_enter Try.func66, Try.ntmps66
  go_wp2_with fail
  refine C.out.mono ?_
  rintro e w1 ⟨c, rfl, hc⟩
  have Hc := hid hc
  clear hc
  go_wp2_with fail
  go_ret
  exact ⟨_, rfl, Hc.out⟩

/-! ### what Check comes to -/
def nm (l : List Queue) (k : Nat) : ByteArray := (l.getD k default).Name
def par (l : List Queue) (k : Nat) : Int := (l.getD k default).Parent
def cp (l : List Queue) (k : Nat) : List Run := (l.getD k default).Cap
def cntQ (l : List Queue) : Nat → ByteArray → Nat
  | 0, _ => 0
  | k + 1, s => plus (cntQ l k) (nm l k) s
theorem cntQ_le (l : List Queue) (s : ByteArray) : ∀ k, cntQ l k s ≤ k
  | 0 => Nat.le_refl _
  | k + 1 => by
    have := cntQ_le l s k
    simp only [cntQ, plus]; split <;> omega
theorem cntQ_pos (l : List Queue) (s : ByteArray) : ∀ k, 0 < cntQ l k s ↔ ∃ j, j < k ∧ nm l j = s
  | 0 => by simp [cntQ]
  | k + 1 => by
    have ih := cntQ_pos l s k
    simp only [cntQ, plus]
    constructor
    · intro h
      by_cases e : s = nm l k
      · exact ⟨k, by omega, e.symm⟩
      · rw [if_neg e] at h
        obtain ⟨j, h1, h2⟩ := ih.1 h
        exact ⟨j, by omega, h2⟩
    · rintro ⟨j, h1, h2⟩
      by_cases e : s = nm l k
      · rw [if_pos e]; omega
      · rw [if_neg e]
        exact ih.2 ⟨j, by
          rcases Nat.lt_succ_iff_lt_or_eq.1 h1 with h | h
          · exact h
          · subst h; exact absurd h2.symm e, h2⟩

theorem at_some {l : List Queue} {k : Nat} {x : Queue} (h : l[k]? = some x) : nm l k = x.Name ∧ par l k = x.Parent ∧ cp l k = x.Cap := by
  have e : l.getD k default = x := by simp [List.getD_eq_getElem?_getD, h]
  exact ⟨by unfold nm; rw [e], by unfold par; rw [e], by unfold cp; rw [e]⟩

def p2 (l : List Queue) (k : Nat) : Bool := decide (¬ NameOk (nm l k))
def p3 (l : List Queue) (k : Nat) : Bool := decide (0 < cntQ l k (nm l k))
def p4 (l : List Queue) (k : Nat) : Bool := !decide (ParOk (par l k) k)
def p5 (l : List Queue) (k : Nat) : Bool := decide (¬ CapOk (cp l k))

@[irreducible] def checkT (l : List Queue) : Int :=
  if ¬ (1 ≤ l.length ∧ l.length ≤ 5) then 2
  else if (List.range l.length).any (p2 l) then 4
  else if (List.range l.length).any (p3 l) then 5
  else if (List.range l.length).any (p4 l) then 3
  else if (List.range l.length).any (p5 l) then 1
  else 0

theorem any_of {n : Nat} {p : Nat → Bool} (h : ∃ k, k < n ∧ p k = true) : (List.range n).any p = true := by
  obtain ⟨k, h1, h2⟩ := h
  exact List.any_eq_true.2 ⟨k, List.mem_range.2 h1, h2⟩
theorem any_not {n : Nat} {p : Nat → Bool} (h : ∀ k, k < n → p k = false) : (List.range n).any p = false :=
  List.any_eq_false.2 (fun k hk => by rw [h k (List.mem_range.1 hk)]; decide)

theorem hasQ_any {n : Nat} {p : Nat → Bool} {I : Nat → World → Prop} {c : Bool} {w : World} (h : HasQ n p I c w) : c = (List.range n).any p ∧ ∃ k, I k w := by
  rcases h with ⟨rfl, h1, h2⟩ | ⟨rfl, h1, h2⟩
  · exact ⟨(any_not h1).symm, _, h2⟩
  · exact ⟨(any_of h1).symm, h2⟩

end Go.Proofs.Ytchblkemofncoaa
