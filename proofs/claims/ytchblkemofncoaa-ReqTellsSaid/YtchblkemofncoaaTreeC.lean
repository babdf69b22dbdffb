/- slices.IndexFunc, ContainsFunc over queues, for a function that may keep a state of its own (I k: the state behind k calls). -/
import Derived.Test.YtchblkemofncoaaTreeB
set_option linter.unusedVariables false
namespace Go.Proofs.Ytchblkemofncoaa
open Go.RowKit

/-- what a search comes to -/
def FoundQ (n : Nat) (p : Nat → Bool) (I : Nat → World → Prop) (r : Int) (w' : World) : Prop :=
  (r = -1 ∧ (∀ k, k < n → p k = false) ∧ I n w') ∨ (0 ≤ r ∧ (∃ k, k < n ∧ p k = true) ∧ ∃ k, I k w')

theorem getQ {l : List Queue} {k : Nat} (h : k < l.length) : ∃ x, l[k]? = some x := ⟨_, List.getElem?_eq_getElem h⟩

set_option maxHeartbeats 1000000 in
theorem IndexFunc_Queue (w0 w : World) (b off cap : Nat) (l : List Queue) (G : Nat) (lb : Array Value) (p : Nat → Bool) (I : Nat → World → Prop) (hl : l.length ≤ 17592186044416) (hb : b < w0.heap.size)
    (hE : ∀ k x, l[k]? = some x → EQueue w0 b (off + k * 3) x)
    (heg : ∀ (args : Array Value) (w : World), (callFunc G args).run Try.prog w = .ok (.enter G args) w)
    (hI0 : I 0 w) (hIx : ∀ k W, I k W → Ext w0 W)
    (hp : ∀ (k : Nat) (x : Queue), l[k]? = some x → ∀ W v, I k W → RunsV W v x.Cap → Calls Try.prog G (#[.agg #[.string x.Name, .int .i64 x.Parent, v]] ++ lb) W fun e w' => e = .returned (.bool (p k)) ∧ I (k + 1) w') :
    Calls Try.prog 108 #[.slice (some ⟨b, off, none⟩) l.length cap, .func (.func G) #[] lb] w fun e w' => ∃ r, e = .returned (.int .i64 r) ∧ FoundQ l.length p I r w' := by
  have HE := hid hE
  have Hp := hid hp
  have HIx := hid hIx
  have HI0 := hid hI0
  clear hE hp hIx hI0
  generalize hn : l.length = n at *
  have Hn := hid hn
  clear hn
  go_enter Try.func108, Try.ntmps108
  go_wp2_with fail
  go_loopw [8] (fun i wr => ∃ k : Nat, k ≤ n ∧ i = .int .i64 k ∧ Hid (∀ j, j < k → p j = false) ∧ Hid (I k wr)) (fun i _ => n - (intOf i).toNat)
  case atStart => exact ⟨0, Nat.zero_le _, rfl, fun j hj => absurd hj (Nat.not_lt_zero _), HI0⟩
  case round =>
    obtain ⟨k, hk, rfl, Hall, HI⟩ := hrel
    have hx := HIx.out k wr HI.out
    have hbw : b < wr.heap.size := Nat.lt_of_lt_of_le hb hx.size
    by_cases hlt : k < n
    · obtain ⟨x, hxk⟩ := getQ (l := l) (k := k) (by rw [Hn.out]; exact hlt)
      obtain ⟨c1, c2, c3, c4, v, c5, hv⟩ := EQueue.mono w0 wr b _ x hx (HE.out k x hxk)
      have Hc := hid (Hp.out k x hxk wr v HI.out hv)
      obtain ⟨va, vc, rfl, _⟩ := hv.form
      clear hv hxk
      generalize x.Cap.length = vn at *
      cases hpx : p k with
      | true =>
        rw [hpx] at Hc
        have Hr := hid (show ∃ k, k < n ∧ p k = true from ⟨k, hlt, hpx⟩)
        clear hpx
        go_wp2_with fail
        refine Hc.out.mono ?_
        rintro e w1 ⟨rfl, hI⟩
        have HI2 := hid hI
        clear hI
        go_wp2_with fail
        go_ret
        exact ⟨_, rfl, .inr ⟨by omega, Hr.out, _, HI2.out⟩⟩
      | false =>
        rw [hpx] at Hc
        have Hr := hid (show ∀ j, j < k + 1 → p j = false from fun j hj => if e : j = k then e ▸ hpx else Hall.out j (by omega))
        clear hpx
        go_wp2_with fail
        refine Hc.out.mono ?_
        rintro e w1 ⟨rfl, hI⟩
        have HI2 := hid hI
        clear hI
        go_wp2_with fail
        go_roundw
        case rel => exact ⟨k + 1, by omega, by go_num, Hr, HI2⟩
        case measure => simp [intOf]; omega
    · obtain rfl : k = n := by omega
      go_wp2_with fail
      go_ret
      exact ⟨_, rfl, .inl ⟨rfl, Hall.out, HI.out⟩⟩

/-- what ContainsFunc comes to -/
def HasQ (n : Nat) (p : Nat → Bool) (I : Nat → World → Prop) (c : Bool) (w' : World) : Prop :=
  (c = false ∧ (∀ k, k < n → p k = false) ∧ I n w') ∨ (c = true ∧ (∃ k, k < n ∧ p k = true) ∧ ∃ k, I k w')

theorem ContainsFunc_Queue (w0 w : World) (b off cap : Nat) (l : List Queue) (G : Nat) (lb : Array Value) (p : Nat → Bool) (I : Nat → World → Prop) (hl : l.length ≤ 17592186044416) (hb : b < w0.heap.size)
    (hE : ∀ k x, l[k]? = some x → EQueue w0 b (off + k * 3) x)
    (heg : ∀ (args : Array Value) (w : World), (callFunc G args).run Try.prog w = .ok (.enter G args) w)
    (hI0 : I 0 w) (hIx : ∀ k W, I k W → Ext w0 W)
    (hp : ∀ (k : Nat) (x : Queue), l[k]? = some x → ∀ W v, I k W → RunsV W v x.Cap → Calls Try.prog G (#[.agg #[.string x.Name, .int .i64 x.Parent, v]] ++ lb) W fun e w' => e = .returned (.bool (p k)) ∧ I (k + 1) w') :
    Calls Try.prog 67 #[.slice (some ⟨b, off, none⟩) l.length cap, .func (.func G) #[] lb] w fun e w' => ∃ c, e = .returned (.bool c) ∧ HasQ l.length p I c w' := by
  have C := hid (IndexFunc_Queue w0 w b off cap l G lb p I hl hb hE heg hI0 hIx hp)
  clear hE hp hIx hI0
  generalize l.length = n at *
  go_enter Try.func67, Try.ntmps67
  go_wp2_with fail
  refine C.out.mono ?_
  rintro e w1 ⟨r, rfl, hr⟩
  rcases hr with ⟨rfl, h1, h2⟩ | ⟨h0, h1, h2⟩
  · have H := hid (show HasQ n p I false w1 from .inl ⟨rfl, h1, h2⟩)
    clear h1 h2
    go_wp2_with fail
    go_ret
    exact ⟨_, rfl, H.out⟩
  · have H := hid (show HasQ n p I true w1 from .inr ⟨rfl, h1, h2⟩)
    clear h1 h2
    go_wp2_with fail
    go_ret
    exact ⟨_, rfl, H.out⟩

end Go.Proofs.Ytchblkemofncoaa
