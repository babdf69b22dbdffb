/- What values in memory say: slices of runs, queues, pieces, bites, books; that a later world in which old blocks are as they were says the same. -/
import Derived.WalkKit
import Derived.Deep.Draws
import Derived.WalkSmall
import Derived.Test.YtfbcmifclaaacaaRunsMath
set_option linter.unusedVariables false
namespace Go.Proofs.Ytfbcmifclaaacaa
open Go.RowKit

/-- w' is w with new blocks: nothing that was there has turned -/
abbrev Ext (w w' : World) : Prop := Below w.heap.size w w'

theorem Ext.rf (w : World) : Ext w w := Below.refl _ _
theorem Ext.tr {a b c : World} (h : Ext a b) (k : Ext b c) : Ext a c := h.trans (k.mono h.size)
theorem Ext.ce {w w' : World} (h : Ext w w') {b o : Nat} (hb : b < w.heap.size) : w'.cell? ⟨b, o, none⟩ = w.cell? ⟨b, o, none⟩ := h.cell (p := ⟨b, o, none⟩) hb
theorem Ext.ce' {w w' : World} (h : Ext w w') {b o : Nat} {v : Value} (hc : w.cell? ⟨b, o, none⟩ = some v) : w'.cell? ⟨b, o, none⟩ = some v := by
  rw [h.ce (World.block_lt_of_cell? w ⟨b, o, none⟩ hc)]; exact hc

/-- a fact kept from the walk; '.out' gives it back -/
theorem hid {p : Prop} (h : p) : Hid p := h

theorem Ext.al {a w : World} (h : Ext a w) (o : Obj) : Ext a (w.alloc o) := Below.alloc h h.size o
theorem Ext.dr {a w : World} (h : Ext a w) : Ext a w.drew := Below.drew h
theorem Ext.dn {a w : World} (h : Ext a w) (n : Nat) : Ext a (w.drewN n) := h.trans ⟨rfl, rfl, rfl, Nat.le_refl _, fun _ _ => rfl⟩
theorem Ext.se {a w : World} (h : Ext a w) {b o : Nat} (hb : a.heap.size ≤ b) (v : Value) : Ext a (w.setCell ⟨b, o, none⟩ v) := Below.setCell (p := ⟨b, o, none⟩) h hb v

theorem ownsRow_ext {w w' : World} {base e sz n : Nat} {v : Value} {xs : List Value} (h : w.ownsRow base e sz v n xs) (hx : Ext w w') : w'.ownsRow base e sz v n xs := by
  obtain ⟨h1, h2⟩ := h
  refine ⟨h1, ?_⟩
  rcases h2 with h2 | ⟨g, cap, cur, hv, hb, hg, r⟩
  · exact .inl h2
  · exact .inr ⟨g, cap, cur, hv, hb, by rw [hx.block g (Array.getElem?_eq_some_iff.1 hg).1]; exact hg, r⟩

/-- behind an append to a row of the call's own -/
theorem Ext.gr {a w w' : World} (h : Ext a w) {v : Value} (hg : w.grownBy w' v.ownBlock) (hv : ∀ k, v.ownBlock = some k → a.heap.size ≤ k) : Ext a w' := Below.grown h hg h.size hv

theorem own_lt {w : World} {base e sz n : Nat} {v : Value} {xs : List Value} (h : w.ownsRow base e sz v n xs) : ∀ k, v.ownBlock = some k → base ≤ k := fun k hk => (h.lt k hk).1

theorem new2 (W : World) {B : Nat} (hB : B = W.heap.size) (a b : Value) (t : TypeId) : ∀ (j : Nat) u, [a, b][j]? = some u → (W.alloc (.cells #[a, b] t)).cell? ((⟨B, 0, none⟩ : Addr).add j) = some u := by
  subst hB; exact cell_two_new W a b t

theorem one2 (k l : IntKind) (a b : Int) : ∀ u ∈ [Value.int k a, Value.int l b], u.oneCell' = true := by simp [Value.oneCell']

theorem Ext.al_size {a w : World} (h : Ext a w) (o : Obj) : a.heap.size ≤ (w.alloc o).heap.size := (h.al o).size

theorem minw (a b : Int) : (if b < a then b else a) = min a b := by
  by_cases h : b < a
  · rw [if_pos h]; omega
  · rw [if_neg h]; omega
theorem maxw (a b : Int) : (if a < b then b else a) = max a b := by
  by_cases h : a < b
  · rw [if_pos h]; omega
  · rw [if_neg h]; omega

theorem eqF {a b : Int} (h : a ≠ b) : (a == b) = false := beq_eq_false_iff_ne.2 h
theorem eqT {a b : Int} (h : a = b) : (a == b) = true := beq_iff_eq.2 h
theorem neF {a b : Int} (h : a = b) : (a != b) = false := by rw [bne_eq_false_iff_eq]; exact h
theorem neT {a b : Int} (h : a ≠ b) : (a != b) = true := bne_iff_ne.2 h
theorem deF {p : Prop} [Decidable p] (h : ¬ p) : decide p = false := decide_eq_false h
theorem deT {p : Prop} [Decidable p] (h : p) : decide p = true := decide_eq_true h
theorem ret_int {a b : Int} (h : a = b) : Ending.returned (.int .i64 a) = .returned (.int .i64 b) := by rw [h]
theorem ret_bool {a b : Bool} (h : a = b) : Ending.returned (.bool a) = .returned (.bool b) := by rw [h]

/-- a number of 64 bits -/
def I64 (n : Int) : Prop := -9223372036854775808 ≤ n ∧ n ≤ 9223372036854775807

theorem I64.wf {n : Int} (h : I64 n) : (Lit.int .i64 n).wf = true := WalkArith.wf_i64 h
theorem I64.of_wf {n : Int} (h : (Lit.int .i64 n).wf = true) : I64 n := by
  simpa [I64, Lit.wf, IntKind.min, IntKind.max, IntKind.signed, IntKind.bits] using h
theorem I64.of {n : Int} (h1 : -9223372036854775808 ≤ n) (h2 : n ≤ 9223372036854775807) : I64 n := ⟨h1, h2⟩

structure Queue where
  Name : ByteArray
  Parent : Int
  Cap : List Run

structure Piece where
  Len : Int
  N : Int
deriving DecidableEq

structure Bite where
  Piece : Int
  At : Int
deriving DecidableEq

structure Request where
  Queue : Int
  From : Int
  Until : Int
  Kind : Int
  Pieces : List Piece

structure Book where
  Id : Int
  Req : Request
  Bites : List Bite

structure State where
  Clock : Int
  Next : Int
  Tree : List Queue
  Books : List Book

instance : Inhabited Queue := ⟨⟨ByteArray.empty, 0, []⟩⟩
instance : Inhabited Piece := ⟨⟨0, 0⟩⟩
instance : Inhabited Bite := ⟨⟨0, 0⟩⟩
instance : Inhabited Request := ⟨⟨0, 0, 0, 0, []⟩⟩
instance : Inhabited Book := ⟨⟨0, default, []⟩⟩
instance : Inhabited State := ⟨⟨0, 0, [], []⟩⟩

/-! ### slices -/

/-- the slice value v holds the elements xs, sz cells each; E: what it is that element x lies at cell o of block b -/
def SV {α : Type} (sz : Nat) (E : World → Nat → Nat → α → Prop) (w : World) (v : Value) (xs : List α) : Prop :=
  (xs = [] ∧ ∃ a cap, v = .slice a 0 cap ∧ cap ≤ 9223372036854775807) ∨
  ∃ b off cap, v = .slice (some ⟨b, off, none⟩) xs.length cap ∧ xs.length ≤ cap ∧ cap ≤ 9223372036854775807 ∧ xs.length ≤ 17592186044416 ∧ b < w.heap.size ∧ ∀ k x, xs[k]? = some x → E w b (off + k * sz) x

theorem SV.nil {α : Type} {sz : Nat} {E : World → Nat → Nat → α → Prop} {w : World} : SV sz E w (.slice none 0 0) [] := .inl ⟨rfl, none, 0, rfl, by omega⟩

theorem SV.mono {α : Type} {sz : Nat} {E : World → Nat → Nat → α → Prop} (hE : ∀ (w w' : World) b o x, Ext w w' → E w b o x → E w' b o x) {w w' : World} {v : Value} {xs : List α} (h : SV sz E w v xs) (hx : Ext w w') : SV sz E w' v xs := by
  rcases h with h | ⟨b, off, cap, rfl, h1, h2, hl, h3, h4⟩
  · exact .inl h
  · exact .inr ⟨b, off, cap, rfl, h1, h2, hl, Nat.lt_of_lt_of_le h3 hx.size, fun k x hk => hE w w' _ _ _ hx (h4 k x hk)⟩

/-- its form, whatever it holds -/
theorem SV.form {α : Type} {sz : Nat} {E : World → Nat → Nat → α → Prop} {w : World} {v : Value} {xs : List α} (h : SV sz E w v xs) :
    ∃ a cap, v = .slice a xs.length cap ∧ xs.length ≤ cap ∧ cap ≤ 9223372036854775807 ∧ xs.length ≤ 17592186044416 := by
  rcases h with ⟨rfl, a, cap, rfl, h1⟩ | ⟨b, off, cap, rfl, h1, h2, h3, _⟩
  · exact ⟨a, cap, rfl, by simp, h1, by simp⟩
  · exact ⟨_, cap, rfl, h1, h2, h3⟩

def E2 {α : Type} (f g : α → Int) (w : World) (b o : Nat) (x : α) : Prop :=
  w.cell? ⟨b, o, none⟩ = some (.int .i64 (f x)) ∧ w.cell? ⟨b, o + 1, none⟩ = some (.int .i64 (g x)) ∧ I64 (f x) ∧ I64 (g x)

theorem E2.mono {α : Type} {f g : α → Int} (w w' : World) (b o : Nat) (x : α) (hx : Ext w w') (h : E2 f g w b o x) : E2 f g w' b o x :=
  ⟨hx.ce' h.1, hx.ce' h.2.1, h.2.2⟩

def ERun := E2 Run.At Run.N
def EPiece := E2 Piece.Len Piece.N
def EBite := E2 Bite.Piece Bite.At

abbrev RunsV := SV 2 ERun
abbrev PiecesV := SV 2 EPiece
abbrev BitesV := SV 2 EBite

theorem RunsV.mono {w w' : World} {v : Value} {xs : List Run} (h : RunsV w v xs) (hx : Ext w w') : RunsV w' v xs := SV.mono E2.mono h hx
theorem PiecesV.mono {w w' : World} {v : Value} {xs : List Piece} (h : PiecesV w v xs) (hx : Ext w w') : PiecesV w' v xs := SV.mono E2.mono h hx
theorem BitesV.mono {w w' : World} {v : Value} {xs : List Bite} (h : BitesV w v xs) (hx : Ext w w') : BitesV w' v xs := SV.mono E2.mono h hx

def EQueue (w : World) (b o : Nat) (x : Queue) : Prop :=
  w.cell? ⟨b, o, none⟩ = some (.string x.Name) ∧ x.Name.size ≤ 9223372036854775807 ∧ w.cell? ⟨b, o + 1, none⟩ = some (.int .i64 x.Parent) ∧ I64 x.Parent ∧
  ∃ v, w.cell? ⟨b, o + 2, none⟩ = some v ∧ RunsV w v x.Cap

theorem EQueue.mono (w w' : World) (b o : Nat) (x : Queue) (hx : Ext w w') (h : EQueue w b o x) : EQueue w' b o x := by
  obtain ⟨h1, h2, h3, h4, v, h5, h6⟩ := h
  exact ⟨hx.ce' h1, h2, hx.ce' h3, h4, v, hx.ce' h5, h6.mono hx⟩

abbrev QueuesV := SV 3 EQueue
theorem QueuesV.mono {w w' : World} {v : Value} {xs : List Queue} (h : QueuesV w v xs) (hx : Ext w w') : QueuesV w' v xs := SV.mono EQueue.mono h hx

/-- the cells of a request -/
def ReqC (w : World) (cs : List Value) (r : Request) : Prop :=
  ∃ pv, cs = [.int .i64 r.Queue, .int .i64 r.From, .int .i64 r.Until, .int .i64 r.Kind, pv] ∧ PiecesV w pv r.Pieces ∧ I64 r.Queue ∧ I64 r.From ∧ I64 r.Until ∧ I64 r.Kind

theorem ReqC.mono {w w' : World} {cs : List Value} {r : Request} (h : ReqC w cs r) (hx : Ext w w') : ReqC w' cs r := by
  obtain ⟨pv, h1, h2, h3⟩ := h
  exact ⟨pv, h1, h2.mono hx, h3⟩

def ReqV (w : World) (v : Value) (r : Request) : Prop := ∃ cs, v = .agg cs.toArray ∧ ReqC w cs r
theorem ReqV.mono {w w' : World} {v : Value} {r : Request} (h : ReqV w v r) (hx : Ext w w') : ReqV w' v r := by
  obtain ⟨cs, h1, h2⟩ := h
  exact ⟨cs, h1, h2.mono hx⟩

/-- the cells of a book -/
def BookC (w : World) (cs : List Value) (x : Book) : Prop :=
  ∃ qs bv, cs = .int .i64 x.Id :: (qs ++ [bv]) ∧ ReqC w qs x.Req ∧ BitesV w bv x.Bites ∧ I64 x.Id
theorem BookC.mono {w w' : World} {cs : List Value} {x : Book} (h : BookC w cs x) (hx : Ext w w') : BookC w' cs x := by
  obtain ⟨qs, bv, h1, h2, h3, h4⟩ := h
  exact ⟨qs, bv, h1, h2.mono hx, h3.mono hx, h4⟩

def EBook (w : World) (b o : Nat) (x : Book) : Prop := ∃ cs, BookC w cs x ∧ ∀ (j : Nat) u, cs[j]? = some u → w.cell? ⟨b, o + j, none⟩ = some u
theorem EBook.mono (w w' : World) (b o : Nat) (x : Book) (hx : Ext w w') (h : EBook w b o x) : EBook w' b o x := by
  obtain ⟨cs, h1, h2⟩ := h
  exact ⟨cs, h1.mono hx, fun j u hu => hx.ce' (h2 j u hu)⟩

abbrev BooksV := SV 7 EBook
theorem BooksV.mono {w w' : World} {v : Value} {xs : List Book} (h : BooksV w v xs) (hx : Ext w w') : BooksV w' v xs := SV.mono EBook.mono h hx

def BookV (w : World) (v : Value) (x : Book) : Prop := ∃ cs, v = .agg cs.toArray ∧ BookC w cs x
theorem BookV.mono {w w' : World} {v : Value} {x : Book} (h : BookV w v x) (hx : Ext w w') : BookV w' v x := by
  obtain ⟨cs, h1, h2⟩ := h
  exact ⟨cs, h1, h2.mono hx⟩

def StateC (w : World) (cs : List Value) (s : State) : Prop :=
  ∃ tv bv, cs = [.int .i64 s.Clock, .int .i64 s.Next, tv, bv] ∧ QueuesV w tv s.Tree ∧ BooksV w bv s.Books ∧ I64 s.Clock ∧ I64 s.Next
theorem StateC.mono {w w' : World} {cs : List Value} {s : State} (h : StateC w cs s) (hx : Ext w w') : StateC w' cs s := by
  obtain ⟨tv, bv, h1, h2, h3, h4⟩ := h
  exact ⟨tv, bv, h1, h2.mono hx, h3.mono hx, h4⟩
def StateV (w : World) (v : Value) (s : State) : Prop := ∃ cs, v = .agg cs.toArray ∧ StateC w cs s
theorem StateV.mono {w w' : World} {v : Value} {s : State} (h : StateV w v s) (hx : Ext w w') : StateV w' v s := by
  obtain ⟨cs, h1, h2⟩ := h
  exact ⟨cs, h1, h2.mono hx⟩

/-! slices of ints, bools, strings, slices -/
def EInt (w : World) (b o : Nat) (x : Int) : Prop := w.cell? ⟨b, o, none⟩ = some (.int .i64 x) ∧ I64 x
theorem EInt.mono (w w' : World) (b o : Nat) (x : Int) (hx : Ext w w') (h : EInt w b o x) : EInt w' b o x := ⟨hx.ce' h.1, h.2⟩
abbrev IntsV := SV 1 EInt
theorem IntsV.mono {w w' : World} {v : Value} {xs : List Int} (h : IntsV w v xs) (hx : Ext w w') : IntsV w' v xs := SV.mono EInt.mono h hx

def EBool (w : World) (b o : Nat) (x : Bool) : Prop := w.cell? ⟨b, o, none⟩ = some (.bool x)
theorem EBool.mono (w w' : World) (b o : Nat) (x : Bool) (hx : Ext w w') (h : EBool w b o x) : EBool w' b o x := hx.ce' h
abbrev BoolsV := SV 1 EBool
theorem BoolsV.mono {w w' : World} {v : Value} {xs : List Bool} (h : BoolsV w v xs) (hx : Ext w w') : BoolsV w' v xs := SV.mono EBool.mono h hx

def ERuns (w : World) (b o : Nat) (x : List Run) : Prop := ∃ v, w.cell? ⟨b, o, none⟩ = some v ∧ RunsV w v x
theorem ERuns.mono (w w' : World) (b o : Nat) (x : List Run) (hx : Ext w w') (h : ERuns w b o x) : ERuns w' b o x := by
  obtain ⟨v, h1, h2⟩ := h
  exact ⟨v, hx.ce' h1, h2.mono hx⟩
abbrev LoadsV := SV 1 ERuns
theorem LoadsV.mono {w w' : World} {v : Value} {xs : List (List Run)} (h : LoadsV w v xs) (hx : Ext w w') : LoadsV w' v xs := SV.mono ERuns.mono h hx

/-! ### what the call made by appends, as a slice -/
def cells2 {α : Type} (f g : α → Int) (xs : List α) : List Value := xs.flatMap fun x => [.int .i64 (f x), .int .i64 (g x)]

theorem cells2_length {α : Type} (f g : α → Int) (xs : List α) : (cells2 f g xs).length = xs.length * 2 := by
  unfold cells2
  induction xs with
  | nil => rfl
  | cons x xs ih => simp only [List.flatMap_cons, List.length_append, List.length_cons, List.length_nil, ih]; omega

theorem cells2_get {α : Type} (f g : α → Int) : ∀ (xs : List α) (k : Nat) (x : α), xs[k]? = some x → (cells2 f g xs)[k * 2]? = some (.int .i64 (f x)) ∧ (cells2 f g xs)[k * 2 + 1]? = some (.int .i64 (g x))
  | [], k, x, h => by simp at h
  | y :: xs, 0, x, h => by simp at h; subst h; simp [cells2]
  | y :: xs, k + 1, x, h => by
    have ih := cells2_get f g xs k x (by simpa using h)
    have e : cells2 f g (y :: xs) = .int .i64 (f y) :: .int .i64 (g y) :: cells2 f g xs := by simp [cells2]
    rw [e, show (k + 1) * 2 = k * 2 + 1 + 1 by omega]
    simpa using ih

theorem cells2_snoc {α : Type} (f g : α → Int) (xs : List α) (x : α) : cells2 f g (xs ++ [x]) = cells2 f g xs ++ [.int .i64 (f x), .int .i64 (g x)] := by simp [cells2]

theorem sv_of_owns2 {α : Type} {f g : α → Int} {w : World} {base e : Nat} {v : Value} {xs : List α} (h : w.ownsRow base e 2 v xs.length (cells2 f g xs)) (hi : ∀ x ∈ xs, I64 (f x) ∧ I64 (g x)) (hl : xs.length ≤ 17592186044416) : SV 2 (E2 f g) w v xs := by
  obtain ⟨h1, h2⟩ := h
  rcases h2 with ⟨rfl, h2⟩ | ⟨b, cap, cur, rfl, hb, hg, hn, hm, hs, ht⟩
  · exact .inl ⟨List.eq_nil_of_length_eq_zero h2, none, 0, rfl, by omega⟩
  · refine .inr ⟨b, 0, cap, rfl, hn, hm, hl, (Array.getElem?_eq_some_iff.1 hg).1, fun k x hk => ?_⟩
    have hkl : k < xs.length := (List.getElem?_eq_some_iff.1 hk).1
    obtain ⟨k1, k2⟩ := cells2_get f g xs k x hk
    have cell : ∀ j u, (cells2 f g xs)[j]? = some u → w.cell? ⟨b, 0 + j, none⟩ = some u := by
      intro j u hu
      rw [Nat.zero_add]
      simp only [World.cell?, hg, Option.isSome_none, Bool.false_eq_true, if_false]
      rw [← ht, List.getElem?_take] at hu
      split at hu
      · simpa using hu
      · cases hu
    exact ⟨cell _ _ k1, by simpa [Nat.add_assoc] using cell _ _ k2, hi x (List.mem_of_getElem? hk)⟩

end Go.Proofs.Ytfbcmifclaaacaa
