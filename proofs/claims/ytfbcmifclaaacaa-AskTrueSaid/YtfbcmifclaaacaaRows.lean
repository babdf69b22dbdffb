/-
  No cell of these rows narrows 'for every input' (looked for: loops, veiled, ifaces, maps, wideKeys, modest, calm, conditions, laid).
  DERIVED. THE GIVEN ROWS OF THIS SEAT. 6 by the template 'for every input the law returns true; each argument reads behind the call as it read before'; 0 by the template 'total and deterministic' (their statements: YtfbcmifclaaacaaTotals.lean).
  GIVEN WITH THE SEED: the statements are not yours to turn. If you find one false, say at which input.
  Laid BY PROGRAM, IN A SANDBOX (cutbox-rows.mjs): the forced cells as the released guide's own fill.sh prints them over the translation 10158b4f7bc4890b… (all of the seat's roots in one cut). By AI agents, Wed Nov 11 2026. No macro, syntax, notation, axiom, sorry.
-/
import Derived.Test.YtfbcmifclaaacaaChecked
import GoSem.Claim
import GoSem.ClaimJoined
import GoSem.ClaimMapViews
import Derived.JoinedTies
import Derived.KernelRfl
namespace Go.Proofs.Ytfbcmifclaaacaa
/- THE CELL 'sum', in the pinned program and in every row, IS THE sha256 OF THE DUMP (.gsa) THAT YtfbcmifclaaacaaProg.lean LOADS. Nothing in Lean hashes anything: it is a label: what it is worth is what the hold of that sum in a sandbox is worth. -/
noncomputable def Try.pinned : Pinned := { name := "ytfbcmifclaaacaa", sum := "10158b4f7bc4890b82eec6d8140401a66353626f0455e4e7183c0fcc40cb7ce5", checked := Try.checked }
namespace Rows
def none {H : Type} : Left H := { results := [], args := [] }

/-- 'acreagelaw.PlanTrue': WHATEVER THE INPUT: true; the input reads as it did. -/
def planTrueSpec : ChangeSpec := { name := "planTrue", fn := fun _ => fun
  | [d1, d2, d3] => { results := [.lit (.bool true)], args := [d1, d2, d3] }
  | _ => none }
def planTrueRow : OpenClaim := { program := "ytfbcmifclaaacaa", sum := "10158b4f7bc4890b82eec6d8140401a66353626f0455e4e7183c0fcc40cb7ce5", func := "acreage/acreagelaw.PlanTrue", spec := "planTrue", unfollowed := true, recurses := true, apart := false }
def PlanTrueSaid : Prop := planTrueRow.holds Try.pinned (OpenSpec.ofChange planTrueSpec)

/-- ITS FALSE NEIGHBOUR: 'it returns false'. Refute it at one input. -/
def planTrueWrong : ChangeSpec := { name := "planTrue", fn := fun _ => fun
  | [d1, d2, d3] => { results := [.lit (.bool false)], args := [d1, d2, d3] }
  | _ => none }
def PlanTrueWrongFalsely : Prop := planTrueRow.holds Try.pinned (OpenSpec.ofChange planTrueWrong)

/-- 'acreagelaw.AskTrue': WHATEVER THE INPUT: true; the input reads as it did. -/
def askTrueSpec : ChangeSpec := { name := "askTrue", fn := fun _ => fun
  | [d1, d2, d3, d4] => { results := [.lit (.bool true)], args := [d1, d2, d3, d4] }
  | _ => none }
def askTrueRow : OpenClaim := { program := "ytfbcmifclaaacaa", sum := "10158b4f7bc4890b82eec6d8140401a66353626f0455e4e7183c0fcc40cb7ce5", func := "acreage/acreagelaw.AskTrue", spec := "askTrue", unfollowed := true, recurses := true, apart := false }
def AskTrueSaid : Prop := askTrueRow.holds Try.pinned (OpenSpec.ofChange askTrueSpec)

/-- ITS FALSE NEIGHBOUR: 'it returns false'. Refute it at one input. -/
def askTrueWrong : ChangeSpec := { name := "askTrue", fn := fun _ => fun
  | [d1, d2, d3, d4] => { results := [.lit (.bool false)], args := [d1, d2, d3, d4] }
  | _ => none }
def AskTrueWrongFalsely : Prop := askTrueRow.holds Try.pinned (OpenSpec.ofChange askTrueWrong)

/-- 'acreagelaw.BookTrue': WHATEVER THE INPUT: true; the input reads as it did. -/
def bookTrueSpec : ChangeSpec := { name := "bookTrue", fn := fun _ => fun
  | [d1, d2] => { results := [.lit (.bool true)], args := [d1, d2] }
  | _ => none }
def bookTrueRow : OpenClaim := { program := "ytfbcmifclaaacaa", sum := "10158b4f7bc4890b82eec6d8140401a66353626f0455e4e7183c0fcc40cb7ce5", func := "acreage/acreagelaw.BookTrue", spec := "bookTrue", unfollowed := true, recurses := true, apart := false }
def BookTrueSaid : Prop := bookTrueRow.holds Try.pinned (OpenSpec.ofChange bookTrueSpec)

/-- ITS FALSE NEIGHBOUR: 'it returns false'. Refute it at one input. -/
def bookTrueWrong : ChangeSpec := { name := "bookTrue", fn := fun _ => fun
  | [d1, d2] => { results := [.lit (.bool false)], args := [d1, d2] }
  | _ => none }
def BookTrueWrongFalsely : Prop := bookTrueRow.holds Try.pinned (OpenSpec.ofChange bookTrueWrong)

/-- 'acreagelaw.BookTime': WHATEVER THE INPUT: true; the input reads as it did. -/
def bookTimeSpec : ChangeSpec := { name := "bookTime", fn := fun _ => fun
  | [d1, d2, d3] => { results := [.lit (.bool true)], args := [d1, d2, d3] }
  | _ => none }
def bookTimeRow : OpenClaim := { program := "ytfbcmifclaaacaa", sum := "10158b4f7bc4890b82eec6d8140401a66353626f0455e4e7183c0fcc40cb7ce5", func := "acreage/acreagelaw.BookTime", spec := "bookTime", unfollowed := true, recurses := true, apart := false }
def BookTimeSaid : Prop := bookTimeRow.holds Try.pinned (OpenSpec.ofChange bookTimeSpec)

/-- ITS FALSE NEIGHBOUR: 'it returns false'. Refute it at one input. -/
def bookTimeWrong : ChangeSpec := { name := "bookTime", fn := fun _ => fun
  | [d1, d2, d3] => { results := [.lit (.bool false)], args := [d1, d2, d3] }
  | _ => none }
def BookTimeWrongFalsely : Prop := bookTimeRow.holds Try.pinned (OpenSpec.ofChange bookTimeWrong)

/-- 'acreagelaw.BookFree': WHATEVER THE INPUT: true; the input reads as it did. -/
def bookFreeSpec : ChangeSpec := { name := "bookFree", fn := fun _ => fun
  | [d1, d2] => { results := [.lit (.bool true)], args := [d1, d2] }
  | _ => none }
def bookFreeRow : OpenClaim := { program := "ytfbcmifclaaacaa", sum := "10158b4f7bc4890b82eec6d8140401a66353626f0455e4e7183c0fcc40cb7ce5", func := "acreage/acreagelaw.BookFree", spec := "bookFree", unfollowed := true, recurses := true, apart := false }
def BookFreeSaid : Prop := bookFreeRow.holds Try.pinned (OpenSpec.ofChange bookFreeSpec)

/-- ITS FALSE NEIGHBOUR: 'it returns false'. Refute it at one input. -/
def bookFreeWrong : ChangeSpec := { name := "bookFree", fn := fun _ => fun
  | [d1, d2] => { results := [.lit (.bool false)], args := [d1, d2] }
  | _ => none }
def BookFreeWrongFalsely : Prop := bookFreeRow.holds Try.pinned (OpenSpec.ofChange bookFreeWrong)

/-- 'acreagelaw.BookFull': WHATEVER THE INPUT: true; the input reads as it did. -/
def bookFullSpec : ChangeSpec := { name := "bookFull", fn := fun _ => fun
  | [d1, d2, d3] => { results := [.lit (.bool true)], args := [d1, d2, d3] }
  | _ => none }
def bookFullRow : OpenClaim := { program := "ytfbcmifclaaacaa", sum := "10158b4f7bc4890b82eec6d8140401a66353626f0455e4e7183c0fcc40cb7ce5", func := "acreage/acreagelaw.BookFull", spec := "bookFull", unfollowed := true, recurses := true, apart := false }
def BookFullSaid : Prop := bookFullRow.holds Try.pinned (OpenSpec.ofChange bookFullSpec)

/-- ITS FALSE NEIGHBOUR: 'it returns false'. Refute it at one input. -/
def bookFullWrong : ChangeSpec := { name := "bookFull", fn := fun _ => fun
  | [d1, d2, d3] => { results := [.lit (.bool false)], args := [d1, d2, d3] }
  | _ => none }
def BookFullWrongFalsely : Prop := bookFullRow.holds Try.pinned (OpenSpec.ofChange bookFullWrong)

/- THE SECOND FORM. 'bulk': how many values and letters a reading holds, each counted each time it is reached (what is shared counts as often as it is met; a slice's spare places count too). A statement '..UptoSaid' is the law's where the arguments, and the package variables that the reading takes, are together of bulk at most 1048576: NARROWER than '..Said'. Prove '..Said' where nothing that the law and all that it calls make is longer than what came in: it says more and counts as full. Else prove '..UptoSaid'. A law counts once. -/
mutual
def uptoBulk {H : Type} : DataW H → Nat
  | .lit (.string bytes) => bytes.length + 1
  | .lit _ => 1
  | .nil => 1
  | .ptr d => uptoBulk d + 1
  | .slice elems spare => uptoBulkAll elems + uptoBulkAll spare + 1
  | .agg parts => uptoBulkAll parts + 1
  | .iface _ d => uptoBulk d + 1
  | .map entries => uptoBulkEntries entries + 1
  | .held _ => 1
def uptoBulkAll {H : Type} : List (DataW H) → Nat
  | [] => 0
  | d :: r => uptoBulk d + uptoBulkAll r
def uptoBulkEntries {H : Type} : List (Lit × DataW H) → Nat
  | [] => 0
  | x :: r => uptoBulkEntry x + uptoBulkEntries r
def uptoBulkEntry {H : Type} : Lit × DataW H → Nat
  | (.string bytes, d) => bytes.length + uptoBulk d + 1
  | (_, d) => uptoBulk d + 1
 end
def uptoSmall : (H : Type) → List (DataW H) → Bool := fun _ ds => decide (uptoBulkAll ds ≤ 1048576)
def OpenSpec.upto (s : _root_.Go.ChangeSpec) : _root_.Go.OpenSpec := { _root_.Go.OpenSpec.ofChange s with cond := some uptoSmall }

/-- 'acreagelaw.PlanTrue', WHERE WHAT IT READS IS OF BULK AT MOST 1048576: true; the input reads as it did. -/
def planTrueUptoRow : OpenClaim := { program := "ytfbcmifclaaacaa", sum := "10158b4f7bc4890b82eec6d8140401a66353626f0455e4e7183c0fcc40cb7ce5", func := "acreage/acreagelaw.PlanTrue", spec := "planTrue", unfollowed := true, recurses := true, apart := false, narrowed := true }
def PlanTrueUptoSaid : Prop := planTrueUptoRow.holds Try.pinned (OpenSpec.upto planTrueSpec)

/-- 'acreagelaw.AskTrue', WHERE WHAT IT READS IS OF BULK AT MOST 1048576: true; the input reads as it did. -/
def askTrueUptoRow : OpenClaim := { program := "ytfbcmifclaaacaa", sum := "10158b4f7bc4890b82eec6d8140401a66353626f0455e4e7183c0fcc40cb7ce5", func := "acreage/acreagelaw.AskTrue", spec := "askTrue", unfollowed := true, recurses := true, apart := false, narrowed := true }
def AskTrueUptoSaid : Prop := askTrueUptoRow.holds Try.pinned (OpenSpec.upto askTrueSpec)

/-- 'acreagelaw.BookTrue', WHERE WHAT IT READS IS OF BULK AT MOST 1048576: true; the input reads as it did. -/
def bookTrueUptoRow : OpenClaim := { program := "ytfbcmifclaaacaa", sum := "10158b4f7bc4890b82eec6d8140401a66353626f0455e4e7183c0fcc40cb7ce5", func := "acreage/acreagelaw.BookTrue", spec := "bookTrue", unfollowed := true, recurses := true, apart := false, narrowed := true }
def BookTrueUptoSaid : Prop := bookTrueUptoRow.holds Try.pinned (OpenSpec.upto bookTrueSpec)

/-- 'acreagelaw.BookTime', WHERE WHAT IT READS IS OF BULK AT MOST 1048576: true; the input reads as it did. -/
def bookTimeUptoRow : OpenClaim := { program := "ytfbcmifclaaacaa", sum := "10158b4f7bc4890b82eec6d8140401a66353626f0455e4e7183c0fcc40cb7ce5", func := "acreage/acreagelaw.BookTime", spec := "bookTime", unfollowed := true, recurses := true, apart := false, narrowed := true }
def BookTimeUptoSaid : Prop := bookTimeUptoRow.holds Try.pinned (OpenSpec.upto bookTimeSpec)

/-- 'acreagelaw.BookFree', WHERE WHAT IT READS IS OF BULK AT MOST 1048576: true; the input reads as it did. -/
def bookFreeUptoRow : OpenClaim := { program := "ytfbcmifclaaacaa", sum := "10158b4f7bc4890b82eec6d8140401a66353626f0455e4e7183c0fcc40cb7ce5", func := "acreage/acreagelaw.BookFree", spec := "bookFree", unfollowed := true, recurses := true, apart := false, narrowed := true }
def BookFreeUptoSaid : Prop := bookFreeUptoRow.holds Try.pinned (OpenSpec.upto bookFreeSpec)

/-- 'acreagelaw.BookFull', WHERE WHAT IT READS IS OF BULK AT MOST 1048576: true; the input reads as it did. -/
def bookFullUptoRow : OpenClaim := { program := "ytfbcmifclaaacaa", sum := "10158b4f7bc4890b82eec6d8140401a66353626f0455e4e7183c0fcc40cb7ce5", func := "acreage/acreagelaw.BookFull", spec := "bookFull", unfollowed := true, recurses := true, apart := false, narrowed := true }
def BookFullUptoSaid : Prop := bookFullUptoRow.holds Try.pinned (OpenSpec.upto bookFullSpec)

end Rows
end Go.Proofs.Ytfbcmifclaaacaa
