/-
  No cell of these rows narrows 'for every input' (looked for: loops, veiled, ifaces, maps, wideKeys, modest, calm, conditions, laid).
  DERIVED. THE GIVEN ROWS OF THIS SEAT. 7 by the template 'for every input the law returns true; each argument reads behind the call as it read before'; 0 by the template 'total and deterministic' (their statements: YtdcndkojmflhnaaGreatTotals.lean).
  GIVEN WITH THE SEED: the statements are not yours to turn. If you find one false, say at which input.
  Laid BY PROGRAM, IN A SANDBOX (cutbox-rows.mjs): the forced cells as the released guide's own fill.sh prints them over the translation 8a803e3fa9f75bcf… (all of the seat's roots in one cut). By AI agents, Wed Nov 11 2026. No macro, syntax, notation, axiom, sorry.
-/
import Derived.Test.YtdcndkojmflhnaaGreatChecked
import GoSem.Claim
import GoSem.ClaimJoined
import GoSem.ClaimMapViews
import Derived.JoinedTies
import Derived.KernelRfl
namespace Go.Proofs.YtdcndkojmflhnaaGreat
/- THE CELL 'sum', in the pinned program and in every row, IS THE sha256 OF THE DUMP (.gsa) THAT YtdcndkojmflhnaaGreatProg.lean LOADS. Nothing in Lean hashes anything: it is a label: what it is worth is what the hold of that sum in a sandbox is worth. -/
noncomputable def Tryz.pinned : Pinned := { name := "ytdcndkojmflhnaagreat", sum := "8a803e3fa9f75bcf47f6e23011693ee10555c63c7eb058ed6f976e0f63b1588a", checked := Tryz.checked }
namespace Rows
def none {H : Type} : Left H := { results := [], args := [] }

/-- 'acreagelaw.RestStates': WHATEVER THE INPUT: true; the input reads as it did. -/
def restStatesSpec : ChangeSpec := { name := "restStates", fn := fun _ => fun
  | [d1, d2] => { results := [.lit (.bool true)], args := [d1, d2] }
  | _ => none }
def restStatesRow : OpenClaim := { program := "ytdcndkojmflhnaagreat", sum := "8a803e3fa9f75bcf47f6e23011693ee10555c63c7eb058ed6f976e0f63b1588a", func := "acreage/acreagelaw.RestStates", spec := "restStates", inPlace := ["slices.overlaps[acreage/api.Book]"], unfollowed := true, recurses := true, apart := false }
def RestStatesSaid : Prop := restStatesRow.holds Tryz.pinned (OpenSpec.ofChange restStatesSpec)

/-- ITS FALSE NEIGHBOUR: 'it returns false'. Refute it at one input. -/
def restStatesWrong : ChangeSpec := { name := "restStates", fn := fun _ => fun
  | [d1, d2] => { results := [.lit (.bool false)], args := [d1, d2] }
  | _ => none }
def RestStatesWrongFalsely : Prop := restStatesRow.holds Tryz.pinned (OpenSpec.ofChange restStatesWrong)

/-- 'acreagelaw.LogDoes': WHATEVER THE INPUT: true; the input reads as it did. -/
def logDoesSpec : ChangeSpec := { name := "logDoes", fn := fun _ => fun
  | [d1, d2] => { results := [.lit (.bool true)], args := [d1, d2] }
  | _ => none }
def logDoesRow : OpenClaim := { program := "ytdcndkojmflhnaagreat", sum := "8a803e3fa9f75bcf47f6e23011693ee10555c63c7eb058ed6f976e0f63b1588a", func := "acreage/acreagelaw.LogDoes", spec := "logDoes", inPlace := ["slices.overlaps[acreage/api.Book]"], unfollowed := true, recurses := true, apart := false }
def LogDoesSaid : Prop := logDoesRow.holds Tryz.pinned (OpenSpec.ofChange logDoesSpec)

/-- ITS FALSE NEIGHBOUR: 'it returns false'. Refute it at one input. -/
def logDoesWrong : ChangeSpec := { name := "logDoes", fn := fun _ => fun
  | [d1, d2] => { results := [.lit (.bool false)], args := [d1, d2] }
  | _ => none }
def LogDoesWrongFalsely : Prop := logDoesRow.holds Tryz.pinned (OpenSpec.ofChange logDoesWrong)

/-- 'acreagelaw.LogReplays': WHATEVER THE INPUT: true; the input reads as it did. -/
def logReplaysSpec : ChangeSpec := { name := "logReplays", fn := fun _ => fun
  | [d1, d2] => { results := [.lit (.bool true)], args := [d1, d2] }
  | _ => none }
def logReplaysRow : OpenClaim := { program := "ytdcndkojmflhnaagreat", sum := "8a803e3fa9f75bcf47f6e23011693ee10555c63c7eb058ed6f976e0f63b1588a", func := "acreage/acreagelaw.LogReplays", spec := "logReplays", inPlace := ["slices.overlaps[acreage/api.Book]"], unfollowed := true, recurses := true, apart := false }
def LogReplaysSaid : Prop := logReplaysRow.holds Tryz.pinned (OpenSpec.ofChange logReplaysSpec)

/-- ITS FALSE NEIGHBOUR: 'it returns false'. Refute it at one input. -/
def logReplaysWrong : ChangeSpec := { name := "logReplays", fn := fun _ => fun
  | [d1, d2] => { results := [.lit (.bool false)], args := [d1, d2] }
  | _ => none }
def LogReplaysWrongFalsely : Prop := logReplaysRow.holds Tryz.pinned (OpenSpec.ofChange logReplaysWrong)

/-- 'acreagelaw.LogRecovers': WHATEVER THE INPUT: true; the input reads as it did. -/
def logRecoversSpec : ChangeSpec := { name := "logRecovers", fn := fun _ => fun
  | [d1, d2] => { results := [.lit (.bool true)], args := [d1, d2] }
  | _ => none }
def logRecoversRow : OpenClaim := { program := "ytdcndkojmflhnaagreat", sum := "8a803e3fa9f75bcf47f6e23011693ee10555c63c7eb058ed6f976e0f63b1588a", func := "acreage/acreagelaw.LogRecovers", spec := "logRecovers", inPlace := ["slices.overlaps[acreage/api.Book]"], unfollowed := true, recurses := true, apart := false }
def LogRecoversSaid : Prop := logRecoversRow.holds Tryz.pinned (OpenSpec.ofChange logRecoversSpec)

/-- ITS FALSE NEIGHBOUR: 'it returns false'. Refute it at one input. -/
def logRecoversWrong : ChangeSpec := { name := "logRecovers", fn := fun _ => fun
  | [d1, d2] => { results := [.lit (.bool false)], args := [d1, d2] }
  | _ => none }
def LogRecoversWrongFalsely : Prop := logRecoversRow.holds Tryz.pinned (OpenSpec.ofChange logRecoversWrong)

/-- 'acreagelaw.LogKept': WHATEVER THE INPUT: true; the input reads as it did. -/
def logKeptSpec : ChangeSpec := { name := "logKept", fn := fun _ => fun
  | [d1, d2, d3] => { results := [.lit (.bool true)], args := [d1, d2, d3] }
  | _ => none }
def logKeptRow : OpenClaim := { program := "ytdcndkojmflhnaagreat", sum := "8a803e3fa9f75bcf47f6e23011693ee10555c63c7eb058ed6f976e0f63b1588a", func := "acreage/acreagelaw.LogKept", spec := "logKept", inPlace := ["slices.overlaps[acreage/api.Book]"], unfollowed := true, recurses := true, apart := false }
def LogKeptSaid : Prop := logKeptRow.holds Tryz.pinned (OpenSpec.ofChange logKeptSpec)

/-- ITS FALSE NEIGHBOUR: 'it returns false'. Refute it at one input. -/
def logKeptWrong : ChangeSpec := { name := "logKept", fn := fun _ => fun
  | [d1, d2, d3] => { results := [.lit (.bool false)], args := [d1, d2, d3] }
  | _ => none }
def LogKeptWrongFalsely : Prop := logKeptRow.holds Tryz.pinned (OpenSpec.ofChange logKeptWrong)

/-- 'acreagelaw.LogMore': WHATEVER THE INPUT: true; the input reads as it did. -/
def logMoreSpec : ChangeSpec := { name := "logMore", fn := fun _ => fun
  | [d1, d2, d3] => { results := [.lit (.bool true)], args := [d1, d2, d3] }
  | _ => none }
def logMoreRow : OpenClaim := { program := "ytdcndkojmflhnaagreat", sum := "8a803e3fa9f75bcf47f6e23011693ee10555c63c7eb058ed6f976e0f63b1588a", func := "acreage/acreagelaw.LogMore", spec := "logMore", inPlace := ["slices.overlaps[acreage/api.Book]"], unfollowed := true, recurses := true, apart := false }
def LogMoreSaid : Prop := logMoreRow.holds Tryz.pinned (OpenSpec.ofChange logMoreSpec)

/-- ITS FALSE NEIGHBOUR: 'it returns false'. Refute it at one input. -/
def logMoreWrong : ChangeSpec := { name := "logMore", fn := fun _ => fun
  | [d1, d2, d3] => { results := [.lit (.bool false)], args := [d1, d2, d3] }
  | _ => none }
def LogMoreWrongFalsely : Prop := logMoreRow.holds Tryz.pinned (OpenSpec.ofChange logMoreWrong)

/-- 'acreagelaw.LogRight': WHATEVER THE INPUT: true; the input reads as it did. -/
def logRightSpec : ChangeSpec := { name := "logRight", fn := fun _ => fun
  | [d1, d2, d3] => { results := [.lit (.bool true)], args := [d1, d2, d3] }
  | _ => none }
def logRightRow : OpenClaim := { program := "ytdcndkojmflhnaagreat", sum := "8a803e3fa9f75bcf47f6e23011693ee10555c63c7eb058ed6f976e0f63b1588a", func := "acreage/acreagelaw.LogRight", spec := "logRight", inPlace := ["slices.overlaps[acreage/api.Book]"], unfollowed := true, recurses := true, apart := false }
def LogRightSaid : Prop := logRightRow.holds Tryz.pinned (OpenSpec.ofChange logRightSpec)

/-- ITS FALSE NEIGHBOUR: 'it returns false'. Refute it at one input. -/
def logRightWrong : ChangeSpec := { name := "logRight", fn := fun _ => fun
  | [d1, d2, d3] => { results := [.lit (.bool false)], args := [d1, d2, d3] }
  | _ => none }
def LogRightWrongFalsely : Prop := logRightRow.holds Tryz.pinned (OpenSpec.ofChange logRightWrong)

/- THE SECOND FORM. 'bulk': how many values and letters a reading holds, each counted each time it is reached (what is shared counts as often as it is met; a slice's spare places count too). A statement '..UptoSaid' is the law's where the arguments, and the package variables that the reading takes, are together of bulk at most 1048576: NARROWER than '..Said'. Prove '..Said' where nothing that the law and all that it calls make is longer than what came in: it says more and counts as full. Else prove '..UptoSaid'. A law counts once. -/
mutual
def uptoBulk {H : Type} : DataW H → Nat
  | .lit (.string bytes) => bytes.length + 1
  | .lit _ => 1
  | .nil => 1
  | .ptr d => uptoBulk d + 1
  | .slice elems spare => uptoBulkAll elems + uptoBulkAll spare + 1
  | .agg parts => uptoBulkAll parts + 1
  | .iface _ d => uptoBulk d + 1
  | .map entries => uptoBulkEntries entries + 1
  | .held _ => 1
def uptoBulkAll {H : Type} : List (DataW H) → Nat
  | [] => 0
  | d :: r => uptoBulk d + uptoBulkAll r
def uptoBulkEntries {H : Type} : List (Lit × DataW H) → Nat
  | [] => 0
  | x :: r => uptoBulkEntry x + uptoBulkEntries r
def uptoBulkEntry {H : Type} : Lit × DataW H → Nat
  | (.string bytes, d) => bytes.length + uptoBulk d + 1
  | (_, d) => uptoBulk d + 1
 end
def uptoSmall : (H : Type) → List (DataW H) → Bool := fun _ ds => decide (uptoBulkAll ds ≤ 1048576)
def OpenSpec.upto (s : _root_.Go.ChangeSpec) : _root_.Go.OpenSpec := { _root_.Go.OpenSpec.ofChange s with cond := some uptoSmall }

/-- 'acreagelaw.RestStates', WHERE WHAT IT READS IS OF BULK AT MOST 1048576: true; the input reads as it did. -/
def restStatesUptoRow : OpenClaim := { program := "ytdcndkojmflhnaagreat", sum := "8a803e3fa9f75bcf47f6e23011693ee10555c63c7eb058ed6f976e0f63b1588a", func := "acreage/acreagelaw.RestStates", spec := "restStates", inPlace := ["slices.overlaps[acreage/api.Book]"], unfollowed := true, recurses := true, apart := false, narrowed := true }
def RestStatesUptoSaid : Prop := restStatesUptoRow.holds Tryz.pinned (OpenSpec.upto restStatesSpec)

/-- 'acreagelaw.LogDoes', WHERE WHAT IT READS IS OF BULK AT MOST 1048576: true; the input reads as it did. -/
def logDoesUptoRow : OpenClaim := { program := "ytdcndkojmflhnaagreat", sum := "8a803e3fa9f75bcf47f6e23011693ee10555c63c7eb058ed6f976e0f63b1588a", func := "acreage/acreagelaw.LogDoes", spec := "logDoes", inPlace := ["slices.overlaps[acreage/api.Book]"], unfollowed := true, recurses := true, apart := false, narrowed := true }
def LogDoesUptoSaid : Prop := logDoesUptoRow.holds Tryz.pinned (OpenSpec.upto logDoesSpec)

/-- 'acreagelaw.LogReplays', WHERE WHAT IT READS IS OF BULK AT MOST 1048576: true; the input reads as it did. -/
def logReplaysUptoRow : OpenClaim := { program := "ytdcndkojmflhnaagreat", sum := "8a803e3fa9f75bcf47f6e23011693ee10555c63c7eb058ed6f976e0f63b1588a", func := "acreage/acreagelaw.LogReplays", spec := "logReplays", inPlace := ["slices.overlaps[acreage/api.Book]"], unfollowed := true, recurses := true, apart := false, narrowed := true }
def LogReplaysUptoSaid : Prop := logReplaysUptoRow.holds Tryz.pinned (OpenSpec.upto logReplaysSpec)

/-- 'acreagelaw.LogRecovers', WHERE WHAT IT READS IS OF BULK AT MOST 1048576: true; the input reads as it did. -/
def logRecoversUptoRow : OpenClaim := { program := "ytdcndkojmflhnaagreat", sum := "8a803e3fa9f75bcf47f6e23011693ee10555c63c7eb058ed6f976e0f63b1588a", func := "acreage/acreagelaw.LogRecovers", spec := "logRecovers", inPlace := ["slices.overlaps[acreage/api.Book]"], unfollowed := true, recurses := true, apart := false, narrowed := true }
def LogRecoversUptoSaid : Prop := logRecoversUptoRow.holds Tryz.pinned (OpenSpec.upto logRecoversSpec)

/-- 'acreagelaw.LogKept', WHERE WHAT IT READS IS OF BULK AT MOST 1048576: true; the input reads as it did. -/
def logKeptUptoRow : OpenClaim := { program := "ytdcndkojmflhnaagreat", sum := "8a803e3fa9f75bcf47f6e23011693ee10555c63c7eb058ed6f976e0f63b1588a", func := "acreage/acreagelaw.LogKept", spec := "logKept", inPlace := ["slices.overlaps[acreage/api.Book]"], unfollowed := true, recurses := true, apart := false, narrowed := true }
def LogKeptUptoSaid : Prop := logKeptUptoRow.holds Tryz.pinned (OpenSpec.upto logKeptSpec)

/-- 'acreagelaw.LogMore', WHERE WHAT IT READS IS OF BULK AT MOST 1048576: true; the input reads as it did. -/
def logMoreUptoRow : OpenClaim := { program := "ytdcndkojmflhnaagreat", sum := "8a803e3fa9f75bcf47f6e23011693ee10555c63c7eb058ed6f976e0f63b1588a", func := "acreage/acreagelaw.LogMore", spec := "logMore", inPlace := ["slices.overlaps[acreage/api.Book]"], unfollowed := true, recurses := true, apart := false, narrowed := true }
def LogMoreUptoSaid : Prop := logMoreUptoRow.holds Tryz.pinned (OpenSpec.upto logMoreSpec)

/-- 'acreagelaw.LogRight', WHERE WHAT IT READS IS OF BULK AT MOST 1048576: true; the input reads as it did. -/
def logRightUptoRow : OpenClaim := { program := "ytdcndkojmflhnaagreat", sum := "8a803e3fa9f75bcf47f6e23011693ee10555c63c7eb058ed6f976e0f63b1588a", func := "acreage/acreagelaw.LogRight", spec := "logRight", inPlace := ["slices.overlaps[acreage/api.Book]"], unfollowed := true, recurses := true, apart := false, narrowed := true }
def LogRightUptoSaid : Prop := logRightUptoRow.holds Tryz.pinned (OpenSpec.upto logRightSpec)

end Rows
end Go.Proofs.YtdcndkojmflhnaaGreat
