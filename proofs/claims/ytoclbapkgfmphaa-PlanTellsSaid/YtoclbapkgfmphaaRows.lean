/-
  No cell of these rows narrows 'for every input' (looked for: loops, veiled, ifaces, maps, wideKeys, modest, calm, conditions, laid).
  DERIVED. THE GIVEN ROWS OF THIS SEAT. 8 by the template 'for every input the law returns true; each argument reads behind the call as it read before'; 0 by the template 'total and deterministic' (their statements: YtoclbapkgfmphaaTotals.lean).
  GIVEN WITH THE SEED: the statements are not yours to turn. If you find one false, say at which input.
  Laid BY PROGRAM, IN A SANDBOX (cutbox-rows.mjs): the forced cells as the released guide's own fill.sh prints them over the translation 48295c29ba0351d1… (all of the seat's roots in one cut). By AI agents, Wed Nov 11 2026. No macro, syntax, notation, axiom, sorry.
-/
import Derived.Test.YtoclbapkgfmphaaChecked
import GoSem.Claim
import GoSem.ClaimJoined
import GoSem.ClaimMapViews
import Derived.JoinedTies
import Derived.KernelRfl
namespace Go.Proofs.Ytoclbapkgfmphaa
/- THE CELL 'sum', in the pinned program and in every row, IS THE sha256 OF THE DUMP (.gsa) THAT YtoclbapkgfmphaaProg.lean LOADS. Nothing in Lean hashes anything: it is a label: what it is worth is what the hold of that sum in a sandbox is worth. -/
noncomputable def Try.pinned : Pinned := { name := "ytoclbapkgfmphaa", sum := "48295c29ba0351d1451104201dcc362117113fe0d56d85e9ce5f87a82a6b2f6c", checked := Try.checked }
namespace Rows
def none {H : Type} : Left H := { results := [], args := [] }

/-- 'acreagelaw.LoadTells': WHATEVER THE INPUT: true; the input reads as it did. -/
def loadTellsSpec : ChangeSpec := { name := "loadTells", fn := fun _ => fun
  | [d1, d2, d3] => { results := [.lit (.bool true)], args := [d1, d2, d3] }
  | _ => none }
def loadTellsRow : OpenClaim := { program := "ytoclbapkgfmphaa", sum := "48295c29ba0351d1451104201dcc362117113fe0d56d85e9ce5f87a82a6b2f6c", func := "acreage/acreagelaw.LoadTells", spec := "loadTells", unfollowed := true, recurses := true, apart := false }
def LoadTellsSaid : Prop := loadTellsRow.holds Try.pinned (OpenSpec.ofChange loadTellsSpec)

/-- ITS FALSE NEIGHBOUR: 'it returns false'. Refute it at one input. -/
def loadTellsWrong : ChangeSpec := { name := "loadTells", fn := fun _ => fun
  | [d1, d2, d3] => { results := [.lit (.bool false)], args := [d1, d2, d3] }
  | _ => none }
def LoadTellsWrongFalsely : Prop := loadTellsRow.holds Try.pinned (OpenSpec.ofChange loadTellsWrong)

/-- 'acreagelaw.LoadSum': WHATEVER THE INPUT: true; the input reads as it did. -/
def loadSumSpec : ChangeSpec := { name := "loadSum", fn := fun _ => fun
  | [d1, d2, d3] => { results := [.lit (.bool true)], args := [d1, d2, d3] }
  | _ => none }
def loadSumRow : OpenClaim := { program := "ytoclbapkgfmphaa", sum := "48295c29ba0351d1451104201dcc362117113fe0d56d85e9ce5f87a82a6b2f6c", func := "acreage/acreagelaw.LoadSum", spec := "loadSum", unfollowed := true, recurses := true, apart := false }
def LoadSumSaid : Prop := loadSumRow.holds Try.pinned (OpenSpec.ofChange loadSumSpec)

/-- ITS FALSE NEIGHBOUR: 'it returns false'. Refute it at one input. -/
def loadSumWrong : ChangeSpec := { name := "loadSum", fn := fun _ => fun
  | [d1, d2, d3] => { results := [.lit (.bool false)], args := [d1, d2, d3] }
  | _ => none }
def LoadSumWrongFalsely : Prop := loadSumRow.holds Try.pinned (OpenSpec.ofChange loadSumWrong)

/-- 'acreagelaw.RoomTells': WHATEVER THE INPUT: true; the input reads as it did. -/
def roomTellsSpec : ChangeSpec := { name := "roomTells", fn := fun _ => fun
  | [d1, d2, d3] => { results := [.lit (.bool true)], args := [d1, d2, d3] }
  | _ => none }
def roomTellsRow : OpenClaim := { program := "ytoclbapkgfmphaa", sum := "48295c29ba0351d1451104201dcc362117113fe0d56d85e9ce5f87a82a6b2f6c", func := "acreage/acreagelaw.RoomTells", spec := "roomTells", unfollowed := true, recurses := true, apart := false }
def RoomTellsSaid : Prop := roomTellsRow.holds Try.pinned (OpenSpec.ofChange roomTellsSpec)

/-- ITS FALSE NEIGHBOUR: 'it returns false'. Refute it at one input. -/
def roomTellsWrong : ChangeSpec := { name := "roomTells", fn := fun _ => fun
  | [d1, d2, d3] => { results := [.lit (.bool false)], args := [d1, d2, d3] }
  | _ => none }
def RoomTellsWrongFalsely : Prop := roomTellsRow.holds Try.pinned (OpenSpec.ofChange roomTellsWrong)

/-- 'acreagelaw.LoadTrue': WHATEVER THE INPUT: true; the input reads as it did. -/
def loadTrueSpec : ChangeSpec := { name := "loadTrue", fn := fun _ => fun
  | [d1, d2, d3, d4, d5] => { results := [.lit (.bool true)], args := [d1, d2, d3, d4, d5] }
  | _ => none }
def loadTrueRow : OpenClaim := { program := "ytoclbapkgfmphaa", sum := "48295c29ba0351d1451104201dcc362117113fe0d56d85e9ce5f87a82a6b2f6c", func := "acreage/acreagelaw.LoadTrue", spec := "loadTrue", unfollowed := true, recurses := true, apart := false }
def LoadTrueSaid : Prop := loadTrueRow.holds Try.pinned (OpenSpec.ofChange loadTrueSpec)

/-- ITS FALSE NEIGHBOUR: 'it returns false'. Refute it at one input. -/
def loadTrueWrong : ChangeSpec := { name := "loadTrue", fn := fun _ => fun
  | [d1, d2, d3, d4, d5] => { results := [.lit (.bool false)], args := [d1, d2, d3, d4, d5] }
  | _ => none }
def LoadTrueWrongFalsely : Prop := loadTrueRow.holds Try.pinned (OpenSpec.ofChange loadTrueWrong)

/-- 'acreagelaw.RoomTrue': WHATEVER THE INPUT: true; the input reads as it did. -/
def roomTrueSpec : ChangeSpec := { name := "roomTrue", fn := fun _ => fun
  | [d1, d2, d3, d4, d5, d6] => { results := [.lit (.bool true)], args := [d1, d2, d3, d4, d5, d6] }
  | _ => none }
def roomTrueRow : OpenClaim := { program := "ytoclbapkgfmphaa", sum := "48295c29ba0351d1451104201dcc362117113fe0d56d85e9ce5f87a82a6b2f6c", func := "acreage/acreagelaw.RoomTrue", spec := "roomTrue", unfollowed := true, recurses := true, apart := false }
def RoomTrueSaid : Prop := roomTrueRow.holds Try.pinned (OpenSpec.ofChange roomTrueSpec)

/-- ITS FALSE NEIGHBOUR: 'it returns false'. Refute it at one input. -/
def roomTrueWrong : ChangeSpec := { name := "roomTrue", fn := fun _ => fun
  | [d1, d2, d3, d4, d5, d6] => { results := [.lit (.bool false)], args := [d1, d2, d3, d4, d5, d6] }
  | _ => none }
def RoomTrueWrongFalsely : Prop := roomTrueRow.holds Try.pinned (OpenSpec.ofChange roomTrueWrong)

/-- 'acreagelaw.PlanTells': WHATEVER THE INPUT: true; the input reads as it did. -/
def planTellsSpec : ChangeSpec := { name := "planTells", fn := fun _ => fun
  | [d1, d2, d3] => { results := [.lit (.bool true)], args := [d1, d2, d3] }
  | _ => none }
def planTellsRow : OpenClaim := { program := "ytoclbapkgfmphaa", sum := "48295c29ba0351d1451104201dcc362117113fe0d56d85e9ce5f87a82a6b2f6c", func := "acreage/acreagelaw.PlanTells", spec := "planTells", unfollowed := true, recurses := true, apart := false }
def PlanTellsSaid : Prop := planTellsRow.holds Try.pinned (OpenSpec.ofChange planTellsSpec)

/-- ITS FALSE NEIGHBOUR: 'it returns false'. Refute it at one input. -/
def planTellsWrong : ChangeSpec := { name := "planTells", fn := fun _ => fun
  | [d1, d2, d3] => { results := [.lit (.bool false)], args := [d1, d2, d3] }
  | _ => none }
def PlanTellsWrongFalsely : Prop := planTellsRow.holds Try.pinned (OpenSpec.ofChange planTellsWrong)

/-- 'acreagelaw.PlanTrue': WHATEVER THE INPUT: true; the input reads as it did. -/
def planTrueSpec : ChangeSpec := { name := "planTrue", fn := fun _ => fun
  | [d1, d2, d3] => { results := [.lit (.bool true)], args := [d1, d2, d3] }
  | _ => none }
def planTrueRow : OpenClaim := { program := "ytoclbapkgfmphaa", sum := "48295c29ba0351d1451104201dcc362117113fe0d56d85e9ce5f87a82a6b2f6c", func := "acreage/acreagelaw.PlanTrue", spec := "planTrue", unfollowed := true, recurses := true, apart := false }
def PlanTrueSaid : Prop := planTrueRow.holds Try.pinned (OpenSpec.ofChange planTrueSpec)

/-- ITS FALSE NEIGHBOUR: 'it returns false'. Refute it at one input. -/
def planTrueWrong : ChangeSpec := { name := "planTrue", fn := fun _ => fun
  | [d1, d2, d3] => { results := [.lit (.bool false)], args := [d1, d2, d3] }
  | _ => none }
def PlanTrueWrongFalsely : Prop := planTrueRow.holds Try.pinned (OpenSpec.ofChange planTrueWrong)

/-- 'acreagelaw.AskTrue': WHATEVER THE INPUT: true; the input reads as it did. -/
def askTrueSpec : ChangeSpec := { name := "askTrue", fn := fun _ => fun
  | [d1, d2, d3, d4] => { results := [.lit (.bool true)], args := [d1, d2, d3, d4] }
  | _ => none }
def askTrueRow : OpenClaim := { program := "ytoclbapkgfmphaa", sum := "48295c29ba0351d1451104201dcc362117113fe0d56d85e9ce5f87a82a6b2f6c", func := "acreage/acreagelaw.AskTrue", spec := "askTrue", unfollowed := true, recurses := true, apart := false }
def AskTrueSaid : Prop := askTrueRow.holds Try.pinned (OpenSpec.ofChange askTrueSpec)

/-- ITS FALSE NEIGHBOUR: 'it returns false'. Refute it at one input. -/
def askTrueWrong : ChangeSpec := { name := "askTrue", fn := fun _ => fun
  | [d1, d2, d3, d4] => { results := [.lit (.bool false)], args := [d1, d2, d3, d4] }
  | _ => none }
def AskTrueWrongFalsely : Prop := askTrueRow.holds Try.pinned (OpenSpec.ofChange askTrueWrong)

/- THE SECOND FORM. 'bulk': how many values and letters a reading holds, each counted each time it is reached (what is shared counts as often as it is met; a slice's spare places count too). A statement '..UptoSaid' is the law's where the arguments, and the package variables that the reading takes, are together of bulk at most 1048576: NARROWER than '..Said'. Prove '..Said' where nothing that the law and all that it calls make is longer than what came in: it says more and counts as full. Else prove '..UptoSaid'. A law counts once. -/
mutual
def uptoBulk {H : Type} : DataW H → Nat
  | .lit (.string bytes) => bytes.length + 1
  | .lit _ => 1
  | .nil => 1
  | .ptr d => uptoBulk d + 1
  | .slice elems spare => uptoBulkAll elems + uptoBulkAll spare + 1
  | .agg parts => uptoBulkAll parts + 1
  | .iface _ d => uptoBulk d + 1
  | .map entries => uptoBulkEntries entries + 1
  | .held _ => 1
def uptoBulkAll {H : Type} : List (DataW H) → Nat
  | [] => 0
  | d :: r => uptoBulk d + uptoBulkAll r
def uptoBulkEntries {H : Type} : List (Lit × DataW H) → Nat
  | [] => 0
  | x :: r => uptoBulkEntry x + uptoBulkEntries r
def uptoBulkEntry {H : Type} : Lit × DataW H → Nat
  | (.string bytes, d) => bytes.length + uptoBulk d + 1
  | (_, d) => uptoBulk d + 1
 end
def uptoSmall : (H : Type) → List (DataW H) → Bool := fun _ ds => decide (uptoBulkAll ds ≤ 1048576)
def OpenSpec.upto (s : _root_.Go.ChangeSpec) : _root_.Go.OpenSpec := { _root_.Go.OpenSpec.ofChange s with cond := some uptoSmall }

/-- 'acreagelaw.LoadTells', WHERE WHAT IT READS IS OF BULK AT MOST 1048576: true; the input reads as it did. -/
def loadTellsUptoRow : OpenClaim := { program := "ytoclbapkgfmphaa", sum := "48295c29ba0351d1451104201dcc362117113fe0d56d85e9ce5f87a82a6b2f6c", func := "acreage/acreagelaw.LoadTells", spec := "loadTells", unfollowed := true, recurses := true, apart := false, narrowed := true }
def LoadTellsUptoSaid : Prop := loadTellsUptoRow.holds Try.pinned (OpenSpec.upto loadTellsSpec)

/-- 'acreagelaw.LoadSum', WHERE WHAT IT READS IS OF BULK AT MOST 1048576: true; the input reads as it did. -/
def loadSumUptoRow : OpenClaim := { program := "ytoclbapkgfmphaa", sum := "48295c29ba0351d1451104201dcc362117113fe0d56d85e9ce5f87a82a6b2f6c", func := "acreage/acreagelaw.LoadSum", spec := "loadSum", unfollowed := true, recurses := true, apart := false, narrowed := true }
def LoadSumUptoSaid : Prop := loadSumUptoRow.holds Try.pinned (OpenSpec.upto loadSumSpec)

/-- 'acreagelaw.RoomTells', WHERE WHAT IT READS IS OF BULK AT MOST 1048576: true; the input reads as it did. -/
def roomTellsUptoRow : OpenClaim := { program := "ytoclbapkgfmphaa", sum := "48295c29ba0351d1451104201dcc362117113fe0d56d85e9ce5f87a82a6b2f6c", func := "acreage/acreagelaw.RoomTells", spec := "roomTells", unfollowed := true, recurses := true, apart := false, narrowed := true }
def RoomTellsUptoSaid : Prop := roomTellsUptoRow.holds Try.pinned (OpenSpec.upto roomTellsSpec)

/-- 'acreagelaw.LoadTrue', WHERE WHAT IT READS IS OF BULK AT MOST 1048576: true; the input reads as it did. -/
def loadTrueUptoRow : OpenClaim := { program := "ytoclbapkgfmphaa", sum := "48295c29ba0351d1451104201dcc362117113fe0d56d85e9ce5f87a82a6b2f6c", func := "acreage/acreagelaw.LoadTrue", spec := "loadTrue", unfollowed := true, recurses := true, apart := false, narrowed := true }
def LoadTrueUptoSaid : Prop := loadTrueUptoRow.holds Try.pinned (OpenSpec.upto loadTrueSpec)

/-- 'acreagelaw.RoomTrue', WHERE WHAT IT READS IS OF BULK AT MOST 1048576: true; the input reads as it did. -/
def roomTrueUptoRow : OpenClaim := { program := "ytoclbapkgfmphaa", sum := "48295c29ba0351d1451104201dcc362117113fe0d56d85e9ce5f87a82a6b2f6c", func := "acreage/acreagelaw.RoomTrue", spec := "roomTrue", unfollowed := true, recurses := true, apart := false, narrowed := true }
def RoomTrueUptoSaid : Prop := roomTrueUptoRow.holds Try.pinned (OpenSpec.upto roomTrueSpec)

/-- 'acreagelaw.PlanTells', WHERE WHAT IT READS IS OF BULK AT MOST 1048576: true; the input reads as it did. -/
def planTellsUptoRow : OpenClaim := { program := "ytoclbapkgfmphaa", sum := "48295c29ba0351d1451104201dcc362117113fe0d56d85e9ce5f87a82a6b2f6c", func := "acreage/acreagelaw.PlanTells", spec := "planTells", unfollowed := true, recurses := true, apart := false, narrowed := true }
def PlanTellsUptoSaid : Prop := planTellsUptoRow.holds Try.pinned (OpenSpec.upto planTellsSpec)

/-- 'acreagelaw.PlanTrue', WHERE WHAT IT READS IS OF BULK AT MOST 1048576: true; the input reads as it did. -/
def planTrueUptoRow : OpenClaim := { program := "ytoclbapkgfmphaa", sum := "48295c29ba0351d1451104201dcc362117113fe0d56d85e9ce5f87a82a6b2f6c", func := "acreage/acreagelaw.PlanTrue", spec := "planTrue", unfollowed := true, recurses := true, apart := false, narrowed := true }
def PlanTrueUptoSaid : Prop := planTrueUptoRow.holds Try.pinned (OpenSpec.upto planTrueSpec)

/-- 'acreagelaw.AskTrue', WHERE WHAT IT READS IS OF BULK AT MOST 1048576: true; the input reads as it did. -/
def askTrueUptoRow : OpenClaim := { program := "ytoclbapkgfmphaa", sum := "48295c29ba0351d1451104201dcc362117113fe0d56d85e9ce5f87a82a6b2f6c", func := "acreage/acreagelaw.AskTrue", spec := "askTrue", unfollowed := true, recurses := true, apart := false, narrowed := true }
def AskTrueUptoSaid : Prop := askTrueUptoRow.holds Try.pinned (OpenSpec.upto askTrueSpec)

end Rows
end Go.Proofs.Ytoclbapkgfmphaa
