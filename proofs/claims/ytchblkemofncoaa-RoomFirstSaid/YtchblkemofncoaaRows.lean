/-
  No cell of these rows narrows 'for every input' (looked for: loops, veiled, ifaces, maps, wideKeys, modest, calm, conditions, laid).
  DERIVED. THE GIVEN ROWS OF THIS SEAT. 12 by the template 'for every input the law returns true; each argument reads behind the call as it read before'; 0 by the template 'total and deterministic' (their statements: YtchblkemofncoaaTotals.lean).
  GIVEN WITH THE SEED: the statements are not yours to turn. If you find one false, say at which input.
  Laid BY PROGRAM, IN A SANDBOX (cutbox-rows.mjs): the forced cells as the released guide's own fill.sh prints them over the translation d91c1ad9f09b2cd4… (all of the seat's roots in one cut). By AI agents, Wed Nov 11 2026. No macro, syntax, notation, axiom, sorry.
-/
import Derived.Test.YtchblkemofncoaaChecked
import GoSem.Claim
import GoSem.ClaimJoined
import GoSem.ClaimMapViews
import Derived.JoinedTies
import Derived.KernelRfl
namespace Go.Proofs.Ytchblkemofncoaa
/- THE CELL 'sum', in the pinned program and in every row, IS THE sha256 OF THE DUMP (.gsa) THAT YtchblkemofncoaaProg.lean LOADS. Nothing in Lean hashes anything: it is a label: what it is worth is what the hold of that sum in a sandbox is worth. -/
noncomputable def Try.pinned : Pinned := { name := "ytchblkemofncoaa", sum := "d91c1ad9f09b2cd4493457f09d4b5ae528d10bd159a4070027ff3e312702df55", checked := Try.checked }
namespace Rows
def none {H : Type} : Left H := { results := [], args := [] }

/-- 'acreagelaw.TreeTells': WHATEVER THE INPUT: true; the input reads as it did. -/
def treeTellsSpec : ChangeSpec := { name := "treeTells", fn := fun _ => fun
  | [d1, d2, d3] => { results := [.lit (.bool true)], args := [d1, d2, d3] }
  | _ => none }
def treeTellsRow : OpenClaim := { program := "ytchblkemofncoaa", sum := "d91c1ad9f09b2cd4493457f09d4b5ae528d10bd159a4070027ff3e312702df55", func := "acreage/acreagelaw.TreeTells", spec := "treeTells", unfollowed := true, recurses := true, apart := false }
def TreeTellsSaid : Prop := treeTellsRow.holds Try.pinned (OpenSpec.ofChange treeTellsSpec)

/-- ITS FALSE NEIGHBOUR: 'it returns false'. Refute it at one input. -/
def treeTellsWrong : ChangeSpec := { name := "treeTells", fn := fun _ => fun
  | [d1, d2, d3] => { results := [.lit (.bool false)], args := [d1, d2, d3] }
  | _ => none }
def TreeTellsWrongFalsely : Prop := treeTellsRow.holds Try.pinned (OpenSpec.ofChange treeTellsWrong)

/-- 'acreagelaw.TreeTrue': WHATEVER THE INPUT: true; the input reads as it did. -/
def treeTrueSpec : ChangeSpec := { name := "treeTrue", fn := fun _ => fun
  | [d1, d2, d3] => { results := [.lit (.bool true)], args := [d1, d2, d3] }
  | _ => none }
def treeTrueRow : OpenClaim := { program := "ytchblkemofncoaa", sum := "d91c1ad9f09b2cd4493457f09d4b5ae528d10bd159a4070027ff3e312702df55", func := "acreage/acreagelaw.TreeTrue", spec := "treeTrue", unfollowed := true, recurses := true, apart := false }
def TreeTrueSaid : Prop := treeTrueRow.holds Try.pinned (OpenSpec.ofChange treeTrueSpec)

/-- ITS FALSE NEIGHBOUR: 'it returns false'. Refute it at one input. -/
def treeTrueWrong : ChangeSpec := { name := "treeTrue", fn := fun _ => fun
  | [d1, d2, d3] => { results := [.lit (.bool false)], args := [d1, d2, d3] }
  | _ => none }
def TreeTrueWrongFalsely : Prop := treeTrueRow.holds Try.pinned (OpenSpec.ofChange treeTrueWrong)

/-- 'acreagelaw.ReqTells': WHATEVER THE INPUT: true; the input reads as it did. -/
def reqTellsSpec : ChangeSpec := { name := "reqTells", fn := fun _ => fun
  | [d1, d2, d3] => { results := [.lit (.bool true)], args := [d1, d2, d3] }
  | _ => none }
def reqTellsRow : OpenClaim := { program := "ytchblkemofncoaa", sum := "d91c1ad9f09b2cd4493457f09d4b5ae528d10bd159a4070027ff3e312702df55", func := "acreage/acreagelaw.ReqTells", spec := "reqTells", unfollowed := true, recurses := true, apart := false }
def ReqTellsSaid : Prop := reqTellsRow.holds Try.pinned (OpenSpec.ofChange reqTellsSpec)

/-- ITS FALSE NEIGHBOUR: 'it returns false'. Refute it at one input. -/
def reqTellsWrong : ChangeSpec := { name := "reqTells", fn := fun _ => fun
  | [d1, d2, d3] => { results := [.lit (.bool false)], args := [d1, d2, d3] }
  | _ => none }
def ReqTellsWrongFalsely : Prop := reqTellsRow.holds Try.pinned (OpenSpec.ofChange reqTellsWrong)

/-- 'acreagelaw.ReqTrue': WHATEVER THE INPUT: true; the input reads as it did. -/
def reqTrueSpec : ChangeSpec := { name := "reqTrue", fn := fun _ => fun
  | [d1, d2] => { results := [.lit (.bool true)], args := [d1, d2] }
  | _ => none }
def reqTrueRow : OpenClaim := { program := "ytchblkemofncoaa", sum := "d91c1ad9f09b2cd4493457f09d4b5ae528d10bd159a4070027ff3e312702df55", func := "acreage/acreagelaw.ReqTrue", spec := "reqTrue", unfollowed := true, recurses := true, apart := false }
def ReqTrueSaid : Prop := reqTrueRow.holds Try.pinned (OpenSpec.ofChange reqTrueSpec)

/-- ITS FALSE NEIGHBOUR: 'it returns false'. Refute it at one input. -/
def reqTrueWrong : ChangeSpec := { name := "reqTrue", fn := fun _ => fun
  | [d1, d2] => { results := [.lit (.bool false)], args := [d1, d2] }
  | _ => none }
def ReqTrueWrongFalsely : Prop := reqTrueRow.holds Try.pinned (OpenSpec.ofChange reqTrueWrong)

/-- 'acreagelaw.RunsTells': WHATEVER THE INPUT: true; the input reads as it did. -/
def runsTellsSpec : ChangeSpec := { name := "runsTells", fn := fun _ => fun
  | [d1, d2, d3, d4] => { results := [.lit (.bool true)], args := [d1, d2, d3, d4] }
  | _ => none }
def runsTellsRow : OpenClaim := { program := "ytchblkemofncoaa", sum := "d91c1ad9f09b2cd4493457f09d4b5ae528d10bd159a4070027ff3e312702df55", func := "acreage/acreagelaw.RunsTells", spec := "runsTells", unfollowed := true, recurses := true, apart := false }
def RunsTellsSaid : Prop := runsTellsRow.holds Try.pinned (OpenSpec.ofChange runsTellsSpec)

/-- ITS FALSE NEIGHBOUR: 'it returns false'. Refute it at one input. -/
def runsTellsWrong : ChangeSpec := { name := "runsTells", fn := fun _ => fun
  | [d1, d2, d3, d4] => { results := [.lit (.bool false)], args := [d1, d2, d3, d4] }
  | _ => none }
def RunsTellsWrongFalsely : Prop := runsTellsRow.holds Try.pinned (OpenSpec.ofChange runsTellsWrong)

/-- 'acreagelaw.RunsBumps': WHATEVER THE INPUT: true; the input reads as it did. -/
def runsBumpsSpec : ChangeSpec := { name := "runsBumps", fn := fun _ => fun
  | [d1, d2, d3, d4] => { results := [.lit (.bool true)], args := [d1, d2, d3, d4] }
  | _ => none }
def runsBumpsRow : OpenClaim := { program := "ytchblkemofncoaa", sum := "d91c1ad9f09b2cd4493457f09d4b5ae528d10bd159a4070027ff3e312702df55", func := "acreage/acreagelaw.RunsBumps", spec := "runsBumps", unfollowed := true, recurses := true, apart := false }
def RunsBumpsSaid : Prop := runsBumpsRow.holds Try.pinned (OpenSpec.ofChange runsBumpsSpec)

/-- ITS FALSE NEIGHBOUR: 'it returns false'. Refute it at one input. -/
def runsBumpsWrong : ChangeSpec := { name := "runsBumps", fn := fun _ => fun
  | [d1, d2, d3, d4] => { results := [.lit (.bool false)], args := [d1, d2, d3, d4] }
  | _ => none }
def RunsBumpsWrongFalsely : Prop := runsBumpsRow.holds Try.pinned (OpenSpec.ofChange runsBumpsWrong)

/-- 'acreagelaw.RunsTwo': WHATEVER THE INPUT: true; the input reads as it did. -/
def runsTwoSpec : ChangeSpec := { name := "runsTwo", fn := fun _ => fun
  | [d1, d2] => { results := [.lit (.bool true)], args := [d1, d2] }
  | _ => none }
def runsTwoRow : OpenClaim := { program := "ytchblkemofncoaa", sum := "d91c1ad9f09b2cd4493457f09d4b5ae528d10bd159a4070027ff3e312702df55", func := "acreage/acreagelaw.RunsTwo", spec := "runsTwo", unfollowed := true, recurses := true, apart := false }
def RunsTwoSaid : Prop := runsTwoRow.holds Try.pinned (OpenSpec.ofChange runsTwoSpec)

/-- ITS FALSE NEIGHBOUR: 'it returns false'. Refute it at one input. -/
def runsTwoWrong : ChangeSpec := { name := "runsTwo", fn := fun _ => fun
  | [d1, d2] => { results := [.lit (.bool false)], args := [d1, d2] }
  | _ => none }
def RunsTwoWrongFalsely : Prop := runsTwoRow.holds Try.pinned (OpenSpec.ofChange runsTwoWrong)

/-- 'acreagelaw.RunsTrue': WHATEVER THE INPUT: true; the input reads as it did. -/
def runsTrueSpec : ChangeSpec := { name := "runsTrue", fn := fun _ => fun
  | [d1, d2, d3, d4, d5] => { results := [.lit (.bool true)], args := [d1, d2, d3, d4, d5] }
  | _ => none }
def runsTrueRow : OpenClaim := { program := "ytchblkemofncoaa", sum := "d91c1ad9f09b2cd4493457f09d4b5ae528d10bd159a4070027ff3e312702df55", func := "acreage/acreagelaw.RunsTrue", spec := "runsTrue", unfollowed := true, recurses := true, apart := false }
def RunsTrueSaid : Prop := runsTrueRow.holds Try.pinned (OpenSpec.ofChange runsTrueSpec)

/-- ITS FALSE NEIGHBOUR: 'it returns false'. Refute it at one input. -/
def runsTrueWrong : ChangeSpec := { name := "runsTrue", fn := fun _ => fun
  | [d1, d2, d3, d4, d5] => { results := [.lit (.bool false)], args := [d1, d2, d3, d4, d5] }
  | _ => none }
def RunsTrueWrongFalsely : Prop := runsTrueRow.holds Try.pinned (OpenSpec.ofChange runsTrueWrong)

/-- 'acreagelaw.PlaceFinds': WHATEVER THE INPUT: true; the input reads as it did. -/
def placeFindsSpec : ChangeSpec := { name := "placeFinds", fn := fun _ => fun
  | [d1, d2] => { results := [.lit (.bool true)], args := [d1, d2] }
  | _ => none }
def placeFindsRow : OpenClaim := { program := "ytchblkemofncoaa", sum := "d91c1ad9f09b2cd4493457f09d4b5ae528d10bd159a4070027ff3e312702df55", func := "acreage/acreagelaw.PlaceFinds", spec := "placeFinds", unfollowed := true, recurses := true, apart := false }
def PlaceFindsSaid : Prop := placeFindsRow.holds Try.pinned (OpenSpec.ofChange placeFindsSpec)

/-- ITS FALSE NEIGHBOUR: 'it returns false'. Refute it at one input. -/
def placeFindsWrong : ChangeSpec := { name := "placeFinds", fn := fun _ => fun
  | [d1, d2] => { results := [.lit (.bool false)], args := [d1, d2] }
  | _ => none }
def PlaceFindsWrongFalsely : Prop := placeFindsRow.holds Try.pinned (OpenSpec.ofChange placeFindsWrong)

/-- 'acreagelaw.RoomFirst': WHATEVER THE INPUT: true; the input reads as it did. -/
def roomFirstSpec : ChangeSpec := { name := "roomFirst", fn := fun _ => fun
  | [d1, d2, d3, d4, d5] => { results := [.lit (.bool true)], args := [d1, d2, d3, d4, d5] }
  | _ => none }
def roomFirstRow : OpenClaim := { program := "ytchblkemofncoaa", sum := "d91c1ad9f09b2cd4493457f09d4b5ae528d10bd159a4070027ff3e312702df55", func := "acreage/acreagelaw.RoomFirst", spec := "roomFirst", unfollowed := true, recurses := true, apart := false }
def RoomFirstSaid : Prop := roomFirstRow.holds Try.pinned (OpenSpec.ofChange roomFirstSpec)

/-- ITS FALSE NEIGHBOUR: 'it returns false'. Refute it at one input. -/
def roomFirstWrong : ChangeSpec := { name := "roomFirst", fn := fun _ => fun
  | [d1, d2, d3, d4, d5] => { results := [.lit (.bool false)], args := [d1, d2, d3, d4, d5] }
  | _ => none }
def RoomFirstWrongFalsely : Prop := roomFirstRow.holds Try.pinned (OpenSpec.ofChange roomFirstWrong)

/-- 'acreagelaw.PlaceTrue': WHATEVER THE INPUT: true; the input reads as it did. -/
def placeTrueSpec : ChangeSpec := { name := "placeTrue", fn := fun _ => fun
  | [d1, d2] => { results := [.lit (.bool true)], args := [d1, d2] }
  | _ => none }
def placeTrueRow : OpenClaim := { program := "ytchblkemofncoaa", sum := "d91c1ad9f09b2cd4493457f09d4b5ae528d10bd159a4070027ff3e312702df55", func := "acreage/acreagelaw.PlaceTrue", spec := "placeTrue", unfollowed := true, recurses := true, apart := false }
def PlaceTrueSaid : Prop := placeTrueRow.holds Try.pinned (OpenSpec.ofChange placeTrueSpec)

/-- ITS FALSE NEIGHBOUR: 'it returns false'. Refute it at one input. -/
def placeTrueWrong : ChangeSpec := { name := "placeTrue", fn := fun _ => fun
  | [d1, d2] => { results := [.lit (.bool false)], args := [d1, d2] }
  | _ => none }
def PlaceTrueWrongFalsely : Prop := placeTrueRow.holds Try.pinned (OpenSpec.ofChange placeTrueWrong)

/-- 'acreagelaw.PlaceSure': WHATEVER THE INPUT: true; the input reads as it did. -/
def placeSureSpec : ChangeSpec := { name := "placeSure", fn := fun _ => fun
  | [d1, d2, d3] => { results := [.lit (.bool true)], args := [d1, d2, d3] }
  | _ => none }
def placeSureRow : OpenClaim := { program := "ytchblkemofncoaa", sum := "d91c1ad9f09b2cd4493457f09d4b5ae528d10bd159a4070027ff3e312702df55", func := "acreage/acreagelaw.PlaceSure", spec := "placeSure", unfollowed := true, recurses := true, apart := false }
def PlaceSureSaid : Prop := placeSureRow.holds Try.pinned (OpenSpec.ofChange placeSureSpec)

/-- ITS FALSE NEIGHBOUR: 'it returns false'. Refute it at one input. -/
def placeSureWrong : ChangeSpec := { name := "placeSure", fn := fun _ => fun
  | [d1, d2, d3] => { results := [.lit (.bool false)], args := [d1, d2, d3] }
  | _ => none }
def PlaceSureWrongFalsely : Prop := placeSureRow.holds Try.pinned (OpenSpec.ofChange placeSureWrong)

/- THE SECOND FORM. 'bulk': how many values and letters a reading holds, each counted each time it is reached (what is shared counts as often as it is met; a slice's spare places count too). A statement '..UptoSaid' is the law's where the arguments, and the package variables that the reading takes, are together of bulk at most 1048576: NARROWER than '..Said'. Prove '..Said' where nothing that the law and all that it calls make is longer than what came in: it says more and counts as full. Else prove '..UptoSaid'. A law counts once. -/
mutual
def uptoBulk {H : Type} : DataW H → Nat
  | .lit (.string bytes) => bytes.length + 1
  | .lit _ => 1
  | .nil => 1
  | .ptr d => uptoBulk d + 1
  | .slice elems spare => uptoBulkAll elems + uptoBulkAll spare + 1
  | .agg parts => uptoBulkAll parts + 1
  | .iface _ d => uptoBulk d + 1
  | .map entries => uptoBulkEntries entries + 1
  | .held _ => 1
def uptoBulkAll {H : Type} : List (DataW H) → Nat
  | [] => 0
  | d :: r => uptoBulk d + uptoBulkAll r
def uptoBulkEntries {H : Type} : List (Lit × DataW H) → Nat
  | [] => 0
  | x :: r => uptoBulkEntry x + uptoBulkEntries r
def uptoBulkEntry {H : Type} : Lit × DataW H → Nat
  | (.string bytes, d) => bytes.length + uptoBulk d + 1
  | (_, d) => uptoBulk d + 1
 end
def uptoSmall : (H : Type) → List (DataW H) → Bool := fun _ ds => decide (uptoBulkAll ds ≤ 1048576)
def OpenSpec.upto (s : _root_.Go.ChangeSpec) : _root_.Go.OpenSpec := { _root_.Go.OpenSpec.ofChange s with cond := some uptoSmall }

/-- 'acreagelaw.TreeTells', WHERE WHAT IT READS IS OF BULK AT MOST 1048576: true; the input reads as it did. -/
def treeTellsUptoRow : OpenClaim := { program := "ytchblkemofncoaa", sum := "d91c1ad9f09b2cd4493457f09d4b5ae528d10bd159a4070027ff3e312702df55", func := "acreage/acreagelaw.TreeTells", spec := "treeTells", unfollowed := true, recurses := true, apart := false, narrowed := true }
def TreeTellsUptoSaid : Prop := treeTellsUptoRow.holds Try.pinned (OpenSpec.upto treeTellsSpec)

/-- 'acreagelaw.TreeTrue', WHERE WHAT IT READS IS OF BULK AT MOST 1048576: true; the input reads as it did. -/
def treeTrueUptoRow : OpenClaim := { program := "ytchblkemofncoaa", sum := "d91c1ad9f09b2cd4493457f09d4b5ae528d10bd159a4070027ff3e312702df55", func := "acreage/acreagelaw.TreeTrue", spec := "treeTrue", unfollowed := true, recurses := true, apart := false, narrowed := true }
def TreeTrueUptoSaid : Prop := treeTrueUptoRow.holds Try.pinned (OpenSpec.upto treeTrueSpec)

/-- 'acreagelaw.ReqTells', WHERE WHAT IT READS IS OF BULK AT MOST 1048576: true; the input reads as it did. -/
def reqTellsUptoRow : OpenClaim := { program := "ytchblkemofncoaa", sum := "d91c1ad9f09b2cd4493457f09d4b5ae528d10bd159a4070027ff3e312702df55", func := "acreage/acreagelaw.ReqTells", spec := "reqTells", unfollowed := true, recurses := true, apart := false, narrowed := true }
def ReqTellsUptoSaid : Prop := reqTellsUptoRow.holds Try.pinned (OpenSpec.upto reqTellsSpec)

/-- 'acreagelaw.ReqTrue', WHERE WHAT IT READS IS OF BULK AT MOST 1048576: true; the input reads as it did. -/
def reqTrueUptoRow : OpenClaim := { program := "ytchblkemofncoaa", sum := "d91c1ad9f09b2cd4493457f09d4b5ae528d10bd159a4070027ff3e312702df55", func := "acreage/acreagelaw.ReqTrue", spec := "reqTrue", unfollowed := true, recurses := true, apart := false, narrowed := true }
def ReqTrueUptoSaid : Prop := reqTrueUptoRow.holds Try.pinned (OpenSpec.upto reqTrueSpec)

/-- 'acreagelaw.RunsTells', WHERE WHAT IT READS IS OF BULK AT MOST 1048576: true; the input reads as it did. -/
def runsTellsUptoRow : OpenClaim := { program := "ytchblkemofncoaa", sum := "d91c1ad9f09b2cd4493457f09d4b5ae528d10bd159a4070027ff3e312702df55", func := "acreage/acreagelaw.RunsTells", spec := "runsTells", unfollowed := true, recurses := true, apart := false, narrowed := true }
def RunsTellsUptoSaid : Prop := runsTellsUptoRow.holds Try.pinned (OpenSpec.upto runsTellsSpec)

/-- 'acreagelaw.RunsBumps', WHERE WHAT IT READS IS OF BULK AT MOST 1048576: true; the input reads as it did. -/
def runsBumpsUptoRow : OpenClaim := { program := "ytchblkemofncoaa", sum := "d91c1ad9f09b2cd4493457f09d4b5ae528d10bd159a4070027ff3e312702df55", func := "acreage/acreagelaw.RunsBumps", spec := "runsBumps", unfollowed := true, recurses := true, apart := false, narrowed := true }
def RunsBumpsUptoSaid : Prop := runsBumpsUptoRow.holds Try.pinned (OpenSpec.upto runsBumpsSpec)

/-- 'acreagelaw.RunsTwo', WHERE WHAT IT READS IS OF BULK AT MOST 1048576: true; the input reads as it did. -/
def runsTwoUptoRow : OpenClaim := { program := "ytchblkemofncoaa", sum := "d91c1ad9f09b2cd4493457f09d4b5ae528d10bd159a4070027ff3e312702df55", func := "acreage/acreagelaw.RunsTwo", spec := "runsTwo", unfollowed := true, recurses := true, apart := false, narrowed := true }
def RunsTwoUptoSaid : Prop := runsTwoUptoRow.holds Try.pinned (OpenSpec.upto runsTwoSpec)

/-- 'acreagelaw.RunsTrue', WHERE WHAT IT READS IS OF BULK AT MOST 1048576: true; the input reads as it did. -/
def runsTrueUptoRow : OpenClaim := { program := "ytchblkemofncoaa", sum := "d91c1ad9f09b2cd4493457f09d4b5ae528d10bd159a4070027ff3e312702df55", func := "acreage/acreagelaw.RunsTrue", spec := "runsTrue", unfollowed := true, recurses := true, apart := false, narrowed := true }
def RunsTrueUptoSaid : Prop := runsTrueUptoRow.holds Try.pinned (OpenSpec.upto runsTrueSpec)

/-- 'acreagelaw.PlaceFinds', WHERE WHAT IT READS IS OF BULK AT MOST 1048576: true; the input reads as it did. -/
def placeFindsUptoRow : OpenClaim := { program := "ytchblkemofncoaa", sum := "d91c1ad9f09b2cd4493457f09d4b5ae528d10bd159a4070027ff3e312702df55", func := "acreage/acreagelaw.PlaceFinds", spec := "placeFinds", unfollowed := true, recurses := true, apart := false, narrowed := true }
def PlaceFindsUptoSaid : Prop := placeFindsUptoRow.holds Try.pinned (OpenSpec.upto placeFindsSpec)

/-- 'acreagelaw.RoomFirst', WHERE WHAT IT READS IS OF BULK AT MOST 1048576: true; the input reads as it did. -/
def roomFirstUptoRow : OpenClaim := { program := "ytchblkemofncoaa", sum := "d91c1ad9f09b2cd4493457f09d4b5ae528d10bd159a4070027ff3e312702df55", func := "acreage/acreagelaw.RoomFirst", spec := "roomFirst", unfollowed := true, recurses := true, apart := false, narrowed := true }
def RoomFirstUptoSaid : Prop := roomFirstUptoRow.holds Try.pinned (OpenSpec.upto roomFirstSpec)

/-- 'acreagelaw.PlaceTrue', WHERE WHAT IT READS IS OF BULK AT MOST 1048576: true; the input reads as it did. -/
def placeTrueUptoRow : OpenClaim := { program := "ytchblkemofncoaa", sum := "d91c1ad9f09b2cd4493457f09d4b5ae528d10bd159a4070027ff3e312702df55", func := "acreage/acreagelaw.PlaceTrue", spec := "placeTrue", unfollowed := true, recurses := true, apart := false, narrowed := true }
def PlaceTrueUptoSaid : Prop := placeTrueUptoRow.holds Try.pinned (OpenSpec.upto placeTrueSpec)

/-- 'acreagelaw.PlaceSure', WHERE WHAT IT READS IS OF BULK AT MOST 1048576: true; the input reads as it did. -/
def placeSureUptoRow : OpenClaim := { program := "ytchblkemofncoaa", sum := "d91c1ad9f09b2cd4493457f09d4b5ae528d10bd159a4070027ff3e312702df55", func := "acreage/acreagelaw.PlaceSure", spec := "placeSure", unfollowed := true, recurses := true, apart := false, narrowed := true }
def PlaceSureUptoSaid : Prop := placeSureUptoRow.holds Try.pinned (OpenSpec.upto placeSureSpec)

end Rows
end Go.Proofs.Ytchblkemofncoaa
