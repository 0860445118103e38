/-
  No cell of these rows narrows 'for every input' (looked for: loops, veiled, ifaces, maps, wideKeys, modest, calm, conditions, laid).
  DERIVED. THE GIVEN ROWS OF THIS SEAT. 7 by the template 'for every input the law returns true; each argument reads behind the call as it read before'; 0 by the template 'total and deterministic' (their statements: YtkilnknndglmnaaTotals.lean).
  GIVEN WITH THE SEED: the statements are not yours to turn. If you find one false, say at which input.
  Laid BY PROGRAM, IN A SANDBOX (cutbox-rows.mjs): the forced cells as the released guide's own fill.sh prints them over the translation cfd6e29b0528936b… (all of the seat's roots in one cut). By AI agents, Wed Nov 11 2026. No macro, syntax, notation, axiom, sorry.
-/
import Derived.Test.YtkilnknndglmnaaChecked
import GoSem.Claim
import GoSem.ClaimJoined
import GoSem.ClaimMapViews
import Derived.JoinedTies
import Derived.KernelRfl
namespace Go.Proofs.Ytkilnknndglmnaa
/- THE CELL 'sum', in the pinned program and in every row, IS THE sha256 OF THE DUMP (.gsa) THAT YtkilnknndglmnaaProg.lean LOADS. Nothing in Lean hashes anything: it is a label: what it is worth is what the hold of that sum in a sandbox is worth. -/
noncomputable def Try.pinned : Pinned := { name := "ytkilnknndglmnaa", sum := "cfd6e29b0528936b0fc95c4c4ff5bff3ee24b98ab36f4a20af20e56233a544b0", checked := Try.checked }
namespace Rows
def none {H : Type} : Left H := { results := [], args := [] }

/-- 'reevelaw21.BeatMoved': WHATEVER THE INPUT: true; the input reads as it did. -/
def beatMovedSpec : ChangeSpec := { name := "beatMoved", fn := fun _ => fun
  | [d1, d2] => { results := [.lit (.bool true)], args := [d1, d2] }
  | _ => none }
def beatMovedRow : OpenClaim := { program := "ytkilnknndglmnaa", sum := "cfd6e29b0528936b0fc95c4c4ff5bff3ee24b98ab36f4a20af20e56233a544b0", func := "reeve/reevelaw21.BeatMoved", spec := "beatMoved", unfollowed := true, recurses := true, apart := false }
def BeatMovedSaid : Prop := beatMovedRow.holds Try.pinned (OpenSpec.ofChange beatMovedSpec)

/-- ITS FALSE NEIGHBOUR: 'it returns false'. Refute it at one input. -/
def beatMovedWrong : ChangeSpec := { name := "beatMoved", fn := fun _ => fun
  | [d1, d2] => { results := [.lit (.bool false)], args := [d1, d2] }
  | _ => none }
def BeatMovedWrongFalsely : Prop := beatMovedRow.holds Try.pinned (OpenSpec.ofChange beatMovedWrong)

/-- 'reevelaw21.BeatRounds': WHATEVER THE INPUT: true; the input reads as it did. -/
def beatRoundsSpec : ChangeSpec := { name := "beatRounds", fn := fun _ => fun
  | [d1, d2, d3] => { results := [.lit (.bool true)], args := [d1, d2, d3] }
  | _ => none }
def beatRoundsRow : OpenClaim := { program := "ytkilnknndglmnaa", sum := "cfd6e29b0528936b0fc95c4c4ff5bff3ee24b98ab36f4a20af20e56233a544b0", func := "reeve/reevelaw21.BeatRounds", spec := "beatRounds", unfollowed := true, recurses := true, apart := false }
def BeatRoundsSaid : Prop := beatRoundsRow.holds Try.pinned (OpenSpec.ofChange beatRoundsSpec)

/-- ITS FALSE NEIGHBOUR: 'it returns false'. Refute it at one input. -/
def beatRoundsWrong : ChangeSpec := { name := "beatRounds", fn := fun _ => fun
  | [d1, d2, d3] => { results := [.lit (.bool false)], args := [d1, d2, d3] }
  | _ => none }
def BeatRoundsWrongFalsely : Prop := beatRoundsRow.holds Try.pinned (OpenSpec.ofChange beatRoundsWrong)

/-- 'reevelaw21.BeatTurns': WHATEVER THE INPUT: true; the input reads as it did. -/
def beatTurnsSpec : ChangeSpec := { name := "beatTurns", fn := fun _ => fun
  | [d1, d2, d3] => { results := [.lit (.bool true)], args := [d1, d2, d3] }
  | _ => none }
def beatTurnsRow : OpenClaim := { program := "ytkilnknndglmnaa", sum := "cfd6e29b0528936b0fc95c4c4ff5bff3ee24b98ab36f4a20af20e56233a544b0", func := "reeve/reevelaw21.BeatTurns", spec := "beatTurns", unfollowed := true, recurses := true, apart := false }
def BeatTurnsSaid : Prop := beatTurnsRow.holds Try.pinned (OpenSpec.ofChange beatTurnsSpec)

/-- ITS FALSE NEIGHBOUR: 'it returns false'. Refute it at one input. -/
def beatTurnsWrong : ChangeSpec := { name := "beatTurns", fn := fun _ => fun
  | [d1, d2, d3] => { results := [.lit (.bool false)], args := [d1, d2, d3] }
  | _ => none }
def BeatTurnsWrongFalsely : Prop := beatTurnsRow.holds Try.pinned (OpenSpec.ofChange beatTurnsWrong)

/-- 'reevelaw21.BeatCounts': WHATEVER THE INPUT: true; the input reads as it did. -/
def beatCountsSpec : ChangeSpec := { name := "beatCounts", fn := fun _ => fun
  | [d1, d2, d3, d4] => { results := [.lit (.bool true)], args := [d1, d2, d3, d4] }
  | _ => none }
def beatCountsRow : OpenClaim := { program := "ytkilnknndglmnaa", sum := "cfd6e29b0528936b0fc95c4c4ff5bff3ee24b98ab36f4a20af20e56233a544b0", func := "reeve/reevelaw21.BeatCounts", spec := "beatCounts", unfollowed := true, recurses := true, apart := false }
def BeatCountsSaid : Prop := beatCountsRow.holds Try.pinned (OpenSpec.ofChange beatCountsSpec)

/-- ITS FALSE NEIGHBOUR: 'it returns false'. Refute it at one input. -/
def beatCountsWrong : ChangeSpec := { name := "beatCounts", fn := fun _ => fun
  | [d1, d2, d3, d4] => { results := [.lit (.bool false)], args := [d1, d2, d3, d4] }
  | _ => none }
def BeatCountsWrongFalsely : Prop := beatCountsRow.holds Try.pinned (OpenSpec.ofChange beatCountsWrong)

/-- 'reevelaw21.BeatBack': WHATEVER THE INPUT: true; the input reads as it did. -/
def beatBackSpec : ChangeSpec := { name := "beatBack", fn := fun _ => fun
  | [d1, d2, d3] => { results := [.lit (.bool true)], args := [d1, d2, d3] }
  | _ => none }
def beatBackRow : OpenClaim := { program := "ytkilnknndglmnaa", sum := "cfd6e29b0528936b0fc95c4c4ff5bff3ee24b98ab36f4a20af20e56233a544b0", func := "reeve/reevelaw21.BeatBack", spec := "beatBack", unfollowed := true, recurses := true, apart := false }
def BeatBackSaid : Prop := beatBackRow.holds Try.pinned (OpenSpec.ofChange beatBackSpec)

/-- ITS FALSE NEIGHBOUR: 'it returns false'. Refute it at one input. -/
def beatBackWrong : ChangeSpec := { name := "beatBack", fn := fun _ => fun
  | [d1, d2, d3] => { results := [.lit (.bool false)], args := [d1, d2, d3] }
  | _ => none }
def BeatBackWrongFalsely : Prop := beatBackRow.holds Try.pinned (OpenSpec.ofChange beatBackWrong)

/-- 'reevelaw21.BeatMeets': WHATEVER THE INPUT: true; the input reads as it did. -/
def beatMeetsSpec : ChangeSpec := { name := "beatMeets", fn := fun _ => fun
  | [d1, d2, d3, d4] => { results := [.lit (.bool true)], args := [d1, d2, d3, d4] }
  | _ => none }
def beatMeetsRow : OpenClaim := { program := "ytkilnknndglmnaa", sum := "cfd6e29b0528936b0fc95c4c4ff5bff3ee24b98ab36f4a20af20e56233a544b0", func := "reeve/reevelaw21.BeatMeets", spec := "beatMeets", unfollowed := true, recurses := true, apart := false }
def BeatMeetsSaid : Prop := beatMeetsRow.holds Try.pinned (OpenSpec.ofChange beatMeetsSpec)

/-- ITS FALSE NEIGHBOUR: 'it returns false'. Refute it at one input. -/
def beatMeetsWrong : ChangeSpec := { name := "beatMeets", fn := fun _ => fun
  | [d1, d2, d3, d4] => { results := [.lit (.bool false)], args := [d1, d2, d3, d4] }
  | _ => none }
def BeatMeetsWrongFalsely : Prop := beatMeetsRow.holds Try.pinned (OpenSpec.ofChange beatMeetsWrong)

/-- 'reevelaw21.BeatRoots': WHATEVER THE INPUT: true; the input reads as it did. -/
def beatRootsSpec : ChangeSpec := { name := "beatRoots", fn := fun _ => fun
  | [d1, d2] => { results := [.lit (.bool true)], args := [d1, d2] }
  | _ => none }
def beatRootsRow : OpenClaim := { program := "ytkilnknndglmnaa", sum := "cfd6e29b0528936b0fc95c4c4ff5bff3ee24b98ab36f4a20af20e56233a544b0", func := "reeve/reevelaw21.BeatRoots", spec := "beatRoots", unfollowed := true, recurses := true, apart := false }
def BeatRootsSaid : Prop := beatRootsRow.holds Try.pinned (OpenSpec.ofChange beatRootsSpec)

/-- ITS FALSE NEIGHBOUR: 'it returns false'. Refute it at one input. -/
def beatRootsWrong : ChangeSpec := { name := "beatRoots", fn := fun _ => fun
  | [d1, d2] => { results := [.lit (.bool false)], args := [d1, d2] }
  | _ => none }
def BeatRootsWrongFalsely : Prop := beatRootsRow.holds Try.pinned (OpenSpec.ofChange beatRootsWrong)

/- THE SECOND FORM. 'bulk': how many values and letters a reading holds, each counted each time it is reached (what is shared counts as often as it is met; a slice's spare places count too). A statement '..UptoSaid' is the law's where the arguments, and the package variables that the reading takes, are together of bulk at most 1048576: NARROWER than '..Said'. Prove '..Said' where nothing that the law and all that it calls make is longer than what came in: it says more and counts as full. Else prove '..UptoSaid'. A law counts once. -/
mutual
def uptoBulk {H : Type} : DataW H → Nat
  | .lit (.string bytes) => bytes.length + 1
  | .lit _ => 1
  | .nil => 1
  | .ptr d => uptoBulk d + 1
  | .slice elems spare => uptoBulkAll elems + uptoBulkAll spare + 1
  | .agg parts => uptoBulkAll parts + 1
  | .iface _ d => uptoBulk d + 1
  | .map entries => uptoBulkEntries entries + 1
  | .held _ => 1
def uptoBulkAll {H : Type} : List (DataW H) → Nat
  | [] => 0
  | d :: r => uptoBulk d + uptoBulkAll r
def uptoBulkEntries {H : Type} : List (Lit × DataW H) → Nat
  | [] => 0
  | x :: r => uptoBulkEntry x + uptoBulkEntries r
def uptoBulkEntry {H : Type} : Lit × DataW H → Nat
  | (.string bytes, d) => bytes.length + uptoBulk d + 1
  | (_, d) => uptoBulk d + 1
 end
def uptoSmall : (H : Type) → List (DataW H) → Bool := fun _ ds => decide (uptoBulkAll ds ≤ 1048576)
def OpenSpec.upto (s : _root_.Go.ChangeSpec) : _root_.Go.OpenSpec := { _root_.Go.OpenSpec.ofChange s with cond := some uptoSmall }

/-- 'reevelaw21.BeatMoved', WHERE WHAT IT READS IS OF BULK AT MOST 1048576: true; the input reads as it did. -/
def beatMovedUptoRow : OpenClaim := { program := "ytkilnknndglmnaa", sum := "cfd6e29b0528936b0fc95c4c4ff5bff3ee24b98ab36f4a20af20e56233a544b0", func := "reeve/reevelaw21.BeatMoved", spec := "beatMoved", unfollowed := true, recurses := true, apart := false, narrowed := true }
def BeatMovedUptoSaid : Prop := beatMovedUptoRow.holds Try.pinned (OpenSpec.upto beatMovedSpec)

/-- 'reevelaw21.BeatRounds', WHERE WHAT IT READS IS OF BULK AT MOST 1048576: true; the input reads as it did. -/
def beatRoundsUptoRow : OpenClaim := { program := "ytkilnknndglmnaa", sum := "cfd6e29b0528936b0fc95c4c4ff5bff3ee24b98ab36f4a20af20e56233a544b0", func := "reeve/reevelaw21.BeatRounds", spec := "beatRounds", unfollowed := true, recurses := true, apart := false, narrowed := true }
def BeatRoundsUptoSaid : Prop := beatRoundsUptoRow.holds Try.pinned (OpenSpec.upto beatRoundsSpec)

/-- 'reevelaw21.BeatTurns', WHERE WHAT IT READS IS OF BULK AT MOST 1048576: true; the input reads as it did. -/
def beatTurnsUptoRow : OpenClaim := { program := "ytkilnknndglmnaa", sum := "cfd6e29b0528936b0fc95c4c4ff5bff3ee24b98ab36f4a20af20e56233a544b0", func := "reeve/reevelaw21.BeatTurns", spec := "beatTurns", unfollowed := true, recurses := true, apart := false, narrowed := true }
def BeatTurnsUptoSaid : Prop := beatTurnsUptoRow.holds Try.pinned (OpenSpec.upto beatTurnsSpec)

/-- 'reevelaw21.BeatCounts', WHERE WHAT IT READS IS OF BULK AT MOST 1048576: true; the input reads as it did. -/
def beatCountsUptoRow : OpenClaim := { program := "ytkilnknndglmnaa", sum := "cfd6e29b0528936b0fc95c4c4ff5bff3ee24b98ab36f4a20af20e56233a544b0", func := "reeve/reevelaw21.BeatCounts", spec := "beatCounts", unfollowed := true, recurses := true, apart := false, narrowed := true }
def BeatCountsUptoSaid : Prop := beatCountsUptoRow.holds Try.pinned (OpenSpec.upto beatCountsSpec)

/-- 'reevelaw21.BeatBack', WHERE WHAT IT READS IS OF BULK AT MOST 1048576: true; the input reads as it did. -/
def beatBackUptoRow : OpenClaim := { program := "ytkilnknndglmnaa", sum := "cfd6e29b0528936b0fc95c4c4ff5bff3ee24b98ab36f4a20af20e56233a544b0", func := "reeve/reevelaw21.BeatBack", spec := "beatBack", unfollowed := true, recurses := true, apart := false, narrowed := true }
def BeatBackUptoSaid : Prop := beatBackUptoRow.holds Try.pinned (OpenSpec.upto beatBackSpec)

/-- 'reevelaw21.BeatMeets', WHERE WHAT IT READS IS OF BULK AT MOST 1048576: true; the input reads as it did. -/
def beatMeetsUptoRow : OpenClaim := { program := "ytkilnknndglmnaa", sum := "cfd6e29b0528936b0fc95c4c4ff5bff3ee24b98ab36f4a20af20e56233a544b0", func := "reeve/reevelaw21.BeatMeets", spec := "beatMeets", unfollowed := true, recurses := true, apart := false, narrowed := true }
def BeatMeetsUptoSaid : Prop := beatMeetsUptoRow.holds Try.pinned (OpenSpec.upto beatMeetsSpec)

/-- 'reevelaw21.BeatRoots', WHERE WHAT IT READS IS OF BULK AT MOST 1048576: true; the input reads as it did. -/
def beatRootsUptoRow : OpenClaim := { program := "ytkilnknndglmnaa", sum := "cfd6e29b0528936b0fc95c4c4ff5bff3ee24b98ab36f4a20af20e56233a544b0", func := "reeve/reevelaw21.BeatRoots", spec := "beatRoots", unfollowed := true, recurses := true, apart := false, narrowed := true }
def BeatRootsUptoSaid : Prop := beatRootsUptoRow.holds Try.pinned (OpenSpec.upto beatRootsSpec)

end Rows
end Go.Proofs.Ytkilnknndglmnaa
