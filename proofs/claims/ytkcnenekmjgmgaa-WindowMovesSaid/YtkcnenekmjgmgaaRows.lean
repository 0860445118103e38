/-
  No cell of these rows narrows 'for every input' (looked for: loops, veiled, ifaces, maps, wideKeys, modest, calm, conditions, laid).
  DERIVED. THE GIVEN ROWS OF THIS SEAT. 6 by the template 'for every input the law returns true; each argument reads behind the call as it read before'; 0 by the template 'total and deterministic' (their statements: YtkcnenekmjgmgaaTotals.lean).
  GIVEN WITH THE SEED: the statements are not yours to turn. If you find one false, say at which input.
  Laid BY PROGRAM, IN A SANDBOX (cutbox-rows.mjs): the forced cells as the released guide's own fill.sh prints them over the translation 6cf0d8dd22d0edaa… (all of the seat's roots in one cut). By AI agents, Wed Nov 11 2026. No macro, syntax, notation, axiom, sorry.
-/
import Derived.Test.YtkcnenekmjgmgaaChecked
import GoSem.Claim
import GoSem.ClaimJoined
import GoSem.ClaimMapViews
import Derived.JoinedTies
import Derived.KernelRfl
namespace Go.Proofs.Ytkcnenekmjgmgaa
/- THE CELL 'sum', in the pinned program and in every row, IS THE sha256 OF THE DUMP (.gsa) THAT YtkcnenekmjgmgaaProg.lean LOADS. Nothing in Lean hashes anything: it is a label: what it is worth is what the hold of that sum in a sandbox is worth. -/
noncomputable def Try.pinned : Pinned := { name := "ytkcnenekmjgmgaa", sum := "6cf0d8dd22d0edaa7cd5de0651d682b54dd09616eac1108b590ce21a9ff5b6c9", checked := Try.checked }
namespace Rows
def none {H : Type} : Left H := { results := [], args := [] }

/-- 'reevelaw08.WindowMore': WHATEVER THE INPUT: true; the input reads as it did. -/
def windowMoreSpec : ChangeSpec := { name := "windowMore", fn := fun _ => fun
  | [d1, d2, d3, d4, d5] => { results := [.lit (.bool true)], args := [d1, d2, d3, d4, d5] }
  | _ => none }
def windowMoreRow : OpenClaim := { program := "ytkcnenekmjgmgaa", sum := "6cf0d8dd22d0edaa7cd5de0651d682b54dd09616eac1108b590ce21a9ff5b6c9", func := "reeve/reevelaw08.WindowMore", spec := "windowMore", unfollowed := true, recurses := true, apart := false }
def WindowMoreSaid : Prop := windowMoreRow.holds Try.pinned (OpenSpec.ofChange windowMoreSpec)

/-- ITS FALSE NEIGHBOUR: 'it returns false'. Refute it at one input. -/
def windowMoreWrong : ChangeSpec := { name := "windowMore", fn := fun _ => fun
  | [d1, d2, d3, d4, d5] => { results := [.lit (.bool false)], args := [d1, d2, d3, d4, d5] }
  | _ => none }
def WindowMoreWrongFalsely : Prop := windowMoreRow.holds Try.pinned (OpenSpec.ofChange windowMoreWrong)

/-- 'reevelaw08.WindowMoves': WHATEVER THE INPUT: true; the input reads as it did. -/
def windowMovesSpec : ChangeSpec := { name := "windowMoves", fn := fun _ => fun
  | [d1, d2, d3, d4] => { results := [.lit (.bool true)], args := [d1, d2, d3, d4] }
  | _ => none }
def windowMovesRow : OpenClaim := { program := "ytkcnenekmjgmgaa", sum := "6cf0d8dd22d0edaa7cd5de0651d682b54dd09616eac1108b590ce21a9ff5b6c9", func := "reeve/reevelaw08.WindowMoves", spec := "windowMoves", unfollowed := true, recurses := true, apart := false }
def WindowMovesSaid : Prop := windowMovesRow.holds Try.pinned (OpenSpec.ofChange windowMovesSpec)

/-- ITS FALSE NEIGHBOUR: 'it returns false'. Refute it at one input. -/
def windowMovesWrong : ChangeSpec := { name := "windowMoves", fn := fun _ => fun
  | [d1, d2, d3, d4] => { results := [.lit (.bool false)], args := [d1, d2, d3, d4] }
  | _ => none }
def WindowMovesWrongFalsely : Prop := windowMovesRow.holds Try.pinned (OpenSpec.ofChange windowMovesWrong)

/-- 'reevelaw08.WindowGoes': WHATEVER THE INPUT: true; the input reads as it did. -/
def windowGoesSpec : ChangeSpec := { name := "windowGoes", fn := fun _ => fun
  | [d1, d2, d3, d4, d5] => { results := [.lit (.bool true)], args := [d1, d2, d3, d4, d5] }
  | _ => none }
def windowGoesRow : OpenClaim := { program := "ytkcnenekmjgmgaa", sum := "6cf0d8dd22d0edaa7cd5de0651d682b54dd09616eac1108b590ce21a9ff5b6c9", func := "reeve/reevelaw08.WindowGoes", spec := "windowGoes", unfollowed := true, recurses := true, apart := false }
def WindowGoesSaid : Prop := windowGoesRow.holds Try.pinned (OpenSpec.ofChange windowGoesSpec)

/-- ITS FALSE NEIGHBOUR: 'it returns false'. Refute it at one input. -/
def windowGoesWrong : ChangeSpec := { name := "windowGoes", fn := fun _ => fun
  | [d1, d2, d3, d4, d5] => { results := [.lit (.bool false)], args := [d1, d2, d3, d4, d5] }
  | _ => none }
def WindowGoesWrongFalsely : Prop := windowGoesRow.holds Try.pinned (OpenSpec.ofChange windowGoesWrong)

/-- 'reevelaw08.WindowHolds': WHATEVER THE INPUT: true; the input reads as it did. -/
def windowHoldsSpec : ChangeSpec := { name := "windowHolds", fn := fun _ => fun
  | [d1, d2, d3] => { results := [.lit (.bool true)], args := [d1, d2, d3] }
  | _ => none }
def windowHoldsRow : OpenClaim := { program := "ytkcnenekmjgmgaa", sum := "6cf0d8dd22d0edaa7cd5de0651d682b54dd09616eac1108b590ce21a9ff5b6c9", func := "reeve/reevelaw08.WindowHolds", spec := "windowHolds", unfollowed := true, recurses := true, apart := false }
def WindowHoldsSaid : Prop := windowHoldsRow.holds Try.pinned (OpenSpec.ofChange windowHoldsSpec)

/-- ITS FALSE NEIGHBOUR: 'it returns false'. Refute it at one input. -/
def windowHoldsWrong : ChangeSpec := { name := "windowHolds", fn := fun _ => fun
  | [d1, d2, d3] => { results := [.lit (.bool false)], args := [d1, d2, d3] }
  | _ => none }
def WindowHoldsWrongFalsely : Prop := windowHoldsRow.holds Try.pinned (OpenSpec.ofChange windowHoldsWrong)

/-- 'reevelaw08.WindowEmpties': WHATEVER THE INPUT: true; the input reads as it did. -/
def windowEmptiesSpec : ChangeSpec := { name := "windowEmpties", fn := fun _ => fun
  | [d1, d2, d3] => { results := [.lit (.bool true)], args := [d1, d2, d3] }
  | _ => none }
def windowEmptiesRow : OpenClaim := { program := "ytkcnenekmjgmgaa", sum := "6cf0d8dd22d0edaa7cd5de0651d682b54dd09616eac1108b590ce21a9ff5b6c9", func := "reeve/reevelaw08.WindowEmpties", spec := "windowEmpties", unfollowed := true, recurses := true, apart := false }
def WindowEmptiesSaid : Prop := windowEmptiesRow.holds Try.pinned (OpenSpec.ofChange windowEmptiesSpec)

/-- ITS FALSE NEIGHBOUR: 'it returns false'. Refute it at one input. -/
def windowEmptiesWrong : ChangeSpec := { name := "windowEmpties", fn := fun _ => fun
  | [d1, d2, d3] => { results := [.lit (.bool false)], args := [d1, d2, d3] }
  | _ => none }
def WindowEmptiesWrongFalsely : Prop := windowEmptiesRow.holds Try.pinned (OpenSpec.ofChange windowEmptiesWrong)

/-- 'reevelaw08.WindowWhen': WHATEVER THE INPUT: true; the input reads as it did. -/
def windowWhenSpec : ChangeSpec := { name := "windowWhen", fn := fun _ => fun
  | [d1, d2, d3, d4, d5] => { results := [.lit (.bool true)], args := [d1, d2, d3, d4, d5] }
  | _ => none }
def windowWhenRow : OpenClaim := { program := "ytkcnenekmjgmgaa", sum := "6cf0d8dd22d0edaa7cd5de0651d682b54dd09616eac1108b590ce21a9ff5b6c9", func := "reeve/reevelaw08.WindowWhen", spec := "windowWhen", unfollowed := true, recurses := true, apart := false }
def WindowWhenSaid : Prop := windowWhenRow.holds Try.pinned (OpenSpec.ofChange windowWhenSpec)

/-- ITS FALSE NEIGHBOUR: 'it returns false'. Refute it at one input. -/
def windowWhenWrong : ChangeSpec := { name := "windowWhen", fn := fun _ => fun
  | [d1, d2, d3, d4, d5] => { results := [.lit (.bool false)], args := [d1, d2, d3, d4, d5] }
  | _ => none }
def WindowWhenWrongFalsely : Prop := windowWhenRow.holds Try.pinned (OpenSpec.ofChange windowWhenWrong)

/- THE SECOND FORM. 'bulk': how many values and letters a reading holds, each counted each time it is reached (what is shared counts as often as it is met; a slice's spare places count too). A statement '..UptoSaid' is the law's where the arguments, and the package variables that the reading takes, are together of bulk at most 1048576: NARROWER than '..Said'. Prove '..Said' where nothing that the law and all that it calls make is longer than what came in: it says more and counts as full. Else prove '..UptoSaid'. A law counts once. -/
mutual
def uptoBulk {H : Type} : DataW H → Nat
  | .lit (.string bytes) => bytes.length + 1
  | .lit _ => 1
  | .nil => 1
  | .ptr d => uptoBulk d + 1
  | .slice elems spare => uptoBulkAll elems + uptoBulkAll spare + 1
  | .agg parts => uptoBulkAll parts + 1
  | .iface _ d => uptoBulk d + 1
  | .map entries => uptoBulkEntries entries + 1
  | .held _ => 1
def uptoBulkAll {H : Type} : List (DataW H) → Nat
  | [] => 0
  | d :: r => uptoBulk d + uptoBulkAll r
def uptoBulkEntries {H : Type} : List (Lit × DataW H) → Nat
  | [] => 0
  | x :: r => uptoBulkEntry x + uptoBulkEntries r
def uptoBulkEntry {H : Type} : Lit × DataW H → Nat
  | (.string bytes, d) => bytes.length + uptoBulk d + 1
  | (_, d) => uptoBulk d + 1
 end
def uptoSmall : (H : Type) → List (DataW H) → Bool := fun _ ds => decide (uptoBulkAll ds ≤ 1048576)
def OpenSpec.upto (s : _root_.Go.ChangeSpec) : _root_.Go.OpenSpec := { _root_.Go.OpenSpec.ofChange s with cond := some uptoSmall }

/-- 'reevelaw08.WindowMore', WHERE WHAT IT READS IS OF BULK AT MOST 1048576: true; the input reads as it did. -/
def windowMoreUptoRow : OpenClaim := { program := "ytkcnenekmjgmgaa", sum := "6cf0d8dd22d0edaa7cd5de0651d682b54dd09616eac1108b590ce21a9ff5b6c9", func := "reeve/reevelaw08.WindowMore", spec := "windowMore", unfollowed := true, recurses := true, apart := false, narrowed := true }
def WindowMoreUptoSaid : Prop := windowMoreUptoRow.holds Try.pinned (OpenSpec.upto windowMoreSpec)

/-- 'reevelaw08.WindowMoves', WHERE WHAT IT READS IS OF BULK AT MOST 1048576: true; the input reads as it did. -/
def windowMovesUptoRow : OpenClaim := { program := "ytkcnenekmjgmgaa", sum := "6cf0d8dd22d0edaa7cd5de0651d682b54dd09616eac1108b590ce21a9ff5b6c9", func := "reeve/reevelaw08.WindowMoves", spec := "windowMoves", unfollowed := true, recurses := true, apart := false, narrowed := true }
def WindowMovesUptoSaid : Prop := windowMovesUptoRow.holds Try.pinned (OpenSpec.upto windowMovesSpec)

/-- 'reevelaw08.WindowGoes', WHERE WHAT IT READS IS OF BULK AT MOST 1048576: true; the input reads as it did. -/
def windowGoesUptoRow : OpenClaim := { program := "ytkcnenekmjgmgaa", sum := "6cf0d8dd22d0edaa7cd5de0651d682b54dd09616eac1108b590ce21a9ff5b6c9", func := "reeve/reevelaw08.WindowGoes", spec := "windowGoes", unfollowed := true, recurses := true, apart := false, narrowed := true }
def WindowGoesUptoSaid : Prop := windowGoesUptoRow.holds Try.pinned (OpenSpec.upto windowGoesSpec)

/-- 'reevelaw08.WindowHolds', WHERE WHAT IT READS IS OF BULK AT MOST 1048576: true; the input reads as it did. -/
def windowHoldsUptoRow : OpenClaim := { program := "ytkcnenekmjgmgaa", sum := "6cf0d8dd22d0edaa7cd5de0651d682b54dd09616eac1108b590ce21a9ff5b6c9", func := "reeve/reevelaw08.WindowHolds", spec := "windowHolds", unfollowed := true, recurses := true, apart := false, narrowed := true }
def WindowHoldsUptoSaid : Prop := windowHoldsUptoRow.holds Try.pinned (OpenSpec.upto windowHoldsSpec)

/-- 'reevelaw08.WindowEmpties', WHERE WHAT IT READS IS OF BULK AT MOST 1048576: true; the input reads as it did. -/
def windowEmptiesUptoRow : OpenClaim := { program := "ytkcnenekmjgmgaa", sum := "6cf0d8dd22d0edaa7cd5de0651d682b54dd09616eac1108b590ce21a9ff5b6c9", func := "reeve/reevelaw08.WindowEmpties", spec := "windowEmpties", unfollowed := true, recurses := true, apart := false, narrowed := true }
def WindowEmptiesUptoSaid : Prop := windowEmptiesUptoRow.holds Try.pinned (OpenSpec.upto windowEmptiesSpec)

/-- 'reevelaw08.WindowWhen', WHERE WHAT IT READS IS OF BULK AT MOST 1048576: true; the input reads as it did. -/
def windowWhenUptoRow : OpenClaim := { program := "ytkcnenekmjgmgaa", sum := "6cf0d8dd22d0edaa7cd5de0651d682b54dd09616eac1108b590ce21a9ff5b6c9", func := "reeve/reevelaw08.WindowWhen", spec := "windowWhen", unfollowed := true, recurses := true, apart := false, narrowed := true }
def WindowWhenUptoSaid : Prop := windowWhenUptoRow.holds Try.pinned (OpenSpec.upto windowWhenSpec)

end Rows
end Go.Proofs.Ytkcnenekmjgmgaa
