/-
  No cell of these rows narrows 'for every input' (looked for: loops, veiled, ifaces, maps, wideKeys, modest, calm, conditions, laid).
  DERIVED. THE GIVEN ROWS OF THIS SEAT. 6 by the template 'for every input the law returns true; each argument reads behind the call as it read before'; 0 by the template 'total and deterministic' (their statements: YtlhnlickmjdjfaaTotals.lean).
  GIVEN WITH THE SEED: the statements are not yours to turn. If you find one false, say at which input.
  Laid BY PROGRAM, IN A SANDBOX (cutbox-rows.mjs): the forced cells as the released guide's own fill.sh prints them over the translation d4877e1270b36add… (all of the seat's roots in one cut). By AI agents, Wed Nov 11 2026. No macro, syntax, notation, axiom, sorry.
-/
import Derived.Test.YtlhnlickmjdjfaaChecked
import GoSem.Claim
import GoSem.ClaimJoined
import GoSem.ClaimMapViews
import Derived.JoinedTies
import Derived.KernelRfl
namespace Go.Proofs.Ytlhnlickmjdjfaa
/- THE CELL 'sum', in the pinned program and in every row, IS THE sha256 OF THE DUMP (.gsa) THAT YtlhnlickmjdjfaaProg.lean LOADS. Nothing in Lean hashes anything: it is a label: what it is worth is what the hold of that sum in a sandbox is worth. -/
noncomputable def Try.pinned : Pinned := { name := "ytlhnlickmjdjfaa", sum := "d4877e1270b36add3f07fb0f9b2dccfdc1f8d1ae5a808f84a2a747899c6c936e", checked := Try.checked }
namespace Rows
def none {H : Type} : Left H := { results := [], args := [] }

/-- 'reevelaw07.BucketOwes': WHATEVER THE INPUT: true; the input reads as it did. -/
def bucketOwesSpec : ChangeSpec := { name := "bucketOwes", fn := fun _ => fun
  | [d1, d2, d3, d4] => { results := [.lit (.bool true)], args := [d1, d2, d3, d4] }
  | _ => none }
def bucketOwesRow : OpenClaim := { program := "ytlhnlickmjdjfaa", sum := "d4877e1270b36add3f07fb0f9b2dccfdc1f8d1ae5a808f84a2a747899c6c936e", func := "reeve/reevelaw07.BucketOwes", spec := "bucketOwes", unfollowed := true, recurses := true, apart := false }
def BucketOwesSaid : Prop := bucketOwesRow.holds Try.pinned (OpenSpec.ofChange bucketOwesSpec)

/-- ITS FALSE NEIGHBOUR: 'it returns false'. Refute it at one input. -/
def bucketOwesWrong : ChangeSpec := { name := "bucketOwes", fn := fun _ => fun
  | [d1, d2, d3, d4] => { results := [.lit (.bool false)], args := [d1, d2, d3, d4] }
  | _ => none }
def BucketOwesWrongFalsely : Prop := bucketOwesRow.holds Try.pinned (OpenSpec.ofChange bucketOwesWrong)

/-- 'reevelaw07.BucketWhen': WHATEVER THE INPUT: true; the input reads as it did. -/
def bucketWhenSpec : ChangeSpec := { name := "bucketWhen", fn := fun _ => fun
  | [d1, d2, d3] => { results := [.lit (.bool true)], args := [d1, d2, d3] }
  | _ => none }
def bucketWhenRow : OpenClaim := { program := "ytlhnlickmjdjfaa", sum := "d4877e1270b36add3f07fb0f9b2dccfdc1f8d1ae5a808f84a2a747899c6c936e", func := "reeve/reevelaw07.BucketWhen", spec := "bucketWhen", unfollowed := true, recurses := true, apart := false }
def BucketWhenSaid : Prop := bucketWhenRow.holds Try.pinned (OpenSpec.ofChange bucketWhenSpec)

/-- ITS FALSE NEIGHBOUR: 'it returns false'. Refute it at one input. -/
def bucketWhenWrong : ChangeSpec := { name := "bucketWhen", fn := fun _ => fun
  | [d1, d2, d3] => { results := [.lit (.bool false)], args := [d1, d2, d3] }
  | _ => none }
def BucketWhenWrongFalsely : Prop := bucketWhenRow.holds Try.pinned (OpenSpec.ofChange bucketWhenWrong)

/-- 'reevelaw07.BucketGoes': WHATEVER THE INPUT: true; the input reads as it did. -/
def bucketGoesSpec : ChangeSpec := { name := "bucketGoes", fn := fun _ => fun
  | [d1, d2, d3, d4, d5] => { results := [.lit (.bool true)], args := [d1, d2, d3, d4, d5] }
  | _ => none }
def bucketGoesRow : OpenClaim := { program := "ytlhnlickmjdjfaa", sum := "d4877e1270b36add3f07fb0f9b2dccfdc1f8d1ae5a808f84a2a747899c6c936e", func := "reeve/reevelaw07.BucketGoes", spec := "bucketGoes", unfollowed := true, recurses := true, apart := false }
def BucketGoesSaid : Prop := bucketGoesRow.holds Try.pinned (OpenSpec.ofChange bucketGoesSpec)

/-- ITS FALSE NEIGHBOUR: 'it returns false'. Refute it at one input. -/
def bucketGoesWrong : ChangeSpec := { name := "bucketGoes", fn := fun _ => fun
  | [d1, d2, d3, d4, d5] => { results := [.lit (.bool false)], args := [d1, d2, d3, d4, d5] }
  | _ => none }
def BucketGoesWrongFalsely : Prop := bucketGoesRow.holds Try.pinned (OpenSpec.ofChange bucketGoesWrong)

/-- 'reevelaw07.BucketBursts': WHATEVER THE INPUT: true; the input reads as it did. -/
def bucketBurstsSpec : ChangeSpec := { name := "bucketBursts", fn := fun _ => fun
  | [d1, d2, d3] => { results := [.lit (.bool true)], args := [d1, d2, d3] }
  | _ => none }
def bucketBurstsRow : OpenClaim := { program := "ytlhnlickmjdjfaa", sum := "d4877e1270b36add3f07fb0f9b2dccfdc1f8d1ae5a808f84a2a747899c6c936e", func := "reeve/reevelaw07.BucketBursts", spec := "bucketBursts", unfollowed := true, recurses := true, apart := false }
def BucketBurstsSaid : Prop := bucketBurstsRow.holds Try.pinned (OpenSpec.ofChange bucketBurstsSpec)

/-- ITS FALSE NEIGHBOUR: 'it returns false'. Refute it at one input. -/
def bucketBurstsWrong : ChangeSpec := { name := "bucketBursts", fn := fun _ => fun
  | [d1, d2, d3] => { results := [.lit (.bool false)], args := [d1, d2, d3] }
  | _ => none }
def BucketBurstsWrongFalsely : Prop := bucketBurstsRow.holds Try.pinned (OpenSpec.ofChange bucketBurstsWrong)

/-- 'reevelaw07.BucketMore': WHATEVER THE INPUT: true; the input reads as it did. -/
def bucketMoreSpec : ChangeSpec := { name := "bucketMore", fn := fun _ => fun
  | [d1, d2, d3, d4, d5, d6] => { results := [.lit (.bool true)], args := [d1, d2, d3, d4, d5, d6] }
  | _ => none }
def bucketMoreRow : OpenClaim := { program := "ytlhnlickmjdjfaa", sum := "d4877e1270b36add3f07fb0f9b2dccfdc1f8d1ae5a808f84a2a747899c6c936e", func := "reeve/reevelaw07.BucketMore", spec := "bucketMore", unfollowed := true, recurses := true, apart := false }
def BucketMoreSaid : Prop := bucketMoreRow.holds Try.pinned (OpenSpec.ofChange bucketMoreSpec)

/-- ITS FALSE NEIGHBOUR: 'it returns false'. Refute it at one input. -/
def bucketMoreWrong : ChangeSpec := { name := "bucketMore", fn := fun _ => fun
  | [d1, d2, d3, d4, d5, d6] => { results := [.lit (.bool false)], args := [d1, d2, d3, d4, d5, d6] }
  | _ => none }
def BucketMoreWrongFalsely : Prop := bucketMoreRow.holds Try.pinned (OpenSpec.ofChange bucketMoreWrong)

/-- 'reevelaw07.BucketLater': WHATEVER THE INPUT: true; the input reads as it did. -/
def bucketLaterSpec : ChangeSpec := { name := "bucketLater", fn := fun _ => fun
  | [d1, d2, d3, d4] => { results := [.lit (.bool true)], args := [d1, d2, d3, d4] }
  | _ => none }
def bucketLaterRow : OpenClaim := { program := "ytlhnlickmjdjfaa", sum := "d4877e1270b36add3f07fb0f9b2dccfdc1f8d1ae5a808f84a2a747899c6c936e", func := "reeve/reevelaw07.BucketLater", spec := "bucketLater", unfollowed := true, recurses := true, apart := false }
def BucketLaterSaid : Prop := bucketLaterRow.holds Try.pinned (OpenSpec.ofChange bucketLaterSpec)

/-- ITS FALSE NEIGHBOUR: 'it returns false'. Refute it at one input. -/
def bucketLaterWrong : ChangeSpec := { name := "bucketLater", fn := fun _ => fun
  | [d1, d2, d3, d4] => { results := [.lit (.bool false)], args := [d1, d2, d3, d4] }
  | _ => none }
def BucketLaterWrongFalsely : Prop := bucketLaterRow.holds Try.pinned (OpenSpec.ofChange bucketLaterWrong)

/- THE SECOND FORM. 'bulk': how many values and letters a reading holds, each counted each time it is reached (what is shared counts as often as it is met; a slice's spare places count too). A statement '..UptoSaid' is the law's where the arguments, and the package variables that the reading takes, are together of bulk at most 1048576: NARROWER than '..Said'. Prove '..Said' where nothing that the law and all that it calls make is longer than what came in: it says more and counts as full. Else prove '..UptoSaid'. A law counts once. -/
mutual
def uptoBulk {H : Type} : DataW H → Nat
  | .lit (.string bytes) => bytes.length + 1
  | .lit _ => 1
  | .nil => 1
  | .ptr d => uptoBulk d + 1
  | .slice elems spare => uptoBulkAll elems + uptoBulkAll spare + 1
  | .agg parts => uptoBulkAll parts + 1
  | .iface _ d => uptoBulk d + 1
  | .map entries => uptoBulkEntries entries + 1
  | .held _ => 1
def uptoBulkAll {H : Type} : List (DataW H) → Nat
  | [] => 0
  | d :: r => uptoBulk d + uptoBulkAll r
def uptoBulkEntries {H : Type} : List (Lit × DataW H) → Nat
  | [] => 0
  | x :: r => uptoBulkEntry x + uptoBulkEntries r
def uptoBulkEntry {H : Type} : Lit × DataW H → Nat
  | (.string bytes, d) => bytes.length + uptoBulk d + 1
  | (_, d) => uptoBulk d + 1
 end
def uptoSmall : (H : Type) → List (DataW H) → Bool := fun _ ds => decide (uptoBulkAll ds ≤ 1048576)
def OpenSpec.upto (s : _root_.Go.ChangeSpec) : _root_.Go.OpenSpec := { _root_.Go.OpenSpec.ofChange s with cond := some uptoSmall }

/-- 'reevelaw07.BucketOwes', WHERE WHAT IT READS IS OF BULK AT MOST 1048576: true; the input reads as it did. -/
def bucketOwesUptoRow : OpenClaim := { program := "ytlhnlickmjdjfaa", sum := "d4877e1270b36add3f07fb0f9b2dccfdc1f8d1ae5a808f84a2a747899c6c936e", func := "reeve/reevelaw07.BucketOwes", spec := "bucketOwes", unfollowed := true, recurses := true, apart := false, narrowed := true }
def BucketOwesUptoSaid : Prop := bucketOwesUptoRow.holds Try.pinned (OpenSpec.upto bucketOwesSpec)

/-- 'reevelaw07.BucketWhen', WHERE WHAT IT READS IS OF BULK AT MOST 1048576: true; the input reads as it did. -/
def bucketWhenUptoRow : OpenClaim := { program := "ytlhnlickmjdjfaa", sum := "d4877e1270b36add3f07fb0f9b2dccfdc1f8d1ae5a808f84a2a747899c6c936e", func := "reeve/reevelaw07.BucketWhen", spec := "bucketWhen", unfollowed := true, recurses := true, apart := false, narrowed := true }
def BucketWhenUptoSaid : Prop := bucketWhenUptoRow.holds Try.pinned (OpenSpec.upto bucketWhenSpec)

/-- 'reevelaw07.BucketGoes', WHERE WHAT IT READS IS OF BULK AT MOST 1048576: true; the input reads as it did. -/
def bucketGoesUptoRow : OpenClaim := { program := "ytlhnlickmjdjfaa", sum := "d4877e1270b36add3f07fb0f9b2dccfdc1f8d1ae5a808f84a2a747899c6c936e", func := "reeve/reevelaw07.BucketGoes", spec := "bucketGoes", unfollowed := true, recurses := true, apart := false, narrowed := true }
def BucketGoesUptoSaid : Prop := bucketGoesUptoRow.holds Try.pinned (OpenSpec.upto bucketGoesSpec)

/-- 'reevelaw07.BucketBursts', WHERE WHAT IT READS IS OF BULK AT MOST 1048576: true; the input reads as it did. -/
def bucketBurstsUptoRow : OpenClaim := { program := "ytlhnlickmjdjfaa", sum := "d4877e1270b36add3f07fb0f9b2dccfdc1f8d1ae5a808f84a2a747899c6c936e", func := "reeve/reevelaw07.BucketBursts", spec := "bucketBursts", unfollowed := true, recurses := true, apart := false, narrowed := true }
def BucketBurstsUptoSaid : Prop := bucketBurstsUptoRow.holds Try.pinned (OpenSpec.upto bucketBurstsSpec)

/-- 'reevelaw07.BucketMore', WHERE WHAT IT READS IS OF BULK AT MOST 1048576: true; the input reads as it did. -/
def bucketMoreUptoRow : OpenClaim := { program := "ytlhnlickmjdjfaa", sum := "d4877e1270b36add3f07fb0f9b2dccfdc1f8d1ae5a808f84a2a747899c6c936e", func := "reeve/reevelaw07.BucketMore", spec := "bucketMore", unfollowed := true, recurses := true, apart := false, narrowed := true }
def BucketMoreUptoSaid : Prop := bucketMoreUptoRow.holds Try.pinned (OpenSpec.upto bucketMoreSpec)

/-- 'reevelaw07.BucketLater', WHERE WHAT IT READS IS OF BULK AT MOST 1048576: true; the input reads as it did. -/
def bucketLaterUptoRow : OpenClaim := { program := "ytlhnlickmjdjfaa", sum := "d4877e1270b36add3f07fb0f9b2dccfdc1f8d1ae5a808f84a2a747899c6c936e", func := "reeve/reevelaw07.BucketLater", spec := "bucketLater", unfollowed := true, recurses := true, apart := false, narrowed := true }
def BucketLaterUptoSaid : Prop := bucketLaterUptoRow.holds Try.pinned (OpenSpec.upto bucketLaterSpec)

end Rows
end Go.Proofs.Ytlhnlickmjdjfaa
