/-
  No cell of these rows narrows 'for every input' (looked for: loops, veiled, ifaces, maps, wideKeys, modest, calm, conditions, laid).
  DERIVED. THE GIVEN ROWS OF THIS SEAT. 7 by the template 'for every input the law returns true; each argument reads behind the call as it read before'; 0 by the template 'total and deterministic' (their statements: YtlccplpniidjfaaTotals.lean).
  GIVEN WITH THE SEED: the statements are not yours to turn. If you find one false, say at which input.
  Laid BY PROGRAM, IN A SANDBOX (cutbox-rows.mjs): the forced cells as the released guide's own fill.sh prints them over the translation f5cffc4a22a4c0f5… (all of the seat's roots in one cut). By AI agents, Wed Nov 11 2026. No macro, syntax, notation, axiom, sorry.
-/
import Derived.Test.YtlccplpniidjfaaChecked
import GoSem.Claim
import GoSem.ClaimJoined
import GoSem.ClaimMapViews
import Derived.JoinedTies
import Derived.KernelRfl
namespace Go.Proofs.Ytlccplpniidjfaa
/- THE CELL 'sum', in the pinned program and in every row, IS THE sha256 OF THE DUMP (.gsa) THAT YtlccplpniidjfaaProg.lean LOADS. Nothing in Lean hashes anything: it is a label: what it is worth is what the hold of that sum in a sandbox is worth. -/
noncomputable def Try.pinned : Pinned := { name := "ytlccplpniidjfaa", sum := "f5cffc4a22a4c0f579833ad6790bfe6f7b35941b2b41f4704bd55ded7fba51ae", checked := Try.checked }
namespace Rows
def none {H : Type} : Left H := { results := [], args := [] }

/-- 'bedrocklaw16.QueueLeast': WHATEVER THE INPUT: true; the input reads as it did. -/
def queueLeastSpec : ChangeSpec := { name := "queueLeast", fn := fun _ => fun
  | [d1, d2] => { results := [.lit (.bool true)], args := [d1, d2] }
  | _ => none }
def queueLeastRow : OpenClaim := { program := "ytlccplpniidjfaa", sum := "f5cffc4a22a4c0f579833ad6790bfe6f7b35941b2b41f4704bd55ded7fba51ae", func := "bedrock/bedrocklaw16.QueueLeast", spec := "queueLeast", unfollowed := true, recurses := true, apart := false }
def QueueLeastSaid : Prop := queueLeastRow.holds Try.pinned (OpenSpec.ofChange queueLeastSpec)

/-- ITS FALSE NEIGHBOUR: 'it returns false'. Refute it at one input. -/
def queueLeastWrong : ChangeSpec := { name := "queueLeast", fn := fun _ => fun
  | [d1, d2] => { results := [.lit (.bool false)], args := [d1, d2] }
  | _ => none }
def QueueLeastWrongFalsely : Prop := queueLeastRow.holds Try.pinned (OpenSpec.ofChange queueLeastWrong)

/-- 'bedrocklaw16.QueueSorted': WHATEVER THE INPUT: true; the input reads as it did. -/
def queueSortedSpec : ChangeSpec := { name := "queueSorted", fn := fun _ => fun
  | [d] => { results := [.lit (.bool true)], args := [d] }
  | _ => none }
def queueSortedRow : OpenClaim := { program := "ytlccplpniidjfaa", sum := "f5cffc4a22a4c0f579833ad6790bfe6f7b35941b2b41f4704bd55ded7fba51ae", func := "bedrock/bedrocklaw16.QueueSorted", spec := "queueSorted", unfollowed := true, recurses := true, apart := false }
def QueueSortedSaid : Prop := queueSortedRow.holds Try.pinned (OpenSpec.ofChange queueSortedSpec)

/-- ITS FALSE NEIGHBOUR: 'it returns false'. Refute it at one input. -/
def queueSortedWrong : ChangeSpec := { name := "queueSorted", fn := fun _ => fun
  | [d] => { results := [.lit (.bool false)], args := [d] }
  | _ => none }
def QueueSortedWrongFalsely : Prop := queueSortedRow.holds Try.pinned (OpenSpec.ofChange queueSortedWrong)

/-- 'bedrocklaw16.QueueLater': WHATEVER THE INPUT: true; the input reads as it did. -/
def queueLaterSpec : ChangeSpec := { name := "queueLater", fn := fun _ => fun
  | [d1, d2] => { results := [.lit (.bool true)], args := [d1, d2] }
  | _ => none }
def queueLaterRow : OpenClaim := { program := "ytlccplpniidjfaa", sum := "f5cffc4a22a4c0f579833ad6790bfe6f7b35941b2b41f4704bd55ded7fba51ae", func := "bedrock/bedrocklaw16.QueueLater", spec := "queueLater", unfollowed := true, recurses := true, apart := false }
def QueueLaterSaid : Prop := queueLaterRow.holds Try.pinned (OpenSpec.ofChange queueLaterSpec)

/-- ITS FALSE NEIGHBOUR: 'it returns false'. Refute it at one input. -/
def queueLaterWrong : ChangeSpec := { name := "queueLater", fn := fun _ => fun
  | [d1, d2] => { results := [.lit (.bool false)], args := [d1, d2] }
  | _ => none }
def QueueLaterWrongFalsely : Prop := queueLaterRow.holds Try.pinned (OpenSpec.ofChange queueLaterWrong)

/-- 'bedrocklaw16.QueueMakes': WHATEVER THE INPUT: true; the input reads as it did. -/
def queueMakesSpec : ChangeSpec := { name := "queueMakes", fn := fun _ => fun
  | [d] => { results := [.lit (.bool true)], args := [d] }
  | _ => none }
def queueMakesRow : OpenClaim := { program := "ytlccplpniidjfaa", sum := "f5cffc4a22a4c0f579833ad6790bfe6f7b35941b2b41f4704bd55ded7fba51ae", func := "bedrock/bedrocklaw16.QueueMakes", spec := "queueMakes", unfollowed := true, recurses := true, apart := false }
def QueueMakesSaid : Prop := queueMakesRow.holds Try.pinned (OpenSpec.ofChange queueMakesSpec)

/-- ITS FALSE NEIGHBOUR: 'it returns false'. Refute it at one input. -/
def queueMakesWrong : ChangeSpec := { name := "queueMakes", fn := fun _ => fun
  | [d] => { results := [.lit (.bool false)], args := [d] }
  | _ => none }
def QueueMakesWrongFalsely : Prop := queueMakesRow.holds Try.pinned (OpenSpec.ofChange queueMakesWrong)

/-- 'bedrocklaw16.QueueAgain': WHATEVER THE INPUT: true; the input reads as it did. -/
def queueAgainSpec : ChangeSpec := { name := "queueAgain", fn := fun _ => fun
  | [d] => { results := [.lit (.bool true)], args := [d] }
  | _ => none }
def queueAgainRow : OpenClaim := { program := "ytlccplpniidjfaa", sum := "f5cffc4a22a4c0f579833ad6790bfe6f7b35941b2b41f4704bd55ded7fba51ae", func := "bedrock/bedrocklaw16.QueueAgain", spec := "queueAgain", unfollowed := true, recurses := true, apart := false }
def QueueAgainSaid : Prop := queueAgainRow.holds Try.pinned (OpenSpec.ofChange queueAgainSpec)

/-- ITS FALSE NEIGHBOUR: 'it returns false'. Refute it at one input. -/
def queueAgainWrong : ChangeSpec := { name := "queueAgain", fn := fun _ => fun
  | [d] => { results := [.lit (.bool false)], args := [d] }
  | _ => none }
def QueueAgainWrongFalsely : Prop := queueAgainRow.holds Try.pinned (OpenSpec.ofChange queueAgainWrong)

/-- 'bedrocklaw16.QueueKnown': WHATEVER THE INPUT: true; the input reads as it did. -/
def queueKnownSpec : ChangeSpec := { name := "queueKnown", fn := fun _ => fun
  | [] => { results := [.lit (.bool true)], args := [] }
  | _ => none }
def queueKnownRow : OpenClaim := { program := "ytlccplpniidjfaa", sum := "f5cffc4a22a4c0f579833ad6790bfe6f7b35941b2b41f4704bd55ded7fba51ae", func := "bedrock/bedrocklaw16.QueueKnown", spec := "queueKnown", unfollowed := true, recurses := true, apart := false }
def QueueKnownSaid : Prop := queueKnownRow.holds Try.pinned (OpenSpec.ofChange queueKnownSpec)

/-- ITS FALSE NEIGHBOUR: 'it returns false'. Refute it at one input. -/
def queueKnownWrong : ChangeSpec := { name := "queueKnown", fn := fun _ => fun
  | [] => { results := [.lit (.bool false)], args := [] }
  | _ => none }
def QueueKnownWrongFalsely : Prop := queueKnownRow.holds Try.pinned (OpenSpec.ofChange queueKnownWrong)

/-- 'bedrocklaw16.QueuePlays': WHATEVER THE INPUT: true; the input reads as it did. -/
def queuePlaysSpec : ChangeSpec := { name := "queuePlays", fn := fun _ => fun
  | [d] => { results := [.lit (.bool true)], args := [d] }
  | _ => none }
def queuePlaysRow : OpenClaim := { program := "ytlccplpniidjfaa", sum := "f5cffc4a22a4c0f579833ad6790bfe6f7b35941b2b41f4704bd55ded7fba51ae", func := "bedrock/bedrocklaw16.QueuePlays", spec := "queuePlays", unfollowed := true, recurses := true, apart := false }
def QueuePlaysSaid : Prop := queuePlaysRow.holds Try.pinned (OpenSpec.ofChange queuePlaysSpec)

/-- ITS FALSE NEIGHBOUR: 'it returns false'. Refute it at one input. -/
def queuePlaysWrong : ChangeSpec := { name := "queuePlays", fn := fun _ => fun
  | [d] => { results := [.lit (.bool false)], args := [d] }
  | _ => none }
def QueuePlaysWrongFalsely : Prop := queuePlaysRow.holds Try.pinned (OpenSpec.ofChange queuePlaysWrong)

/- THE SECOND FORM. 'bulk': how many values and letters a reading holds, each counted each time it is reached (what is shared counts as often as it is met; a slice's spare places count too). A statement '..UptoSaid' is the law's where the arguments, and the package variables that the reading takes, are together of bulk at most 1048576: NARROWER than '..Said'. Prove '..Said' where nothing that the law and all that it calls make is longer than what came in: it says more and counts as full. Else prove '..UptoSaid'. A law counts once. -/
mutual
def uptoBulk {H : Type} : DataW H → Nat
  | .lit (.string bytes) => bytes.length + 1
  | .lit _ => 1
  | .nil => 1
  | .ptr d => uptoBulk d + 1
  | .slice elems spare => uptoBulkAll elems + uptoBulkAll spare + 1
  | .agg parts => uptoBulkAll parts + 1
  | .iface _ d => uptoBulk d + 1
  | .map entries => uptoBulkEntries entries + 1
  | .held _ => 1
def uptoBulkAll {H : Type} : List (DataW H) → Nat
  | [] => 0
  | d :: r => uptoBulk d + uptoBulkAll r
def uptoBulkEntries {H : Type} : List (Lit × DataW H) → Nat
  | [] => 0
  | x :: r => uptoBulkEntry x + uptoBulkEntries r
def uptoBulkEntry {H : Type} : Lit × DataW H → Nat
  | (.string bytes, d) => bytes.length + uptoBulk d + 1
  | (_, d) => uptoBulk d + 1
 end
def uptoSmall : (H : Type) → List (DataW H) → Bool := fun _ ds => decide (uptoBulkAll ds ≤ 1048576)
def OpenSpec.upto (s : _root_.Go.ChangeSpec) : _root_.Go.OpenSpec := { _root_.Go.OpenSpec.ofChange s with cond := some uptoSmall }

/-- 'bedrocklaw16.QueueLeast', WHERE WHAT IT READS IS OF BULK AT MOST 1048576: true; the input reads as it did. -/
def queueLeastUptoRow : OpenClaim := { program := "ytlccplpniidjfaa", sum := "f5cffc4a22a4c0f579833ad6790bfe6f7b35941b2b41f4704bd55ded7fba51ae", func := "bedrock/bedrocklaw16.QueueLeast", spec := "queueLeast", unfollowed := true, recurses := true, apart := false, narrowed := true }
def QueueLeastUptoSaid : Prop := queueLeastUptoRow.holds Try.pinned (OpenSpec.upto queueLeastSpec)

/-- 'bedrocklaw16.QueueSorted', WHERE WHAT IT READS IS OF BULK AT MOST 1048576: true; the input reads as it did. -/
def queueSortedUptoRow : OpenClaim := { program := "ytlccplpniidjfaa", sum := "f5cffc4a22a4c0f579833ad6790bfe6f7b35941b2b41f4704bd55ded7fba51ae", func := "bedrock/bedrocklaw16.QueueSorted", spec := "queueSorted", unfollowed := true, recurses := true, apart := false, narrowed := true }
def QueueSortedUptoSaid : Prop := queueSortedUptoRow.holds Try.pinned (OpenSpec.upto queueSortedSpec)

/-- 'bedrocklaw16.QueueLater', WHERE WHAT IT READS IS OF BULK AT MOST 1048576: true; the input reads as it did. -/
def queueLaterUptoRow : OpenClaim := { program := "ytlccplpniidjfaa", sum := "f5cffc4a22a4c0f579833ad6790bfe6f7b35941b2b41f4704bd55ded7fba51ae", func := "bedrock/bedrocklaw16.QueueLater", spec := "queueLater", unfollowed := true, recurses := true, apart := false, narrowed := true }
def QueueLaterUptoSaid : Prop := queueLaterUptoRow.holds Try.pinned (OpenSpec.upto queueLaterSpec)

/-- 'bedrocklaw16.QueueMakes', WHERE WHAT IT READS IS OF BULK AT MOST 1048576: true; the input reads as it did. -/
def queueMakesUptoRow : OpenClaim := { program := "ytlccplpniidjfaa", sum := "f5cffc4a22a4c0f579833ad6790bfe6f7b35941b2b41f4704bd55ded7fba51ae", func := "bedrock/bedrocklaw16.QueueMakes", spec := "queueMakes", unfollowed := true, recurses := true, apart := false, narrowed := true }
def QueueMakesUptoSaid : Prop := queueMakesUptoRow.holds Try.pinned (OpenSpec.upto queueMakesSpec)

/-- 'bedrocklaw16.QueueAgain', WHERE WHAT IT READS IS OF BULK AT MOST 1048576: true; the input reads as it did. -/
def queueAgainUptoRow : OpenClaim := { program := "ytlccplpniidjfaa", sum := "f5cffc4a22a4c0f579833ad6790bfe6f7b35941b2b41f4704bd55ded7fba51ae", func := "bedrock/bedrocklaw16.QueueAgain", spec := "queueAgain", unfollowed := true, recurses := true, apart := false, narrowed := true }
def QueueAgainUptoSaid : Prop := queueAgainUptoRow.holds Try.pinned (OpenSpec.upto queueAgainSpec)

/-- 'bedrocklaw16.QueueKnown', WHERE WHAT IT READS IS OF BULK AT MOST 1048576: true; the input reads as it did. -/
def queueKnownUptoRow : OpenClaim := { program := "ytlccplpniidjfaa", sum := "f5cffc4a22a4c0f579833ad6790bfe6f7b35941b2b41f4704bd55ded7fba51ae", func := "bedrock/bedrocklaw16.QueueKnown", spec := "queueKnown", unfollowed := true, recurses := true, apart := false, narrowed := true }
def QueueKnownUptoSaid : Prop := queueKnownUptoRow.holds Try.pinned (OpenSpec.upto queueKnownSpec)

/-- 'bedrocklaw16.QueuePlays', WHERE WHAT IT READS IS OF BULK AT MOST 1048576: true; the input reads as it did. -/
def queuePlaysUptoRow : OpenClaim := { program := "ytlccplpniidjfaa", sum := "f5cffc4a22a4c0f579833ad6790bfe6f7b35941b2b41f4704bd55ded7fba51ae", func := "bedrock/bedrocklaw16.QueuePlays", spec := "queuePlays", unfollowed := true, recurses := true, apart := false, narrowed := true }
def QueuePlaysUptoSaid : Prop := queuePlaysUptoRow.holds Try.pinned (OpenSpec.upto queuePlaysSpec)

end Rows
end Go.Proofs.Ytlccplpniidjfaa
