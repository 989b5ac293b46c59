/-
  No cell of these rows narrows 'for every input' (looked for: loops, veiled, ifaces, maps, wideKeys, modest, calm, conditions, laid).
  DERIVED. THE GIVEN ROWS OF THIS SEAT. 4 by the template 'for every input the law returns true; each argument reads behind the call as it read before'; 0 by the template 'total and deterministic' (their statements: YtokmbnmhdicljaaTotals.lean).
  GIVEN WITH THE SEED: the statements are not yours to turn. If you find one false, say at which input.
  Laid BY PROGRAM, IN A SANDBOX (cutbox-rows.mjs): the forced cells as the released guide's own fill.sh prints them over the translation b4385ff1c1280e35… (all of the seat's roots in one cut). By AI agents, Wed Nov 11 2026. No macro, syntax, notation, axiom, sorry.
-/
import Derived.Test.YtokmbnmhdicljaaChecked
import GoSem.Claim
import GoSem.ClaimJoined
import GoSem.ClaimMapViews
import Derived.JoinedTies
import Derived.KernelRfl
namespace Go.Proofs.Ytokmbnmhdicljaa
/- THE CELL 'sum', in the pinned program and in every row, IS THE sha256 OF THE DUMP (.gsa) THAT YtokmbnmhdicljaaProg.lean LOADS. Nothing in Lean hashes anything: it is a label: what it is worth is what the hold of that sum in a sandbox is worth. -/
noncomputable def Try.pinned : Pinned := { name := "ytokmbnmhdicljaa", sum := "b4385ff1c1280e35b7aacf7f3969ff62159361e050c71f385b4c3a04a030081b", checked := Try.checked }
namespace Rows
def none {H : Type} : Left H := { results := [], args := [] }

/-- 'bedrocklaw17.AnchorSpots': WHATEVER THE INPUT: true; the input reads as it did. -/
def anchorSpotsSpec : ChangeSpec := { name := "anchorSpots", fn := fun _ => fun
  | [d1, d2] => { results := [.lit (.bool true)], args := [d1, d2] }
  | _ => none }
def anchorSpotsRow : OpenClaim := { program := "ytokmbnmhdicljaa", sum := "b4385ff1c1280e35b7aacf7f3969ff62159361e050c71f385b4c3a04a030081b", func := "bedrock/bedrocklaw17.AnchorSpots", spec := "anchorSpots", unfollowed := true, recurses := true, plainKeys := false, apart := false }
def AnchorSpotsSaid : Prop := anchorSpotsRow.holds Try.pinned (OpenSpec.ofChange anchorSpotsSpec)

/-- ITS FALSE NEIGHBOUR: 'it returns false'. Refute it at one input. -/
def anchorSpotsWrong : ChangeSpec := { name := "anchorSpots", fn := fun _ => fun
  | [d1, d2] => { results := [.lit (.bool false)], args := [d1, d2] }
  | _ => none }
def AnchorSpotsWrongFalsely : Prop := anchorSpotsRow.holds Try.pinned (OpenSpec.ofChange anchorSpotsWrong)

/-- 'bedrocklaw17.AnchorPuts': WHATEVER THE INPUT: true; the input reads as it did. -/
def anchorPutsSpec : ChangeSpec := { name := "anchorPuts", fn := fun _ => fun
  | [d1, d2, d3] => { results := [.lit (.bool true)], args := [d1, d2, d3] }
  | _ => none }
def anchorPutsRow : OpenClaim := { program := "ytokmbnmhdicljaa", sum := "b4385ff1c1280e35b7aacf7f3969ff62159361e050c71f385b4c3a04a030081b", func := "bedrock/bedrocklaw17.AnchorPuts", spec := "anchorPuts", unfollowed := true, recurses := true, plainKeys := false, apart := false }
def AnchorPutsSaid : Prop := anchorPutsRow.holds Try.pinned (OpenSpec.ofChange anchorPutsSpec)

/-- ITS FALSE NEIGHBOUR: 'it returns false'. Refute it at one input. -/
def anchorPutsWrong : ChangeSpec := { name := "anchorPuts", fn := fun _ => fun
  | [d1, d2, d3] => { results := [.lit (.bool false)], args := [d1, d2, d3] }
  | _ => none }
def AnchorPutsWrongFalsely : Prop := anchorPutsRow.holds Try.pinned (OpenSpec.ofChange anchorPutsWrong)

/-- 'bedrocklaw17.AnchorKnown': WHATEVER THE INPUT: true; the input reads as it did. -/
def anchorKnownSpec : ChangeSpec := { name := "anchorKnown", fn := fun _ => fun
  | [] => { results := [.lit (.bool true)], args := [] }
  | _ => none }
def anchorKnownRow : OpenClaim := { program := "ytokmbnmhdicljaa", sum := "b4385ff1c1280e35b7aacf7f3969ff62159361e050c71f385b4c3a04a030081b", func := "bedrock/bedrocklaw17.AnchorKnown", spec := "anchorKnown", unfollowed := true, recurses := true, plainKeys := false, apart := false }
def AnchorKnownSaid : Prop := anchorKnownRow.holds Try.pinned (OpenSpec.ofChange anchorKnownSpec)

/-- ITS FALSE NEIGHBOUR: 'it returns false'. Refute it at one input. -/
def anchorKnownWrong : ChangeSpec := { name := "anchorKnown", fn := fun _ => fun
  | [] => { results := [.lit (.bool false)], args := [] }
  | _ => none }
def AnchorKnownWrongFalsely : Prop := anchorKnownRow.holds Try.pinned (OpenSpec.ofChange anchorKnownWrong)

/-- 'bedrocklaw17.AnchorHangs': WHATEVER THE INPUT: true; the input reads as it did. -/
def anchorHangsSpec : ChangeSpec := { name := "anchorHangs", fn := fun _ => fun
  | [d1, d2, d3] => { results := [.lit (.bool true)], args := [d1, d2, d3] }
  | _ => none }
def anchorHangsRow : OpenClaim := { program := "ytokmbnmhdicljaa", sum := "b4385ff1c1280e35b7aacf7f3969ff62159361e050c71f385b4c3a04a030081b", func := "bedrock/bedrocklaw17.AnchorHangs", spec := "anchorHangs", unfollowed := true, recurses := true, plainKeys := false, apart := false }
def AnchorHangsSaid : Prop := anchorHangsRow.holds Try.pinned (OpenSpec.ofChange anchorHangsSpec)

/-- ITS FALSE NEIGHBOUR: 'it returns false'. Refute it at one input. -/
def anchorHangsWrong : ChangeSpec := { name := "anchorHangs", fn := fun _ => fun
  | [d1, d2, d3] => { results := [.lit (.bool false)], args := [d1, d2, d3] }
  | _ => none }
def AnchorHangsWrongFalsely : Prop := anchorHangsRow.holds Try.pinned (OpenSpec.ofChange anchorHangsWrong)

/- THE SECOND FORM. 'bulk': how many values and letters a reading holds, each counted each time it is reached (what is shared counts as often as it is met; a slice's spare places count too). A statement '..UptoSaid' is the law's where the arguments, and the package variables that the reading takes, are together of bulk at most 1048576: NARROWER than '..Said'. Prove '..Said' where nothing that the law and all that it calls make is longer than what came in: it says more and counts as full. Else prove '..UptoSaid'. A law counts once. -/
mutual
def uptoBulk {H : Type} : DataW H → Nat
  | .lit (.string bytes) => bytes.length + 1
  | .lit _ => 1
  | .nil => 1
  | .ptr d => uptoBulk d + 1
  | .slice elems spare => uptoBulkAll elems + uptoBulkAll spare + 1
  | .agg parts => uptoBulkAll parts + 1
  | .iface _ d => uptoBulk d + 1
  | .map entries => uptoBulkEntries entries + 1
  | .held _ => 1
def uptoBulkAll {H : Type} : List (DataW H) → Nat
  | [] => 0
  | d :: r => uptoBulk d + uptoBulkAll r
def uptoBulkEntries {H : Type} : List (Lit × DataW H) → Nat
  | [] => 0
  | x :: r => uptoBulkEntry x + uptoBulkEntries r
def uptoBulkEntry {H : Type} : Lit × DataW H → Nat
  | (.string bytes, d) => bytes.length + uptoBulk d + 1
  | (_, d) => uptoBulk d + 1
 end
def uptoSmall : (H : Type) → List (DataW H) → Bool := fun _ ds => decide (uptoBulkAll ds ≤ 1048576)
def OpenSpec.upto (s : _root_.Go.ChangeSpec) : _root_.Go.OpenSpec := { _root_.Go.OpenSpec.ofChange s with cond := some uptoSmall }

/-- 'bedrocklaw17.AnchorSpots', WHERE WHAT IT READS IS OF BULK AT MOST 1048576: true; the input reads as it did. -/
def anchorSpotsUptoRow : OpenClaim := { program := "ytokmbnmhdicljaa", sum := "b4385ff1c1280e35b7aacf7f3969ff62159361e050c71f385b4c3a04a030081b", func := "bedrock/bedrocklaw17.AnchorSpots", spec := "anchorSpots", unfollowed := true, recurses := true, plainKeys := false, apart := false, narrowed := true }
def AnchorSpotsUptoSaid : Prop := anchorSpotsUptoRow.holds Try.pinned (OpenSpec.upto anchorSpotsSpec)

/-- 'bedrocklaw17.AnchorPuts', WHERE WHAT IT READS IS OF BULK AT MOST 1048576: true; the input reads as it did. -/
def anchorPutsUptoRow : OpenClaim := { program := "ytokmbnmhdicljaa", sum := "b4385ff1c1280e35b7aacf7f3969ff62159361e050c71f385b4c3a04a030081b", func := "bedrock/bedrocklaw17.AnchorPuts", spec := "anchorPuts", unfollowed := true, recurses := true, plainKeys := false, apart := false, narrowed := true }
def AnchorPutsUptoSaid : Prop := anchorPutsUptoRow.holds Try.pinned (OpenSpec.upto anchorPutsSpec)

/-- 'bedrocklaw17.AnchorKnown', WHERE WHAT IT READS IS OF BULK AT MOST 1048576: true; the input reads as it did. -/
def anchorKnownUptoRow : OpenClaim := { program := "ytokmbnmhdicljaa", sum := "b4385ff1c1280e35b7aacf7f3969ff62159361e050c71f385b4c3a04a030081b", func := "bedrock/bedrocklaw17.AnchorKnown", spec := "anchorKnown", unfollowed := true, recurses := true, plainKeys := false, apart := false, narrowed := true }
def AnchorKnownUptoSaid : Prop := anchorKnownUptoRow.holds Try.pinned (OpenSpec.upto anchorKnownSpec)

/-- 'bedrocklaw17.AnchorHangs', WHERE WHAT IT READS IS OF BULK AT MOST 1048576: true; the input reads as it did. -/
def anchorHangsUptoRow : OpenClaim := { program := "ytokmbnmhdicljaa", sum := "b4385ff1c1280e35b7aacf7f3969ff62159361e050c71f385b4c3a04a030081b", func := "bedrock/bedrocklaw17.AnchorHangs", spec := "anchorHangs", unfollowed := true, recurses := true, plainKeys := false, apart := false, narrowed := true }
def AnchorHangsUptoSaid : Prop := anchorHangsUptoRow.holds Try.pinned (OpenSpec.upto anchorHangsSpec)

end Rows
end Go.Proofs.Ytokmbnmhdicljaa
