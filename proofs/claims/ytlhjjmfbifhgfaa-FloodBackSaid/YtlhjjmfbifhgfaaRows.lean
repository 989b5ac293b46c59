/-
  No cell of these rows narrows 'for every input' (looked for: loops, veiled, ifaces, maps, wideKeys, modest, calm, conditions, laid).
  DERIVED. THE GIVEN ROWS OF THIS SEAT. 3 by the template 'for every input the law returns true; each argument reads behind the call as it read before'; 0 by the template 'total and deterministic' (their statements: YtlhjjmfbifhgfaaTotals.lean).
  GIVEN WITH THE SEED: the statements are not yours to turn. If you find one false, say at which input.
  Laid BY PROGRAM, IN A SANDBOX (cutbox-rows.mjs): the forced cells as the released guide's own fill.sh prints them over the translation bc4459a7b2e5d1db… (all of the seat's roots in one cut). By AI agents, Wed Nov 11 2026. No macro, syntax, notation, axiom, sorry.
-/
import Derived.Test.YtlhjjmfbifhgfaaChecked
import GoSem.Claim
import GoSem.ClaimJoined
import GoSem.ClaimMapViews
import Derived.JoinedTies
import Derived.KernelRfl
namespace Go.Proofs.Ytlhjjmfbifhgfaa
/- THE CELL 'sum', in the pinned program and in every row, IS THE sha256 OF THE DUMP (.gsa) THAT YtlhjjmfbifhgfaaProg.lean LOADS. Nothing in Lean hashes anything: it is a label: what it is worth is what the hold of that sum in a sandbox is worth. -/
noncomputable def Try.pinned : Pinned := { name := "ytlhjjmfbifhgfaa", sum := "bc4459a7b2e5d1dbdcc05eef586bb0c16c809ddd38bf494884e76d89aa4c399b", checked := Try.checked }
namespace Rows
def none {H : Type} : Left H := { results := [], args := [] }

/-- 'bedrocklaw11.FloodKeeps': WHATEVER THE INPUT: true; the input reads as it did. -/
def floodKeepsSpec : ChangeSpec := { name := "floodKeeps", fn := fun _ => fun
  | [d1, d2] => { results := [.lit (.bool true)], args := [d1, d2] }
  | _ => none }
def floodKeepsRow : OpenClaim := { program := "ytlhjjmfbifhgfaa", sum := "bc4459a7b2e5d1dbdcc05eef586bb0c16c809ddd38bf494884e76d89aa4c399b", func := "bedrock/bedrocklaw11.FloodKeeps", spec := "floodKeeps", inPlace := ["maps.clone"], unfollowed := true, recurses := true, plainKeys := false, apart := false }
def FloodKeepsSaid : Prop := floodKeepsRow.holds Try.pinned (OpenSpec.ofChange floodKeepsSpec)

/-- ITS FALSE NEIGHBOUR: 'it returns false'. Refute it at one input. -/
def floodKeepsWrong : ChangeSpec := { name := "floodKeeps", fn := fun _ => fun
  | [d1, d2] => { results := [.lit (.bool false)], args := [d1, d2] }
  | _ => none }
def FloodKeepsWrongFalsely : Prop := floodKeepsRow.holds Try.pinned (OpenSpec.ofChange floodKeepsWrong)

/-- 'bedrocklaw11.FloodKnown': WHATEVER THE INPUT: true; the input reads as it did. -/
def floodKnownSpec : ChangeSpec := { name := "floodKnown", fn := fun _ => fun
  | [] => { results := [.lit (.bool true)], args := [] }
  | _ => none }
def floodKnownRow : OpenClaim := { program := "ytlhjjmfbifhgfaa", sum := "bc4459a7b2e5d1dbdcc05eef586bb0c16c809ddd38bf494884e76d89aa4c399b", func := "bedrock/bedrocklaw11.FloodKnown", spec := "floodKnown", inPlace := ["maps.clone"], unfollowed := true, recurses := true, plainKeys := false, apart := false }
def FloodKnownSaid : Prop := floodKnownRow.holds Try.pinned (OpenSpec.ofChange floodKnownSpec)

/-- ITS FALSE NEIGHBOUR: 'it returns false'. Refute it at one input. -/
def floodKnownWrong : ChangeSpec := { name := "floodKnown", fn := fun _ => fun
  | [] => { results := [.lit (.bool false)], args := [] }
  | _ => none }
def FloodKnownWrongFalsely : Prop := floodKnownRow.holds Try.pinned (OpenSpec.ofChange floodKnownWrong)

/-- 'bedrocklaw11.FloodBack': WHATEVER THE INPUT: true; the input reads as it did. -/
def floodBackSpec : ChangeSpec := { name := "floodBack", fn := fun _ => fun
  | [d1, d2] => { results := [.lit (.bool true)], args := [d1, d2] }
  | _ => none }
def floodBackRow : OpenClaim := { program := "ytlhjjmfbifhgfaa", sum := "bc4459a7b2e5d1dbdcc05eef586bb0c16c809ddd38bf494884e76d89aa4c399b", func := "bedrock/bedrocklaw11.FloodBack", spec := "floodBack", inPlace := ["maps.clone"], unfollowed := true, recurses := true, plainKeys := false, apart := false }
def FloodBackSaid : Prop := floodBackRow.holds Try.pinned (OpenSpec.ofChange floodBackSpec)

/-- ITS FALSE NEIGHBOUR: 'it returns false'. Refute it at one input. -/
def floodBackWrong : ChangeSpec := { name := "floodBack", fn := fun _ => fun
  | [d1, d2] => { results := [.lit (.bool false)], args := [d1, d2] }
  | _ => none }
def FloodBackWrongFalsely : Prop := floodBackRow.holds Try.pinned (OpenSpec.ofChange floodBackWrong)

/- THE SECOND FORM. 'bulk': how many values and letters a reading holds, each counted each time it is reached (what is shared counts as often as it is met; a slice's spare places count too). A statement '..UptoSaid' is the law's where the arguments, and the package variables that the reading takes, are together of bulk at most 1048576: NARROWER than '..Said'. Prove '..Said' where nothing that the law and all that it calls make is longer than what came in: it says more and counts as full. Else prove '..UptoSaid'. A law counts once. -/
mutual
def uptoBulk {H : Type} : DataW H → Nat
  | .lit (.string bytes) => bytes.length + 1
  | .lit _ => 1
  | .nil => 1
  | .ptr d => uptoBulk d + 1
  | .slice elems spare => uptoBulkAll elems + uptoBulkAll spare + 1
  | .agg parts => uptoBulkAll parts + 1
  | .iface _ d => uptoBulk d + 1
  | .map entries => uptoBulkEntries entries + 1
  | .held _ => 1
def uptoBulkAll {H : Type} : List (DataW H) → Nat
  | [] => 0
  | d :: r => uptoBulk d + uptoBulkAll r
def uptoBulkEntries {H : Type} : List (Lit × DataW H) → Nat
  | [] => 0
  | x :: r => uptoBulkEntry x + uptoBulkEntries r
def uptoBulkEntry {H : Type} : Lit × DataW H → Nat
  | (.string bytes, d) => bytes.length + uptoBulk d + 1
  | (_, d) => uptoBulk d + 1
 end
def uptoSmall : (H : Type) → List (DataW H) → Bool := fun _ ds => decide (uptoBulkAll ds ≤ 1048576)
def OpenSpec.upto (s : _root_.Go.ChangeSpec) : _root_.Go.OpenSpec := { _root_.Go.OpenSpec.ofChange s with cond := some uptoSmall }

/-- 'bedrocklaw11.FloodKeeps', WHERE WHAT IT READS IS OF BULK AT MOST 1048576: true; the input reads as it did. -/
def floodKeepsUptoRow : OpenClaim := { program := "ytlhjjmfbifhgfaa", sum := "bc4459a7b2e5d1dbdcc05eef586bb0c16c809ddd38bf494884e76d89aa4c399b", func := "bedrock/bedrocklaw11.FloodKeeps", spec := "floodKeeps", inPlace := ["maps.clone"], unfollowed := true, recurses := true, plainKeys := false, apart := false, narrowed := true }
def FloodKeepsUptoSaid : Prop := floodKeepsUptoRow.holds Try.pinned (OpenSpec.upto floodKeepsSpec)

/-- 'bedrocklaw11.FloodKnown', WHERE WHAT IT READS IS OF BULK AT MOST 1048576: true; the input reads as it did. -/
def floodKnownUptoRow : OpenClaim := { program := "ytlhjjmfbifhgfaa", sum := "bc4459a7b2e5d1dbdcc05eef586bb0c16c809ddd38bf494884e76d89aa4c399b", func := "bedrock/bedrocklaw11.FloodKnown", spec := "floodKnown", inPlace := ["maps.clone"], unfollowed := true, recurses := true, plainKeys := false, apart := false, narrowed := true }
def FloodKnownUptoSaid : Prop := floodKnownUptoRow.holds Try.pinned (OpenSpec.upto floodKnownSpec)

/-- 'bedrocklaw11.FloodBack', WHERE WHAT IT READS IS OF BULK AT MOST 1048576: true; the input reads as it did. -/
def floodBackUptoRow : OpenClaim := { program := "ytlhjjmfbifhgfaa", sum := "bc4459a7b2e5d1dbdcc05eef586bb0c16c809ddd38bf494884e76d89aa4c399b", func := "bedrock/bedrocklaw11.FloodBack", spec := "floodBack", inPlace := ["maps.clone"], unfollowed := true, recurses := true, plainKeys := false, apart := false, narrowed := true }
def FloodBackUptoSaid : Prop := floodBackUptoRow.holds Try.pinned (OpenSpec.upto floodBackSpec)

end Rows
end Go.Proofs.Ytlhjjmfbifhgfaa
