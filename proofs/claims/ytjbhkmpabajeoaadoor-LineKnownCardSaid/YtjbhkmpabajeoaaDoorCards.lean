/-
  DERIVED. GIVEN WITH THE SEED: THE CARDS: each row of YtjbhkmpabajeoaaDoorRows.lean that lists a variable, with what it lists TIED to the program's text (the seventh form; the later family's looks); each row that meets fmt, with fmt's text TOLD by the authors' own Lean function (tested against real Go, not proved from fmt's source: count such statements apart). THE CARD IS WHAT COUNTS. Prove the row's statement (the work); the ties are given (YtjbhkmpabajeoaaDoorTie.lean); close each card by the builder's one call (the guide's Derived/Test/ToyasCard.lean, 'card_holds'). Laid BY PROGRAM, IN A SANDBOX (cutbox-door.mjs). By AI agents, Wed Nov 11 2026. No macro, syntax, notation, axiom, sorry.
-/
import Derived.Test.YtjbhkmpabajeoaaDoorRows
import GoSem.ClaimSeven
namespace Go.Proofs.YtjbhkmpabajeoaaDoor
namespace Rows

/-- THE TIED CARD OF 'bedrocklaw18.LinePuts'. -/
def linePutsCard : Claim7 := { stood := { row := linePutsRow, standIns := [], harness := (true, "a8136d9bfc31d3123bb067373dde738c742fd51d4fb3ec8232dbeb889027dcd5"), looks := true }, kinds := [], alts := [], laidByText := true, laidKinds := [.data, .data, .data, .data, .sentinel, .sentinel, .pinned], laidTests := true, laidLooks := .later }
def LinePutsCardSaid : Prop := Claim7.holds Tryd.pinned (.plain (OpenSpec.ofChange linePutsSpec)) linePutsCard

/-- THE TIED CARD OF 'bedrocklaw18.LineGets'. -/
def lineGetsCard : Claim7 := { stood := { row := lineGetsRow, standIns := [], harness := (true, "a8136d9bfc31d3123bb067373dde738c742fd51d4fb3ec8232dbeb889027dcd5"), looks := true }, kinds := [], alts := [], laidByText := true, laidKinds := [.data, .data, .data, .data, .sentinel, .sentinel, .pinned], laidTests := true, laidLooks := .later }
def LineGetsCardSaid : Prop := Claim7.holds Tryd.pinned (.plain (OpenSpec.ofChange lineGetsSpec)) lineGetsCard

/-- THE TIED CARD OF 'bedrocklaw18.LineBack'. -/
def lineBackCard : Claim7 := { stood := { row := lineBackRow, standIns := [], harness := (true, "a8136d9bfc31d3123bb067373dde738c742fd51d4fb3ec8232dbeb889027dcd5"), looks := true }, kinds := [], alts := [], laidByText := true, laidKinds := [.data, .data, .data, .data, .sentinel, .sentinel, .pinned], laidTests := true, laidLooks := .later }
def LineBackCardSaid : Prop := Claim7.holds Tryd.pinned (.plain (OpenSpec.ofChange lineBackSpec)) lineBackCard

/-- THE TIED CARD OF 'bedrocklaw18.LineStrict'. -/
def lineStrictCard : Claim7 := { stood := { row := lineStrictRow, standIns := [], harness := (true, "a8136d9bfc31d3123bb067373dde738c742fd51d4fb3ec8232dbeb889027dcd5"), looks := true }, kinds := [], alts := [], laidByText := true, laidKinds := [.data, .data, .data, .data, .sentinel, .sentinel, .pinned], laidTests := true, laidLooks := .later }
def LineStrictCardSaid : Prop := Claim7.holds Tryd.pinned (.plain (OpenSpec.ofChange lineStrictSpec)) lineStrictCard

/-- THE TIED CARD OF 'bedrocklaw18.LineShort'. -/
def lineShortCard : Claim7 := { stood := { row := lineShortRow, standIns := [], harness := (true, "a8136d9bfc31d3123bb067373dde738c742fd51d4fb3ec8232dbeb889027dcd5"), looks := true }, kinds := [], alts := [], laidByText := true, laidKinds := [.data, .data, .data, .data, .sentinel, .sentinel, .pinned], laidTests := true, laidLooks := .later }
def LineShortCardSaid : Prop := Claim7.holds Tryd.pinned (.plain (OpenSpec.ofChange lineShortSpec)) lineShortCard

/-- THE TIED CARD OF 'bedrocklaw18.LineFields'. -/
def lineFieldsCard : Claim7 := { stood := { row := lineFieldsRow, standIns := [], harness := (true, "a8136d9bfc31d3123bb067373dde738c742fd51d4fb3ec8232dbeb889027dcd5"), looks := true }, kinds := [], alts := [], laidByText := true, laidKinds := [.data, .data, .data, .data, .sentinel, .sentinel, .pinned], laidTests := true, laidLooks := .later }
def LineFieldsCardSaid : Prop := Claim7.holds Tryd.pinned (.plain (OpenSpec.ofChange lineFieldsSpec)) lineFieldsCard

/-- THE TIED CARD OF 'bedrocklaw18.LineAnswers'. -/
def lineAnswersCard : Claim7 := { stood := { row := lineAnswersRow, standIns := [], harness := (true, "a8136d9bfc31d3123bb067373dde738c742fd51d4fb3ec8232dbeb889027dcd5"), looks := true }, kinds := [], alts := [], laidByText := true, laidKinds := [.data, .data, .data, .data, .sentinel, .sentinel, .pinned], laidTests := true, laidLooks := .later }
def LineAnswersCardSaid : Prop := Claim7.holds Tryd.pinned (.plain (OpenSpec.ofChange lineAnswersSpec)) lineAnswersCard

/-- THE TIED CARD OF 'bedrocklaw18.LineKnown'. -/
def lineKnownCard : Claim7 := { stood := { row := lineKnownRow, standIns := [], harness := (true, "a8136d9bfc31d3123bb067373dde738c742fd51d4fb3ec8232dbeb889027dcd5"), looks := true }, kinds := [], alts := [], laidByText := true, laidKinds := [.data, .data, .data, .data, .sentinel, .sentinel, .pinned], laidTests := true, laidLooks := .later }
def LineKnownCardSaid : Prop := Claim7.holds Tryd.pinned (.plain (OpenSpec.ofChange lineKnownSpec)) lineKnownCard

/-- THE SECOND FORM's CARD OF 'bedrocklaw18.LinePuts'. -/
def linePutsUptoCard : Claim7 := { stood := { row := linePutsUptoRow, standIns := [], harness := (true, "a8136d9bfc31d3123bb067373dde738c742fd51d4fb3ec8232dbeb889027dcd5"), looks := true }, kinds := [], alts := [], laidByText := true, laidKinds := [.data, .data, .data, .data, .sentinel, .sentinel, .pinned], laidTests := true, laidLooks := .later }
def LinePutsUptoCardSaid : Prop := Claim7.holds Tryd.pinned (.plain (OpenSpec.upto linePutsSpec)) linePutsUptoCard

/-- THE SECOND FORM's CARD OF 'bedrocklaw18.LineGets'. -/
def lineGetsUptoCard : Claim7 := { stood := { row := lineGetsUptoRow, standIns := [], harness := (true, "a8136d9bfc31d3123bb067373dde738c742fd51d4fb3ec8232dbeb889027dcd5"), looks := true }, kinds := [], alts := [], laidByText := true, laidKinds := [.data, .data, .data, .data, .sentinel, .sentinel, .pinned], laidTests := true, laidLooks := .later }
def LineGetsUptoCardSaid : Prop := Claim7.holds Tryd.pinned (.plain (OpenSpec.upto lineGetsSpec)) lineGetsUptoCard

/-- THE SECOND FORM's CARD OF 'bedrocklaw18.LineBack'. -/
def lineBackUptoCard : Claim7 := { stood := { row := lineBackUptoRow, standIns := [], harness := (true, "a8136d9bfc31d3123bb067373dde738c742fd51d4fb3ec8232dbeb889027dcd5"), looks := true }, kinds := [], alts := [], laidByText := true, laidKinds := [.data, .data, .data, .data, .sentinel, .sentinel, .pinned], laidTests := true, laidLooks := .later }
def LineBackUptoCardSaid : Prop := Claim7.holds Tryd.pinned (.plain (OpenSpec.upto lineBackSpec)) lineBackUptoCard

/-- THE SECOND FORM's CARD OF 'bedrocklaw18.LineStrict'. -/
def lineStrictUptoCard : Claim7 := { stood := { row := lineStrictUptoRow, standIns := [], harness := (true, "a8136d9bfc31d3123bb067373dde738c742fd51d4fb3ec8232dbeb889027dcd5"), looks := true }, kinds := [], alts := [], laidByText := true, laidKinds := [.data, .data, .data, .data, .sentinel, .sentinel, .pinned], laidTests := true, laidLooks := .later }
def LineStrictUptoCardSaid : Prop := Claim7.holds Tryd.pinned (.plain (OpenSpec.upto lineStrictSpec)) lineStrictUptoCard

/-- THE SECOND FORM's CARD OF 'bedrocklaw18.LineShort'. -/
def lineShortUptoCard : Claim7 := { stood := { row := lineShortUptoRow, standIns := [], harness := (true, "a8136d9bfc31d3123bb067373dde738c742fd51d4fb3ec8232dbeb889027dcd5"), looks := true }, kinds := [], alts := [], laidByText := true, laidKinds := [.data, .data, .data, .data, .sentinel, .sentinel, .pinned], laidTests := true, laidLooks := .later }
def LineShortUptoCardSaid : Prop := Claim7.holds Tryd.pinned (.plain (OpenSpec.upto lineShortSpec)) lineShortUptoCard

/-- THE SECOND FORM's CARD OF 'bedrocklaw18.LineFields'. -/
def lineFieldsUptoCard : Claim7 := { stood := { row := lineFieldsUptoRow, standIns := [], harness := (true, "a8136d9bfc31d3123bb067373dde738c742fd51d4fb3ec8232dbeb889027dcd5"), looks := true }, kinds := [], alts := [], laidByText := true, laidKinds := [.data, .data, .data, .data, .sentinel, .sentinel, .pinned], laidTests := true, laidLooks := .later }
def LineFieldsUptoCardSaid : Prop := Claim7.holds Tryd.pinned (.plain (OpenSpec.upto lineFieldsSpec)) lineFieldsUptoCard

/-- THE SECOND FORM's CARD OF 'bedrocklaw18.LineAnswers'. -/
def lineAnswersUptoCard : Claim7 := { stood := { row := lineAnswersUptoRow, standIns := [], harness := (true, "a8136d9bfc31d3123bb067373dde738c742fd51d4fb3ec8232dbeb889027dcd5"), looks := true }, kinds := [], alts := [], laidByText := true, laidKinds := [.data, .data, .data, .data, .sentinel, .sentinel, .pinned], laidTests := true, laidLooks := .later }
def LineAnswersUptoCardSaid : Prop := Claim7.holds Tryd.pinned (.plain (OpenSpec.upto lineAnswersSpec)) lineAnswersUptoCard

/-- THE SECOND FORM's CARD OF 'bedrocklaw18.LineKnown'. -/
def lineKnownUptoCard : Claim7 := { stood := { row := lineKnownUptoRow, standIns := [], harness := (true, "a8136d9bfc31d3123bb067373dde738c742fd51d4fb3ec8232dbeb889027dcd5"), looks := true }, kinds := [], alts := [], laidByText := true, laidKinds := [.data, .data, .data, .data, .sentinel, .sentinel, .pinned], laidTests := true, laidLooks := .later }
def LineKnownUptoCardSaid : Prop := Claim7.holds Tryd.pinned (.plain (OpenSpec.upto lineKnownSpec)) lineKnownUptoCard
end Rows
end Go.Proofs.YtjbhkmpabajeoaaDoor
