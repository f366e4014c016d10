/-
  DERIVED. GIVEN WITH THE SEED: THE CARDS: each row of YteailgjiifdgcaaGreatDoorRows.lean that lists a variable, with what it lists TIED to the program's text (the seventh form; the later family's looks); each row that meets fmt, with fmt's text TOLD by the authors' own Lean function (tested against real Go, not proved from fmt's source: count such statements apart). THE CARD IS WHAT COUNTS. Prove the row's statement (the work); the ties are given (YteailgjiifdgcaaGreatDoorTie.lean); close each card by the builder's one call (the guide's Derived/Test/ToyasCard.lean, 'card_holds'). Laid BY PROGRAM, IN A SANDBOX (cutbox-door.mjs). By AI agents, Wed Nov 11 2026. No macro, syntax, notation, axiom, sorry.
-/
import Derived.Test.YteailgjiifdgcaaGreatDoorRows
import GoSem.ClaimSeven
namespace Go.Proofs.YteailgjiifdgcaaGreatDoor
namespace Rows

/-- THE TIED CARD OF 'cooperlaw03.SpansReads'. -/
def spansReadsCard : Claim7 := { stood := { row := spansReadsRow, standIns := [], harness := (true, "e812a11454f5767ee8daee05c57c88db3a80877dc03bffa2dacae47952a57586"), looks := true }, kinds := [], alts := [], laidByText := true, laidKinds := [.data, .data, .data, .data, .sentinel, .sentinel, .pinned], laidTests := true, laidLooks := .later }
def SpansReadsCardSaid : Prop := Claim7.holds Tryz.pinned (.plain (OpenSpec.ofChange spansReadsSpec)) spansReadsCard

/-- THE TIED CARD OF 'cooperlaw03.SpansShares'. -/
def spansSharesCard : Claim7 := { stood := { row := spansSharesRow, standIns := [], harness := (true, "e812a11454f5767ee8daee05c57c88db3a80877dc03bffa2dacae47952a57586"), looks := true }, kinds := [], alts := [], laidByText := true, laidKinds := [.data, .data, .data, .data, .sentinel, .sentinel, .pinned], laidTests := true, laidLooks := .later }
def SpansSharesCardSaid : Prop := Claim7.holds Tryz.pinned (.plain (OpenSpec.ofChange spansSharesSpec)) spansSharesCard

/-- THE TIED CARD OF 'cooperlaw08.RequestParses'. -/
def requestParsesCard : Claim7 := { stood := { row := requestParsesRow, standIns := [], harness := (true, "e812a11454f5767ee8daee05c57c88db3a80877dc03bffa2dacae47952a57586"), looks := true }, kinds := [], alts := [], laidByText := true, laidKinds := [.data, .data, .data, .data, .sentinel, .sentinel, .pinned], laidTests := true, laidLooks := .later }
def RequestParsesCardSaid : Prop := Claim7.holds Tryz.pinned (.plain (OpenSpec.ofChange requestParsesSpec)) requestParsesCard

/-- THE TIED CARD OF 'cooperlaw08.RequestJoins'. -/
def requestJoinsCard : Claim7 := { stood := { row := requestJoinsRow, standIns := [], harness := (true, "e812a11454f5767ee8daee05c57c88db3a80877dc03bffa2dacae47952a57586"), looks := true }, kinds := [], alts := [], laidByText := true, laidKinds := [.data, .data, .data, .data, .sentinel, .sentinel, .pinned], laidTests := true, laidLooks := .later }
def RequestJoinsCardSaid : Prop := Claim7.holds Tryz.pinned (.plain (OpenSpec.ofChange requestJoinsSpec)) requestJoinsCard

/-- THE TIED CARD OF 'cooperlaw07.PrintSpecs'. -/
def printSpecsCard : Claim7 := { stood := { row := printSpecsRow, standIns := [], harness := (true, "e812a11454f5767ee8daee05c57c88db3a80877dc03bffa2dacae47952a57586"), looks := true }, kinds := [], alts := [], laidByText := true, laidKinds := [.data, .data, .data, .data, .sentinel, .sentinel, .pinned], laidTests := true, laidLooks := .later }
def PrintSpecsCardSaid : Prop := Claim7.holds Tryz.pinned (.plain (OpenSpec.ofChange printSpecsSpec)) printSpecsCard

/-- THE TIED CARD OF 'cooperlaw07.PrintSpecsApart'. -/
def printSpecsApartCard : Claim7 := { stood := { row := printSpecsApartRow, standIns := [], harness := (true, "e812a11454f5767ee8daee05c57c88db3a80877dc03bffa2dacae47952a57586"), looks := true }, kinds := [], alts := [], laidByText := true, laidKinds := [.data, .data, .data, .data, .sentinel, .sentinel, .pinned], laidTests := true, laidLooks := .later }
def PrintSpecsApartCardSaid : Prop := Claim7.holds Tryz.pinned (.plain (OpenSpec.ofChange printSpecsApartSpec)) printSpecsApartCard

/-- THE TIED CARD OF 'cooperlaw07.PrintSame'. -/
def printSameCard : Claim7 := { stood := { row := printSameRow, standIns := [], harness := (true, "e812a11454f5767ee8daee05c57c88db3a80877dc03bffa2dacae47952a57586"), looks := true }, kinds := [], alts := [], laidByText := true, laidKinds := [.data, .data, .data, .data, .sentinel, .sentinel, .pinned], laidTests := true, laidLooks := .later }
def PrintSameCardSaid : Prop := Claim7.holds Tryz.pinned (.plain (OpenSpec.ofChange printSameSpec)) printSameCard

/-- THE TIED CARD OF 'cooperlaw06.RecipeJoins'. -/
def recipeJoinsCard : Claim7 := { stood := { row := recipeJoinsRow, standIns := [], harness := (true, "e812a11454f5767ee8daee05c57c88db3a80877dc03bffa2dacae47952a57586"), looks := true }, kinds := [], alts := [], laidByText := true, laidKinds := [.data, .data, .data, .data, .sentinel, .sentinel, .pinned], laidTests := true, laidLooks := .later }
def RecipeJoinsCardSaid : Prop := Claim7.holds Tryz.pinned (.plain (OpenSpec.ofChange recipeJoinsSpec)) recipeJoinsCard

/-- THE TIED CARD OF 'cooperlaw08.RequestTexts'. -/
def requestTextsCard : Claim7 := { stood := { row := requestTextsRow, standIns := [], harness := (true, "e812a11454f5767ee8daee05c57c88db3a80877dc03bffa2dacae47952a57586"), looks := true }, kinds := [], alts := [], laidByText := true, laidKinds := [.data, .data, .data, .data, .sentinel, .sentinel, .pinned], laidTests := true, laidLooks := .later }
def RequestTextsCardSaid : Prop := Claim7.holds Tryz.pinned (.plain (OpenSpec.ofChange requestTextsSpec)) requestTextsCard

/-- THE TIED CARD OF 'cooperlaw07.PrintRecipe'. -/
def printRecipeCard : Claim7 := { stood := { row := printRecipeRow, standIns := [], harness := (true, "e812a11454f5767ee8daee05c57c88db3a80877dc03bffa2dacae47952a57586"), looks := true }, kinds := [], alts := [], laidByText := true, laidKinds := [.data, .data, .data, .data, .sentinel, .sentinel, .pinned], laidTests := true, laidLooks := .later }
def PrintRecipeCardSaid : Prop := Claim7.holds Tryz.pinned (.plain (OpenSpec.ofChange printRecipeSpec)) printRecipeCard

/-- THE TIED CARD OF 'cooperlaw07.PrintParsed'. -/
def printParsedCard : Claim7 := { stood := { row := printParsedRow, standIns := [], harness := (true, "e812a11454f5767ee8daee05c57c88db3a80877dc03bffa2dacae47952a57586"), looks := true }, kinds := [], alts := [], laidByText := true, laidKinds := [.data, .data, .data, .data, .sentinel, .sentinel, .pinned], laidTests := true, laidLooks := .later }
def PrintParsedCardSaid : Prop := Claim7.holds Tryz.pinned (.plain (OpenSpec.ofChange printParsedSpec)) printParsedCard

/-- THE TIED CARD OF 'cooperlaw07.PrintApart'. -/
def printApartCard : Claim7 := { stood := { row := printApartRow, standIns := [], harness := (true, "e812a11454f5767ee8daee05c57c88db3a80877dc03bffa2dacae47952a57586"), looks := true }, kinds := [], alts := [], laidByText := true, laidKinds := [.data, .data, .data, .data, .sentinel, .sentinel, .pinned], laidTests := true, laidLooks := .later }
def PrintApartCardSaid : Prop := Claim7.holds Tryz.pinned (.plain (OpenSpec.ofChange printApartSpec)) printApartCard

/-- THE SECOND FORM's CARD OF 'cooperlaw03.SpansReads'. -/
def spansReadsUptoCard : Claim7 := { stood := { row := spansReadsUptoRow, standIns := [], harness := (true, "e812a11454f5767ee8daee05c57c88db3a80877dc03bffa2dacae47952a57586"), looks := true }, kinds := [], alts := [], laidByText := true, laidKinds := [.data, .data, .data, .data, .sentinel, .sentinel, .pinned], laidTests := true, laidLooks := .later }
def SpansReadsUptoCardSaid : Prop := Claim7.holds Tryz.pinned (.plain (OpenSpec.upto spansReadsSpec)) spansReadsUptoCard

/-- THE SECOND FORM's CARD OF 'cooperlaw03.SpansShares'. -/
def spansSharesUptoCard : Claim7 := { stood := { row := spansSharesUptoRow, standIns := [], harness := (true, "e812a11454f5767ee8daee05c57c88db3a80877dc03bffa2dacae47952a57586"), looks := true }, kinds := [], alts := [], laidByText := true, laidKinds := [.data, .data, .data, .data, .sentinel, .sentinel, .pinned], laidTests := true, laidLooks := .later }
def SpansSharesUptoCardSaid : Prop := Claim7.holds Tryz.pinned (.plain (OpenSpec.upto spansSharesSpec)) spansSharesUptoCard

/-- THE SECOND FORM's CARD OF 'cooperlaw08.RequestParses'. -/
def requestParsesUptoCard : Claim7 := { stood := { row := requestParsesUptoRow, standIns := [], harness := (true, "e812a11454f5767ee8daee05c57c88db3a80877dc03bffa2dacae47952a57586"), looks := true }, kinds := [], alts := [], laidByText := true, laidKinds := [.data, .data, .data, .data, .sentinel, .sentinel, .pinned], laidTests := true, laidLooks := .later }
def RequestParsesUptoCardSaid : Prop := Claim7.holds Tryz.pinned (.plain (OpenSpec.upto requestParsesSpec)) requestParsesUptoCard

/-- THE SECOND FORM's CARD OF 'cooperlaw08.RequestJoins'. -/
def requestJoinsUptoCard : Claim7 := { stood := { row := requestJoinsUptoRow, standIns := [], harness := (true, "e812a11454f5767ee8daee05c57c88db3a80877dc03bffa2dacae47952a57586"), looks := true }, kinds := [], alts := [], laidByText := true, laidKinds := [.data, .data, .data, .data, .sentinel, .sentinel, .pinned], laidTests := true, laidLooks := .later }
def RequestJoinsUptoCardSaid : Prop := Claim7.holds Tryz.pinned (.plain (OpenSpec.upto requestJoinsSpec)) requestJoinsUptoCard

/-- THE SECOND FORM's CARD OF 'cooperlaw07.PrintSpecs'. -/
def printSpecsUptoCard : Claim7 := { stood := { row := printSpecsUptoRow, standIns := [], harness := (true, "e812a11454f5767ee8daee05c57c88db3a80877dc03bffa2dacae47952a57586"), looks := true }, kinds := [], alts := [], laidByText := true, laidKinds := [.data, .data, .data, .data, .sentinel, .sentinel, .pinned], laidTests := true, laidLooks := .later }
def PrintSpecsUptoCardSaid : Prop := Claim7.holds Tryz.pinned (.plain (OpenSpec.upto printSpecsSpec)) printSpecsUptoCard

/-- THE SECOND FORM's CARD OF 'cooperlaw07.PrintSpecsApart'. -/
def printSpecsApartUptoCard : Claim7 := { stood := { row := printSpecsApartUptoRow, standIns := [], harness := (true, "e812a11454f5767ee8daee05c57c88db3a80877dc03bffa2dacae47952a57586"), looks := true }, kinds := [], alts := [], laidByText := true, laidKinds := [.data, .data, .data, .data, .sentinel, .sentinel, .pinned], laidTests := true, laidLooks := .later }
def PrintSpecsApartUptoCardSaid : Prop := Claim7.holds Tryz.pinned (.plain (OpenSpec.upto printSpecsApartSpec)) printSpecsApartUptoCard

/-- THE SECOND FORM's CARD OF 'cooperlaw07.PrintSame'. -/
def printSameUptoCard : Claim7 := { stood := { row := printSameUptoRow, standIns := [], harness := (true, "e812a11454f5767ee8daee05c57c88db3a80877dc03bffa2dacae47952a57586"), looks := true }, kinds := [], alts := [], laidByText := true, laidKinds := [.data, .data, .data, .data, .sentinel, .sentinel, .pinned], laidTests := true, laidLooks := .later }
def PrintSameUptoCardSaid : Prop := Claim7.holds Tryz.pinned (.plain (OpenSpec.upto printSameSpec)) printSameUptoCard

/-- THE SECOND FORM's CARD OF 'cooperlaw06.RecipeJoins'. -/
def recipeJoinsUptoCard : Claim7 := { stood := { row := recipeJoinsUptoRow, standIns := [], harness := (true, "e812a11454f5767ee8daee05c57c88db3a80877dc03bffa2dacae47952a57586"), looks := true }, kinds := [], alts := [], laidByText := true, laidKinds := [.data, .data, .data, .data, .sentinel, .sentinel, .pinned], laidTests := true, laidLooks := .later }
def RecipeJoinsUptoCardSaid : Prop := Claim7.holds Tryz.pinned (.plain (OpenSpec.upto recipeJoinsSpec)) recipeJoinsUptoCard

/-- THE SECOND FORM's CARD OF 'cooperlaw08.RequestTexts'. -/
def requestTextsUptoCard : Claim7 := { stood := { row := requestTextsUptoRow, standIns := [], harness := (true, "e812a11454f5767ee8daee05c57c88db3a80877dc03bffa2dacae47952a57586"), looks := true }, kinds := [], alts := [], laidByText := true, laidKinds := [.data, .data, .data, .data, .sentinel, .sentinel, .pinned], laidTests := true, laidLooks := .later }
def RequestTextsUptoCardSaid : Prop := Claim7.holds Tryz.pinned (.plain (OpenSpec.upto requestTextsSpec)) requestTextsUptoCard

/-- THE SECOND FORM's CARD OF 'cooperlaw07.PrintRecipe'. -/
def printRecipeUptoCard : Claim7 := { stood := { row := printRecipeUptoRow, standIns := [], harness := (true, "e812a11454f5767ee8daee05c57c88db3a80877dc03bffa2dacae47952a57586"), looks := true }, kinds := [], alts := [], laidByText := true, laidKinds := [.data, .data, .data, .data, .sentinel, .sentinel, .pinned], laidTests := true, laidLooks := .later }
def PrintRecipeUptoCardSaid : Prop := Claim7.holds Tryz.pinned (.plain (OpenSpec.upto printRecipeSpec)) printRecipeUptoCard

/-- THE SECOND FORM's CARD OF 'cooperlaw07.PrintParsed'. -/
def printParsedUptoCard : Claim7 := { stood := { row := printParsedUptoRow, standIns := [], harness := (true, "e812a11454f5767ee8daee05c57c88db3a80877dc03bffa2dacae47952a57586"), looks := true }, kinds := [], alts := [], laidByText := true, laidKinds := [.data, .data, .data, .data, .sentinel, .sentinel, .pinned], laidTests := true, laidLooks := .later }
def PrintParsedUptoCardSaid : Prop := Claim7.holds Tryz.pinned (.plain (OpenSpec.upto printParsedSpec)) printParsedUptoCard

/-- THE SECOND FORM's CARD OF 'cooperlaw07.PrintApart'. -/
def printApartUptoCard : Claim7 := { stood := { row := printApartUptoRow, standIns := [], harness := (true, "e812a11454f5767ee8daee05c57c88db3a80877dc03bffa2dacae47952a57586"), looks := true }, kinds := [], alts := [], laidByText := true, laidKinds := [.data, .data, .data, .data, .sentinel, .sentinel, .pinned], laidTests := true, laidLooks := .later }
def PrintApartUptoCardSaid : Prop := Claim7.holds Tryz.pinned (.plain (OpenSpec.upto printApartSpec)) printApartUptoCard
end Rows
end Go.Proofs.YteailgjiifdgcaaGreatDoor
