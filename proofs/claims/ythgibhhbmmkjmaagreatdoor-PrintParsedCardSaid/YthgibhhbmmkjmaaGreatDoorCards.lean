/-
  DERIVED. GIVEN WITH THE SEED: THE CARDS: each row of YthgibhhbmmkjmaaGreatDoorRows.lean that lists a variable, with what it lists TIED to the program's text (the seventh form; the later family's looks); each row that meets fmt, with fmt's text TOLD by the authors' own Lean function (tested against real Go, not proved from fmt's source: count such statements apart). THE CARD IS WHAT COUNTS. Prove the row's statement (the work); the ties are given (YthgibhhbmmkjmaaGreatDoorTie.lean); close each card by the builder's one call (the guide's Derived/Test/ToyasCard.lean, 'card_holds'). Laid BY PROGRAM, IN A SANDBOX (cutbox-door.mjs). By AI agents, Wed Nov 11 2026. No macro, syntax, notation, axiom, sorry.
-/
import Derived.Test.YthgibhhbmmkjmaaGreatDoorRows
import GoSem.ClaimSeven
namespace Go.Proofs.YthgibhhbmmkjmaaGreatDoor
namespace Rows

/-- THE TIED CARD OF 'cooperlaw07.PrintRecipe'. -/
def printRecipeCard : Claim7 := { stood := { row := printRecipeRow, standIns := [], harness := (true, "34044dc59b33334b17b831cd6fb0060e760af3ab323dfeff328b3a3cd4b7bbf4"), looks := true }, kinds := [], alts := [], laidByText := true, laidKinds := [.data, .data, .data, .data, .sentinel, .sentinel, .pinned], laidTests := true, laidLooks := .later }
def PrintRecipeCardSaid : Prop := Claim7.holds Tryz.pinned (.plain (OpenSpec.ofChange printRecipeSpec)) printRecipeCard

/-- THE TIED CARD OF 'cooperlaw07.PrintParsed'. -/
def printParsedCard : Claim7 := { stood := { row := printParsedRow, standIns := [], harness := (true, "34044dc59b33334b17b831cd6fb0060e760af3ab323dfeff328b3a3cd4b7bbf4"), looks := true }, kinds := [], alts := [], laidByText := true, laidKinds := [.data, .data, .data, .data, .sentinel, .sentinel, .pinned], laidTests := true, laidLooks := .later }
def PrintParsedCardSaid : Prop := Claim7.holds Tryz.pinned (.plain (OpenSpec.ofChange printParsedSpec)) printParsedCard

/-- THE TIED CARD OF 'cooperlaw07.PrintApart'. -/
def printApartCard : Claim7 := { stood := { row := printApartRow, standIns := [], harness := (true, "34044dc59b33334b17b831cd6fb0060e760af3ab323dfeff328b3a3cd4b7bbf4"), looks := true }, kinds := [], alts := [], laidByText := true, laidKinds := [.data, .data, .data, .data, .sentinel, .sentinel, .pinned], laidTests := true, laidLooks := .later }
def PrintApartCardSaid : Prop := Claim7.holds Tryz.pinned (.plain (OpenSpec.ofChange printApartSpec)) printApartCard

/-- THE SECOND FORM's CARD OF 'cooperlaw07.PrintRecipe'. -/
def printRecipeUptoCard : Claim7 := { stood := { row := printRecipeUptoRow, standIns := [], harness := (true, "34044dc59b33334b17b831cd6fb0060e760af3ab323dfeff328b3a3cd4b7bbf4"), looks := true }, kinds := [], alts := [], laidByText := true, laidKinds := [.data, .data, .data, .data, .sentinel, .sentinel, .pinned], laidTests := true, laidLooks := .later }
def PrintRecipeUptoCardSaid : Prop := Claim7.holds Tryz.pinned (.plain (OpenSpec.upto printRecipeSpec)) printRecipeUptoCard

/-- THE SECOND FORM's CARD OF 'cooperlaw07.PrintParsed'. -/
def printParsedUptoCard : Claim7 := { stood := { row := printParsedUptoRow, standIns := [], harness := (true, "34044dc59b33334b17b831cd6fb0060e760af3ab323dfeff328b3a3cd4b7bbf4"), looks := true }, kinds := [], alts := [], laidByText := true, laidKinds := [.data, .data, .data, .data, .sentinel, .sentinel, .pinned], laidTests := true, laidLooks := .later }
def PrintParsedUptoCardSaid : Prop := Claim7.holds Tryz.pinned (.plain (OpenSpec.upto printParsedSpec)) printParsedUptoCard

/-- THE SECOND FORM's CARD OF 'cooperlaw07.PrintApart'. -/
def printApartUptoCard : Claim7 := { stood := { row := printApartUptoRow, standIns := [], harness := (true, "34044dc59b33334b17b831cd6fb0060e760af3ab323dfeff328b3a3cd4b7bbf4"), looks := true }, kinds := [], alts := [], laidByText := true, laidKinds := [.data, .data, .data, .data, .sentinel, .sentinel, .pinned], laidTests := true, laidLooks := .later }
def PrintApartUptoCardSaid : Prop := Claim7.holds Tryz.pinned (.plain (OpenSpec.upto printApartSpec)) printApartUptoCard
end Rows
end Go.Proofs.YthgibhhbmmkjmaaGreatDoor
