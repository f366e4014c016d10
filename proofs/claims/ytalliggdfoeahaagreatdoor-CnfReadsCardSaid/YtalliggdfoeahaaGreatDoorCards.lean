/-
  DERIVED. GIVEN WITH THE SEED: THE CARDS: each row of YtalliggdfoeahaaGreatDoorRows.lean that lists a variable, with what it lists TIED to the program's text (the seventh form; the later family's looks); each row that meets fmt, with fmt's text TOLD by the authors' own Lean function (tested against real Go, not proved from fmt's source: count such statements apart). THE CARD IS WHAT COUNTS. Prove the row's statement (the work); the ties are given (YtalliggdfoeahaaGreatDoorTie.lean); close each card by the builder's one call (the guide's Derived/Test/ToyasCard.lean, 'card_holds'). Laid BY PROGRAM, IN A SANDBOX (cutbox-door.mjs). By AI agents, Wed Nov 11 2026. No macro, syntax, notation, axiom, sorry.
-/
import Derived.Test.YtalliggdfoeahaaGreatDoorRows
import GoSem.ClaimSeven
namespace Go.Proofs.YtalliggdfoeahaaGreatDoor
namespace Rows

/-- THE TIED CARD OF 'cooperlaw12.CnfReads'. -/
def cnfReadsCard : Claim7 := { stood := { row := cnfReadsRow, standIns := [], harness := (true, "acdd2a57da2d2382b272037503003655faf23256a159a4ee63ca0f406baf8bb3"), looks := true }, kinds := [], alts := [], laidByText := true, laidKinds := [.data, .data, .data, .data, .sentinel, .sentinel, .pinned], laidTests := true, laidLooks := .later }
def CnfReadsCardSaid : Prop := Claim7.holds Tryz.pinned (.plain (OpenSpec.ofChange cnfReadsSpec)) cnfReadsCard

/-- THE SECOND FORM's CARD OF 'cooperlaw12.CnfReads'. -/
def cnfReadsUptoCard : Claim7 := { stood := { row := cnfReadsUptoRow, standIns := [], harness := (true, "acdd2a57da2d2382b272037503003655faf23256a159a4ee63ca0f406baf8bb3"), looks := true }, kinds := [], alts := [], laidByText := true, laidKinds := [.data, .data, .data, .data, .sentinel, .sentinel, .pinned], laidTests := true, laidLooks := .later }
def CnfReadsUptoCardSaid : Prop := Claim7.holds Tryz.pinned (.plain (OpenSpec.upto cnfReadsSpec)) cnfReadsUptoCard
end Rows
end Go.Proofs.YtalliggdfoeahaaGreatDoor
