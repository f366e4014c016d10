/- Walks and plain facts. Texts merged: PrintSpecsApartFacts. Condition: none beyond what each says. -/
import Derived.ShutString
import Derived.ChangeOld
import Derived.Test.YteailgjiifdgcaaGreatDoorPrintSpecsApartAll1
set_option linter.unusedVariables false
set_option linter.unusedSimpArgs false
/- Closed facts of the row PrintSpecsApart: what the program's text tells by computing. No condition. -/
namespace Go.Proofs.YteailgjiifdgcaaGreatDoor.printSpecsApartRow
open Go.ChangeShapes Go.WideShapes Go.ChangeAt Go.RowKit
open Go.ChangeMaps (open_string shut_string)

theorem cInPlace : (Rows.printSpecsApartRow.inPlace == Tryz.pinned.checked.prog.inPlace 8) = true := by kernel_rfl
theorem cUnfollowed : (Rows.printSpecsApartRow.unfollowed == Tryz.pinned.checked.prog.unfollowed 8) = true := by kernel_rfl
theorem cRecurses : (Rows.printSpecsApartRow.recurses == Tryz.pinned.checked.prog.recurses 8) = true := by kernel_rfl
theorem cNamed : (Rows.printSpecsApartRow.named == Tryz.pinned.checked.prog.varsNamed 8) = true := by kernel_rfl
theorem cPlain : (Rows.printSpecsApartRow.plainKeys == Tryz.pinned.checked.prog.plainKeys) = true := by kernel_rfl
theorem cMake : (Tryz.pinned.checked.prog.make == some Rows.printSpecsApartRow.make) = true := by kernel_rfl
theorem cLifted : (Rows.printSpecsApartRow.lifted == Tryz.pinned.checked.prog.liftsFinal) = true := by kernel_rfl
theorem cHeard : Tryz.pinned.checked.prog.stopsHeard = true := by kernel_rfl
theorem cEnter : Tryz.pinned.checked.prog.mayEnter = true := by kernel_rfl
theorem cLaid : laidOutB Tryz.pinned.checked.prog = true := by kernel_rfl
theorem cMaps : mapsRowed Tryz.pinned.checked.prog = true := by kernel_rfl
theorem closed : joinedFacts Tryz.pinned.checked.prog 8 Tryz.f8 (OpenSpec.ofChange Rows.printSpecsApartSpec).bare Rows.printSpecsApartRow = true := by
 unfold joinedFacts
 rw [cInPlace, cUnfollowed, cRecurses, cNamed, cPlain, cMake, cLifted, cHeard, cEnter, cLaid, cMaps]
 kernel_rfl
end Go.Proofs.YteailgjiifdgcaaGreatDoor.printSpecsApartRow
