/- Walks and plain facts. Texts merged: RequestJoinsFacts. Condition: none beyond what each says. -/
import Derived.ShutString
import Derived.ChangeOld
import Derived.Test.YteailgjiifdgcaaGreatDoorRequestJoinsAll1
set_option linter.unusedVariables false
set_option linter.unusedSimpArgs false
/- Closed facts of the row RequestJoins: what the program's text tells by computing. No condition. -/
namespace Go.Proofs.YteailgjiifdgcaaGreatDoor.requestJoinsRow
open Go.ChangeShapes Go.WideShapes Go.ChangeAt Go.RowKit
open Go.ChangeMaps (open_string shut_string)

theorem cInPlace : (Rows.requestJoinsRow.inPlace == Tryz.pinned.checked.prog.inPlace 6) = true := by kernel_rfl
theorem cUnfollowed : (Rows.requestJoinsRow.unfollowed == Tryz.pinned.checked.prog.unfollowed 6) = true := by kernel_rfl
theorem cRecurses : (Rows.requestJoinsRow.recurses == Tryz.pinned.checked.prog.recurses 6) = true := by kernel_rfl
theorem cNamed : (Rows.requestJoinsRow.named == Tryz.pinned.checked.prog.varsNamed 6) = true := by kernel_rfl
theorem cPlain : (Rows.requestJoinsRow.plainKeys == Tryz.pinned.checked.prog.plainKeys) = true := by kernel_rfl
theorem cMake : (Tryz.pinned.checked.prog.make == some Rows.requestJoinsRow.make) = true := by kernel_rfl
theorem cLifted : (Rows.requestJoinsRow.lifted == Tryz.pinned.checked.prog.liftsFinal) = true := by kernel_rfl
theorem cHeard : Tryz.pinned.checked.prog.stopsHeard = true := by kernel_rfl
theorem cEnter : Tryz.pinned.checked.prog.mayEnter = true := by kernel_rfl
theorem cLaid : laidOutB Tryz.pinned.checked.prog = true := by kernel_rfl
theorem cMaps : mapsRowed Tryz.pinned.checked.prog = true := by kernel_rfl
theorem closed : joinedFacts Tryz.pinned.checked.prog 6 Tryz.f6 (OpenSpec.ofChange Rows.requestJoinsSpec).bare Rows.requestJoinsRow = true := by
 unfold joinedFacts
 rw [cInPlace, cUnfollowed, cRecurses, cNamed, cPlain, cMake, cLifted, cHeard, cEnter, cLaid, cMaps]
 kernel_rfl
end Go.Proofs.YteailgjiifdgcaaGreatDoor.requestJoinsRow
