/- Walks and plain facts. Texts merged: PrintSameFacts. Condition: none beyond what each says. -/
import Derived.ShutString
import Derived.ChangeOld
import Derived.Test.YteailgjiifdgcaaGreatDoorPrintSameAll1
set_option linter.unusedVariables false
set_option linter.unusedSimpArgs false
set_option maxRecDepth 10000
set_option maxHeartbeats 4000000
namespace Go.Proofs.YteailgjiifdgcaaGreatDoor
namespace printSameRow
open Go.ChangeShapes Go.WideShapes Go.ChangeAt Go.RowKit
open Go.ChangeMaps (open_string shut_string)
theorem cInPlace:(Rows.printSameRow.inPlace == Tryz.pinned.checked.prog.inPlace 9)=true:=by kernel_rfl
theorem znf:(Rows.printSameRow.unfollowed == Tryz.pinned.checked.prog.unfollowed 9)=true:=by kernel_rfl
theorem cRecurses:(Rows.printSameRow.recurses == Tryz.pinned.checked.prog.recurses 9)=true:=by kernel_rfl
theorem cNamed:(Rows.printSameRow.named == Tryz.pinned.checked.prog.varsNamed 9)=true:=by kernel_rfl
theorem cPlain:(Rows.printSameRow.plainKeys == Tryz.pinned.checked.prog.plainKeys)=true:=by kernel_rfl
theorem cMake:(Tryz.pinned.checked.prog.make == some Rows.printSameRow.make)=true:=by kernel_rfl
theorem cLifted:(Rows.printSameRow.lifted == Tryz.pinned.checked.prog.liftsFinal)=true:=by kernel_rfl
theorem cHeard:Tryz.pinned.checked.prog.stopsHeard=true:=by kernel_rfl
theorem cEnter:Tryz.pinned.checked.prog.mayEnter=true:=by kernel_rfl
theorem cLaid:laidOutB Tryz.pinned.checked.prog=true:=by kernel_rfl
theorem cMaps:mapsRowed Tryz.pinned.checked.prog=true:=by kernel_rfl
theorem closed:joinedFacts Tryz.pinned.checked.prog 9 Tryz.f9 (OpenSpec.ofChange Rows.printSameSpec).bare Rows.printSameRow=true:=by
 unfold joinedFacts
 rw[cInPlace,znf,cRecurses,cNamed,cPlain,cMake,cLifted,cHeard,cEnter,cLaid,cMaps]
 kernel_rfl
end printSameRow
end Go.Proofs.YteailgjiifdgcaaGreatDoor
