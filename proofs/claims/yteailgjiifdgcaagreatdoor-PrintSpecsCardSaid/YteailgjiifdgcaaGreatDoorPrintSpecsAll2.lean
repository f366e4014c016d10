/- Walks and plain facts. Texts merged: PrintSpecsFacts. Condition: none beyond what each says. -/
import Derived.ShutString
import Derived.ChangeOld
import Derived.Test.YteailgjiifdgcaaGreatDoorPrintSpecsAll1
set_option linter.unusedVariables false
set_option linter.unusedSimpArgs false
set_option maxRecDepth 10000
set_option maxHeartbeats 4000000
namespace Go.Proofs.YteailgjiifdgcaaGreatDoor
namespace printSpecsRow
open Go.ChangeShapes Go.WideShapes Go.ChangeAt Go.RowKit
open Go.ChangeMaps (open_string shut_string)
theorem cInPlace:(Rows.printSpecsRow.inPlace == Tryz.pinned.checked.prog.inPlace 7)=true:=by kernel_rfl
theorem zqj:(Rows.printSpecsRow.unfollowed == Tryz.pinned.checked.prog.unfollowed 7)=true:=by kernel_rfl
theorem cRecurses:(Rows.printSpecsRow.recurses == Tryz.pinned.checked.prog.recurses 7)=true:=by kernel_rfl
theorem cNamed:(Rows.printSpecsRow.named == Tryz.pinned.checked.prog.varsNamed 7)=true:=by kernel_rfl
theorem cPlain:(Rows.printSpecsRow.plainKeys == Tryz.pinned.checked.prog.plainKeys)=true:=by kernel_rfl
theorem cMake:(Tryz.pinned.checked.prog.make == some Rows.printSpecsRow.make)=true:=by kernel_rfl
theorem cLifted:(Rows.printSpecsRow.lifted == Tryz.pinned.checked.prog.liftsFinal)=true:=by kernel_rfl
theorem cHeard:Tryz.pinned.checked.prog.stopsHeard=true:=by kernel_rfl
theorem cEnter:Tryz.pinned.checked.prog.mayEnter=true:=by kernel_rfl
theorem cLaid:laidOutB Tryz.pinned.checked.prog=true:=by kernel_rfl
theorem cMaps:mapsRowed Tryz.pinned.checked.prog=true:=by kernel_rfl
theorem closed:joinedFacts Tryz.pinned.checked.prog 7 Tryz.f7 (OpenSpec.ofChange Rows.printSpecsSpec).bare Rows.printSpecsRow=true:=by
 unfold joinedFacts
 rw[cInPlace,zqj,cRecurses,cNamed,cPlain,cMake,cLifted,cHeard,cEnter,cLaid,cMaps]
 kernel_rfl
end printSpecsRow
end Go.Proofs.YteailgjiifdgcaaGreatDoor
