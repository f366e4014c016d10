/- Walks and plain facts. Texts merged: PrintApartFacts. Condition: none beyond what each says. -/
import Derived.ShutString
import Derived.ChangeOld
import Derived.Test.YthgibhhbmmkjmaaGreatDoorPrintApartAll1
set_option linter.unusedVariables false
set_option linter.unusedSimpArgs false
set_option maxRecDepth 10000
set_option maxHeartbeats 4000000
namespace Go.Proofs.YthgibhhbmmkjmaaGreatDoor
namespace printApartRow
open Go.ChangeShapes Go.WideShapes Go.ChangeAt Go.RowKit
open Go.ChangeMaps (open_string shut_string)
theorem cInPlace:(Rows.printApartRow.inPlace == Tryz.pinned.checked.prog.inPlace 5)=true:=by kernel_rfl
theorem zre:(Rows.printApartRow.unfollowed == Tryz.pinned.checked.prog.unfollowed 5)=true:=by kernel_rfl
theorem cRecurses:(Rows.printApartRow.recurses == Tryz.pinned.checked.prog.recurses 5)=true:=by kernel_rfl
theorem cNamed:(Rows.printApartRow.named == Tryz.pinned.checked.prog.varsNamed 5)=true:=by kernel_rfl
theorem cPlain:(Rows.printApartRow.plainKeys == Tryz.pinned.checked.prog.plainKeys)=true:=by kernel_rfl
theorem cMake:(Tryz.pinned.checked.prog.make == some Rows.printApartRow.make)=true:=by kernel_rfl
theorem cLifted:(Rows.printApartRow.lifted == Tryz.pinned.checked.prog.liftsFinal)=true:=by kernel_rfl
theorem cHeard:Tryz.pinned.checked.prog.stopsHeard=true:=by kernel_rfl
theorem cEnter:Tryz.pinned.checked.prog.mayEnter=true:=by kernel_rfl
theorem cLaid:laidOutB Tryz.pinned.checked.prog=true:=by kernel_rfl
theorem cMaps:mapsRowed Tryz.pinned.checked.prog=true:=by kernel_rfl
theorem closed:joinedFacts Tryz.pinned.checked.prog 5 Tryz.f5 (OpenSpec.ofChange Rows.printApartSpec).bare Rows.printApartRow=true:=by
 unfold joinedFacts
 rw[cInPlace,zre,cRecurses,cNamed,cPlain,cMake,cLifted,cHeard,cEnter,cLaid,cMaps]
 kernel_rfl
end printApartRow
end Go.Proofs.YthgibhhbmmkjmaaGreatDoor
