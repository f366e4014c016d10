/- Walks and plain facts. Texts merged: RequestTextsFacts. Condition: none beyond what each says. -/
import Derived.ShutString
import Derived.ChangeOld
import Derived.Test.YteailgjiifdgcaaGreatDoorRequestTextsAll1
set_option linter.unusedVariables false
set_option linter.unusedSimpArgs false
set_option maxRecDepth 10000
set_option maxHeartbeats 4000000
namespace Go.Proofs.YteailgjiifdgcaaGreatDoor
namespace requestTextsRow
open Go.ChangeShapes Go.WideShapes Go.ChangeAt Go.RowKit
open Go.ChangeMaps (open_string shut_string)
theorem cInPlace:(Rows.requestTextsRow.inPlace == Tryz.pinned.checked.prog.inPlace 11)=true:=by kernel_rfl
theorem zru:(Rows.requestTextsRow.unfollowed == Tryz.pinned.checked.prog.unfollowed 11)=true:=by kernel_rfl
theorem cRecurses:(Rows.requestTextsRow.recurses == Tryz.pinned.checked.prog.recurses 11)=true:=by kernel_rfl
theorem cNamed:(Rows.requestTextsRow.named == Tryz.pinned.checked.prog.varsNamed 11)=true:=by kernel_rfl
theorem cPlain:(Rows.requestTextsRow.plainKeys == Tryz.pinned.checked.prog.plainKeys)=true:=by kernel_rfl
theorem cMake:(Tryz.pinned.checked.prog.make == some Rows.requestTextsRow.make)=true:=by kernel_rfl
theorem cLifted:(Rows.requestTextsRow.lifted == Tryz.pinned.checked.prog.liftsFinal)=true:=by kernel_rfl
theorem cHeard:Tryz.pinned.checked.prog.stopsHeard=true:=by kernel_rfl
theorem cEnter:Tryz.pinned.checked.prog.mayEnter=true:=by kernel_rfl
theorem cLaid:laidOutB Tryz.pinned.checked.prog=true:=by kernel_rfl
theorem cMaps:mapsRowed Tryz.pinned.checked.prog=true:=by kernel_rfl
theorem closed:joinedFacts Tryz.pinned.checked.prog 11 Tryz.f11 (OpenSpec.ofChange Rows.requestTextsSpec).bare Rows.requestTextsRow=true:=by
 unfold joinedFacts
 rw[cInPlace,zru,cRecurses,cNamed,cPlain,cMake,cLifted,cHeard,cEnter,cLaid,cMaps]
 kernel_rfl
end requestTextsRow
end Go.Proofs.YteailgjiifdgcaaGreatDoor
