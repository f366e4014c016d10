/- What the statement PrintParsed needs. Condition: none beyond what each says. -/
import Derived.Test.YthgibhhbmmkjmaaGreatDoorPrW1
set_option maxRecDepth 10000
namespace Go.Proofs.YthgibhhbmmkjmaaGreatDoor
open Go.Proofs.Tryz
namespace printParsedRow
open ChangeShapes WideShapes ChangeAt RowKit
open ChangeMaps (open_string shut_string)
theorem cInPlace:(Rows.printParsedRow.inPlace==Tryz.pinned.checked.prog.inPlace 4)=true:=by kernel_rfl
theorem aay:(Rows.printParsedRow.unfollowed==Tryz.pinned.checked.prog.unfollowed 4)=true:=by kernel_rfl
theorem cRecurses:(Rows.printParsedRow.recurses==Tryz.pinned.checked.prog.recurses 4)=true:=by kernel_rfl
theorem cNamed:(Rows.printParsedRow.named==Tryz.pinned.checked.prog.varsNamed 4)=true:=by kernel_rfl
theorem cPlain:(Rows.printParsedRow.plainKeys==Tryz.pinned.checked.prog.plainKeys)=true:=by kernel_rfl
theorem cMake:(Tryz.pinned.checked.prog.make==some Rows.printParsedRow.make)=true:=by kernel_rfl
theorem cLifted:(Rows.printParsedRow.lifted==Tryz.pinned.checked.prog.liftsFinal)=true:=by kernel_rfl
theorem cHeard:Tryz.pinned.checked.prog.stopsHeard=true:=by kernel_rfl
theorem cEnter:Tryz.pinned.checked.prog.mayEnter=true:=by kernel_rfl
theorem cLaid:laidOutB Tryz.pinned.checked.prog=true:=by kernel_rfl
theorem cMaps:mapsRowed Tryz.pinned.checked.prog=true:=by kernel_rfl
theorem closed:joinedFacts Tryz.pinned.checked.prog 4 Tryz.f4 (OpenSpec.ofChange Rows.printParsedSpec).bare Rows.printParsedRow=true:=by
 exact ajy
end printParsedRow
end Go.Proofs.YthgibhhbmmkjmaaGreatDoor
