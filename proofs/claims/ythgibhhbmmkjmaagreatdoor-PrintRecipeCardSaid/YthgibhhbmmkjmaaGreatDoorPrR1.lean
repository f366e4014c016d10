/- What the statement PrintRecipe needs. Condition: none beyond what each says. -/
import Derived.Test.YthgibhhbmmkjmaaGreatDoorPrW1
set_option maxRecDepth 10000
namespace Go.Proofs.YthgibhhbmmkjmaaGreatDoor
open Go.Proofs.Tryz
namespace printRecipeRow
open ChangeShapes WideShapes ChangeAt RowKit
open ChangeMaps (open_string shut_string)
theorem cInPlace:(Rows.printRecipeRow.inPlace==Tryz.pinned.checked.prog.inPlace 3)=true:=by kernel_rfl
theorem aay:(Rows.printRecipeRow.unfollowed==Tryz.pinned.checked.prog.unfollowed 3)=true:=by kernel_rfl
theorem cRecurses:(Rows.printRecipeRow.recurses==Tryz.pinned.checked.prog.recurses 3)=true:=by kernel_rfl
theorem cNamed:(Rows.printRecipeRow.named==Tryz.pinned.checked.prog.varsNamed 3)=true:=by kernel_rfl
theorem cPlain:(Rows.printRecipeRow.plainKeys==Tryz.pinned.checked.prog.plainKeys)=true:=by kernel_rfl
theorem cMake:(Tryz.pinned.checked.prog.make==some Rows.printRecipeRow.make)=true:=by kernel_rfl
theorem cLifted:(Rows.printRecipeRow.lifted==Tryz.pinned.checked.prog.liftsFinal)=true:=by kernel_rfl
theorem cHeard:Tryz.pinned.checked.prog.stopsHeard=true:=by kernel_rfl
theorem cEnter:Tryz.pinned.checked.prog.mayEnter=true:=by kernel_rfl
theorem cLaid:laidOutB Tryz.pinned.checked.prog=true:=by kernel_rfl
theorem cMaps:mapsRowed Tryz.pinned.checked.prog=true:=by kernel_rfl
theorem closed:joinedFacts Tryz.pinned.checked.prog 3 Tryz.f3 (OpenSpec.ofChange Rows.printRecipeSpec).bare Rows.printRecipeRow=true:=by
 exact ajy
end printRecipeRow
end Go.Proofs.YthgibhhbmmkjmaaGreatDoor
