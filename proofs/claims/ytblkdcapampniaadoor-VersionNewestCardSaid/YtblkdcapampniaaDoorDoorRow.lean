/- What each row of this seat lists of the library's variables, and a world that holds it. No condition. -/
import Derived.Test.YtblkdcapampniaaDoorCards
import Derived.Test.YtblkdcapampniaaDoorTie
import Derived.Test.YtblkdcapampniaaDoorDoor
import Derived.ProofKit
import Derived.OpenShut
import Derived.LaidMore
import Derived.Lay
import Derived.SevenTiedAt
import Derived.Stop.Joined
import Derived.Stop.LaidErr
import Derived.Deep.DeepHandedRow
import Derived.Lib.LaidTab
set_option linter.unusedVariables false
set_option linter.unusedSimpArgs false
namespace Go.Proofs.YtblkdcapampniaaDoor
open Go.ChangeShapes Go.WideShapes Go.ChangeAt Go.RowKit Go.Lib

abbrev seatLaid : List (String × DataW Unit) := Rows.versionCompareRow.laid
theorem gTabType : (Tryd.prog.globals[5]?).map (·.type) = some 120 := by kernel_rfl
theorem gSynType : (Tryd.prog.globals[3]?).map (·.type) = some 75 := by kernel_rfl
theorem gRngType : (Tryd.prog.globals[4]?).map (·.type) = some 75 := by kernel_rfl
theorem star : "*" ++ "errors.errorString" = "*errors.errorString" := by decide
theorem rowErr (u : TypeId) (h : Tryd.prog.typeName? 3 u = some "*errors.errorString") : u = 116 :=
  typeName_ptr_named (nm := "errors.errorString") (by rw [star]; kernel_rfl) (by kernel_rfl) (by decide) u (by rw [star]; exact h)
theorem cells_u64 : Tryd.prog.cellsOf 102 = 1 := by kernel_rfl
theorem cells_tab : Tryd.prog.cellsOf 120 = 20 := by kernel_rfl
theorem cells_es : Tryd.prog.cellsOf 118 = 1 := by kernel_rfl
theorem cells_st : Tryd.prog.cellsOf 9 = 1 := by kernel_rfl
/-- what the row lists is what the walks lean on -/
theorem doors_of {W : World} (hL : laidMetH Tryd.prog seatLaid W) (hS : W.ShapedOpen Tryd.prog) : Doors W := by
  rw [MakeChecks.laidMetH_plain _ _ _ (by kernel_rfl)] at hL
  have h2 := hL.tail.tail
  have h4 := h2.tail.tail
  have h5 := h4.tail
  obtain ⟨a0, s0, hv0, -, -, -⟩ := laid_sentinel h4 gRng gRngType Tryd.underlying75 rowErr Tryd.underlying116 Tryd.underlying118 rfl rfl Tryd.underlying9 cells_es cells_st
  obtain ⟨a1, s1, hv1, -, -, -⟩ := laid_sentinel h5 gSyn gSynType Tryd.underlying75 rowErr Tryd.underlying116 Tryd.underlying118 rfl rfl Tryd.underlying9 cells_es cells_st
  exact ⟨tabIs_of_head (k := .u64) (zs := pow10Tab) gTab gTabType Tryd.underlying120 Tryd.underlying102 cells_u64 cells_tab h2, ⟨_, _, hv1⟩, ⟨_, _, hv0⟩, Tryd.laysM143.s1_3 W hS⟩
theorem own : ownKnob Tryd.prog.godebug = none := by kernel_rfl
theorem laidOut : laidOutB Tryd.prog = true := by kernel_rfl
set_option maxRecDepth 100000 in
theorem seat_shaped (os : Os) (args : Array Value) : ((World.laidAll Tryd.prog os seatLaid).forCall (fun _ _ => 0) ⟨#[], args, []⟩).Shaped Tryd.prog := World.shaped_of_ZipB (by kernel_rfl) (by kernel_rfl)
set_option maxRecDepth 100000 in
theorem seat_laid (os : Os) (args : Array Value) : laidMetH Tryd.prog seatLaid ((World.laidAll Tryd.prog os seatLaid).forCall (fun _ _ => 0) ⟨#[], args, []⟩).memory := by
  rw [MakeChecks.laidMetH_plain _ _ _ (by kernel_rfl)]
  exact laidMet_laidAll _ (by kernel_rfl) (by kernel_rfl)
end Go.Proofs.YtblkdcapampniaaDoor
