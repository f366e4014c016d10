/-
  No cell of these rows narrows 'for every input' (looked for: loops, veiled, ifaces, maps, wideKeys, modest, calm, conditions, laid).
  DERIVED. THE GIVEN ROWS OF THIS SEAT. 10 by the template 'for every input the law returns true; each argument reads behind the call as it read before'; 0 by the template 'total and deterministic' (their statements: YtnelgellbabkoaaTotals.lean).
  GIVEN WITH THE SEED: the statements are not yours to turn. If you find one false, say at which input.
  Laid BY PROGRAM, IN A SANDBOX (cutbox-rows.mjs): the forced cells as the released guide's own fill.sh prints them over the translation 35ccb60b3bbd35a3… (all of the seat's roots in one cut). By AI agents, Wed Nov 11 2026. No macro, syntax, notation, axiom, sorry.
-/
import Derived.Test.YtnelgellbabkoaaChecked
import GoSem.Claim
import GoSem.ClaimJoined
import GoSem.ClaimMapViews
import Derived.JoinedTies
import Derived.KernelRfl
namespace Go.Proofs.Ytnelgellbabkoaa
/- THE CELL 'sum', in the pinned program and in every row, IS THE sha256 OF THE DUMP (.gsa) THAT YtnelgellbabkoaaProg.lean LOADS. Nothing in Lean hashes anything: it is a label: what it is worth is what the hold of that sum in a sandbox is worth. -/
noncomputable def Try.pinned : Pinned := { name := "ytnelgellbabkoaa", sum := "35ccb60b3bbd35a3e0e2e79f7828c3ad8b0fe24ca35708b0fe4ce269a4c59b85", checked := Try.checked }
namespace Rows
def none {H : Type} : Left H := { results := [], args := [] }

/-- 'cooperlaw12.CnfForms': WHATEVER THE INPUT: true; the input reads as it did. -/
def cnfFormsSpec : ChangeSpec := { name := "cnfForms", fn := fun _ => fun
  | [d1, d2] => { results := [.lit (.bool true)], args := [d1, d2] }
  | _ => none }
def cnfFormsRow : OpenClaim := { program := "ytnelgellbabkoaa", sum := "35ccb60b3bbd35a3e0e2e79f7828c3ad8b0fe24ca35708b0fe4ce269a4c59b85", func := "cooper/cooperlaw12.CnfForms", spec := "cnfForms", unfollowed := true, recurses := true, apart := false }
def CnfFormsSaid : Prop := cnfFormsRow.holds Try.pinned (OpenSpec.ofChange cnfFormsSpec)

/-- ITS FALSE NEIGHBOUR: 'it returns false'. Refute it at one input. -/
def cnfFormsWrong : ChangeSpec := { name := "cnfForms", fn := fun _ => fun
  | [d1, d2] => { results := [.lit (.bool false)], args := [d1, d2] }
  | _ => none }
def CnfFormsWrongFalsely : Prop := cnfFormsRow.holds Try.pinned (OpenSpec.ofChange cnfFormsWrong)

/-- 'cooperlaw04.VariantNames': WHATEVER THE INPUT: true; the input reads as it did. -/
def variantNamesSpec : ChangeSpec := { name := "variantNames", fn := fun _ => fun
  | [d] => { results := [.lit (.bool true)], args := [d] }
  | _ => none }
def variantNamesRow : OpenClaim := { program := "ytnelgellbabkoaa", sum := "35ccb60b3bbd35a3e0e2e79f7828c3ad8b0fe24ca35708b0fe4ce269a4c59b85", func := "cooper/cooperlaw04.VariantNames", spec := "variantNames", unfollowed := true, recurses := true, apart := false }
def VariantNamesSaid : Prop := variantNamesRow.holds Try.pinned (OpenSpec.ofChange variantNamesSpec)

/-- ITS FALSE NEIGHBOUR: 'it returns false'. Refute it at one input. -/
def variantNamesWrong : ChangeSpec := { name := "variantNames", fn := fun _ => fun
  | [d] => { results := [.lit (.bool false)], args := [d] }
  | _ => none }
def VariantNamesWrongFalsely : Prop := variantNamesRow.holds Try.pinned (OpenSpec.ofChange variantNamesWrong)

/-- 'cooperlaw04.VariantAll': WHATEVER THE INPUT: true; the input reads as it did. -/
def variantAllSpec : ChangeSpec := { name := "variantAll", fn := fun _ => fun
  | [d] => { results := [.lit (.bool true)], args := [d] }
  | _ => none }
def variantAllRow : OpenClaim := { program := "ytnelgellbabkoaa", sum := "35ccb60b3bbd35a3e0e2e79f7828c3ad8b0fe24ca35708b0fe4ce269a4c59b85", func := "cooper/cooperlaw04.VariantAll", spec := "variantAll", unfollowed := true, recurses := true, apart := false }
def VariantAllSaid : Prop := variantAllRow.holds Try.pinned (OpenSpec.ofChange variantAllSpec)

/-- ITS FALSE NEIGHBOUR: 'it returns false'. Refute it at one input. -/
def variantAllWrong : ChangeSpec := { name := "variantAll", fn := fun _ => fun
  | [d] => { results := [.lit (.bool false)], args := [d] }
  | _ => none }
def VariantAllWrongFalsely : Prop := variantAllRow.holds Try.pinned (OpenSpec.ofChange variantAllWrong)

/-- 'cooperlaw12.CnfForm': WHATEVER THE INPUT: true; the input reads as it did. -/
def cnfFormSpec : ChangeSpec := { name := "cnfForm", fn := fun _ => fun
  | [d1, d2] => { results := [.lit (.bool true)], args := [d1, d2] }
  | _ => none }
def cnfFormRow : OpenClaim := { program := "ytnelgellbabkoaa", sum := "35ccb60b3bbd35a3e0e2e79f7828c3ad8b0fe24ca35708b0fe4ce269a4c59b85", func := "cooper/cooperlaw12.CnfForm", spec := "cnfForm", unfollowed := true, recurses := true, apart := false }
def CnfFormSaid : Prop := cnfFormRow.holds Try.pinned (OpenSpec.ofChange cnfFormSpec)

/-- ITS FALSE NEIGHBOUR: 'it returns false'. Refute it at one input. -/
def cnfFormWrong : ChangeSpec := { name := "cnfForm", fn := fun _ => fun
  | [d1, d2] => { results := [.lit (.bool false)], args := [d1, d2] }
  | _ => none }
def CnfFormWrongFalsely : Prop := cnfFormRow.holds Try.pinned (OpenSpec.ofChange cnfFormWrong)

/-- 'cooperlaw12.CnfJoins': WHATEVER THE INPUT: true; the input reads as it did. -/
def cnfJoinsSpec : ChangeSpec := { name := "cnfJoins", fn := fun _ => fun
  | [d1, d2, d3, d4] => { results := [.lit (.bool true)], args := [d1, d2, d3, d4] }
  | _ => none }
def cnfJoinsRow : OpenClaim := { program := "ytnelgellbabkoaa", sum := "35ccb60b3bbd35a3e0e2e79f7828c3ad8b0fe24ca35708b0fe4ce269a4c59b85", func := "cooper/cooperlaw12.CnfJoins", spec := "cnfJoins", unfollowed := true, recurses := true, apart := false }
def CnfJoinsSaid : Prop := cnfJoinsRow.holds Try.pinned (OpenSpec.ofChange cnfJoinsSpec)

/-- ITS FALSE NEIGHBOUR: 'it returns false'. Refute it at one input. -/
def cnfJoinsWrong : ChangeSpec := { name := "cnfJoins", fn := fun _ => fun
  | [d1, d2, d3, d4] => { results := [.lit (.bool false)], args := [d1, d2, d3, d4] }
  | _ => none }
def CnfJoinsWrongFalsely : Prop := cnfJoinsRow.holds Try.pinned (OpenSpec.ofChange cnfJoinsWrong)

/-- 'cooperlaw04.VariantMany': WHATEVER THE INPUT: true; the input reads as it did. -/
def variantManySpec : ChangeSpec := { name := "variantMany", fn := fun _ => fun
  | [d1, d2] => { results := [.lit (.bool true)], args := [d1, d2] }
  | _ => none }
def variantManyRow : OpenClaim := { program := "ytnelgellbabkoaa", sum := "35ccb60b3bbd35a3e0e2e79f7828c3ad8b0fe24ca35708b0fe4ce269a4c59b85", func := "cooper/cooperlaw04.VariantMany", spec := "variantMany", unfollowed := true, recurses := true, apart := false }
def VariantManySaid : Prop := variantManyRow.holds Try.pinned (OpenSpec.ofChange variantManySpec)

/-- ITS FALSE NEIGHBOUR: 'it returns false'. Refute it at one input. -/
def variantManyWrong : ChangeSpec := { name := "variantMany", fn := fun _ => fun
  | [d1, d2] => { results := [.lit (.bool false)], args := [d1, d2] }
  | _ => none }
def VariantManyWrongFalsely : Prop := variantManyRow.holds Try.pinned (OpenSpec.ofChange variantManyWrong)

/-- 'cooperlaw09.CheckRecipe': WHATEVER THE INPUT: true; the input reads as it did. -/
def checkRecipeSpec : ChangeSpec := { name := "checkRecipe", fn := fun _ => fun
  | [d] => { results := [.lit (.bool true)], args := [d] }
  | _ => none }
def checkRecipeRow : OpenClaim := { program := "ytnelgellbabkoaa", sum := "35ccb60b3bbd35a3e0e2e79f7828c3ad8b0fe24ca35708b0fe4ce269a4c59b85", func := "cooper/cooperlaw09.CheckRecipe", spec := "checkRecipe", unfollowed := true, recurses := true, apart := false }
def CheckRecipeSaid : Prop := checkRecipeRow.holds Try.pinned (OpenSpec.ofChange checkRecipeSpec)

/-- ITS FALSE NEIGHBOUR: 'it returns false'. Refute it at one input. -/
def checkRecipeWrong : ChangeSpec := { name := "checkRecipe", fn := fun _ => fun
  | [d] => { results := [.lit (.bool false)], args := [d] }
  | _ => none }
def CheckRecipeWrongFalsely : Prop := checkRecipeRow.holds Try.pinned (OpenSpec.ofChange checkRecipeWrong)

/-- 'cooperlaw09.CheckNames': WHATEVER THE INPUT: true; the input reads as it did. -/
def checkNamesSpec : ChangeSpec := { name := "checkNames", fn := fun _ => fun
  | [d1, d2] => { results := [.lit (.bool true)], args := [d1, d2] }
  | _ => none }
def checkNamesRow : OpenClaim := { program := "ytnelgellbabkoaa", sum := "35ccb60b3bbd35a3e0e2e79f7828c3ad8b0fe24ca35708b0fe4ce269a4c59b85", func := "cooper/cooperlaw09.CheckNames", spec := "checkNames", unfollowed := true, recurses := true, apart := false }
def CheckNamesSaid : Prop := checkNamesRow.holds Try.pinned (OpenSpec.ofChange checkNamesSpec)

/-- ITS FALSE NEIGHBOUR: 'it returns false'. Refute it at one input. -/
def checkNamesWrong : ChangeSpec := { name := "checkNames", fn := fun _ => fun
  | [d1, d2] => { results := [.lit (.bool false)], args := [d1, d2] }
  | _ => none }
def CheckNamesWrongFalsely : Prop := checkNamesRow.holds Try.pinned (OpenSpec.ofChange checkNamesWrong)

/-- 'cooperlaw09.CheckParts': WHATEVER THE INPUT: true; the input reads as it did. -/
def checkPartsSpec : ChangeSpec := { name := "checkParts", fn := fun _ => fun
  | [d1, d2, d3] => { results := [.lit (.bool true)], args := [d1, d2, d3] }
  | _ => none }
def checkPartsRow : OpenClaim := { program := "ytnelgellbabkoaa", sum := "35ccb60b3bbd35a3e0e2e79f7828c3ad8b0fe24ca35708b0fe4ce269a4c59b85", func := "cooper/cooperlaw09.CheckParts", spec := "checkParts", unfollowed := true, recurses := true, apart := false }
def CheckPartsSaid : Prop := checkPartsRow.holds Try.pinned (OpenSpec.ofChange checkPartsSpec)

/-- ITS FALSE NEIGHBOUR: 'it returns false'. Refute it at one input. -/
def checkPartsWrong : ChangeSpec := { name := "checkParts", fn := fun _ => fun
  | [d1, d2, d3] => { results := [.lit (.bool false)], args := [d1, d2, d3] }
  | _ => none }
def CheckPartsWrongFalsely : Prop := checkPartsRow.holds Try.pinned (OpenSpec.ofChange checkPartsWrong)

/-- 'cooperlaw04.VariantBoth': WHATEVER THE INPUT: true; the input reads as it did. -/
def variantBothSpec : ChangeSpec := { name := "variantBoth", fn := fun _ => fun
  | [d1, d2, d3, d4] => { results := [.lit (.bool true)], args := [d1, d2, d3, d4] }
  | _ => none }
def variantBothRow : OpenClaim := { program := "ytnelgellbabkoaa", sum := "35ccb60b3bbd35a3e0e2e79f7828c3ad8b0fe24ca35708b0fe4ce269a4c59b85", func := "cooper/cooperlaw04.VariantBoth", spec := "variantBoth", unfollowed := true, recurses := true, apart := false }
def VariantBothSaid : Prop := variantBothRow.holds Try.pinned (OpenSpec.ofChange variantBothSpec)

/-- ITS FALSE NEIGHBOUR: 'it returns false'. Refute it at one input. -/
def variantBothWrong : ChangeSpec := { name := "variantBoth", fn := fun _ => fun
  | [d1, d2, d3, d4] => { results := [.lit (.bool false)], args := [d1, d2, d3, d4] }
  | _ => none }
def VariantBothWrongFalsely : Prop := variantBothRow.holds Try.pinned (OpenSpec.ofChange variantBothWrong)

/- THE SECOND FORM. 'bulk': how many values and letters a reading holds, each counted each time it is reached (what is shared counts as often as it is met; a slice's spare places count too). A statement '..UptoSaid' is the law's where the arguments, and the package variables that the reading takes, are together of bulk at most 1048576: NARROWER than '..Said'. Prove '..Said' where nothing that the law and all that it calls make is longer than what came in: it says more and counts as full. Else prove '..UptoSaid'. A law counts once. -/
mutual
def uptoBulk {H : Type} : DataW H → Nat
  | .lit (.string bytes) => bytes.length + 1
  | .lit _ => 1
  | .nil => 1
  | .ptr d => uptoBulk d + 1
  | .slice elems spare => uptoBulkAll elems + uptoBulkAll spare + 1
  | .agg parts => uptoBulkAll parts + 1
  | .iface _ d => uptoBulk d + 1
  | .map entries => uptoBulkEntries entries + 1
  | .held _ => 1
def uptoBulkAll {H : Type} : List (DataW H) → Nat
  | [] => 0
  | d :: r => uptoBulk d + uptoBulkAll r
def uptoBulkEntries {H : Type} : List (Lit × DataW H) → Nat
  | [] => 0
  | x :: r => uptoBulkEntry x + uptoBulkEntries r
def uptoBulkEntry {H : Type} : Lit × DataW H → Nat
  | (.string bytes, d) => bytes.length + uptoBulk d + 1
  | (_, d) => uptoBulk d + 1
 end
def uptoSmall : (H : Type) → List (DataW H) → Bool := fun _ ds => decide (uptoBulkAll ds ≤ 1048576)
def OpenSpec.upto (s : _root_.Go.ChangeSpec) : _root_.Go.OpenSpec := { _root_.Go.OpenSpec.ofChange s with cond := some uptoSmall }

/-- 'cooperlaw12.CnfForms', WHERE WHAT IT READS IS OF BULK AT MOST 1048576: true; the input reads as it did. -/
def cnfFormsUptoRow : OpenClaim := { program := "ytnelgellbabkoaa", sum := "35ccb60b3bbd35a3e0e2e79f7828c3ad8b0fe24ca35708b0fe4ce269a4c59b85", func := "cooper/cooperlaw12.CnfForms", spec := "cnfForms", unfollowed := true, recurses := true, apart := false, narrowed := true }
def CnfFormsUptoSaid : Prop := cnfFormsUptoRow.holds Try.pinned (OpenSpec.upto cnfFormsSpec)

/-- 'cooperlaw04.VariantNames', WHERE WHAT IT READS IS OF BULK AT MOST 1048576: true; the input reads as it did. -/
def variantNamesUptoRow : OpenClaim := { program := "ytnelgellbabkoaa", sum := "35ccb60b3bbd35a3e0e2e79f7828c3ad8b0fe24ca35708b0fe4ce269a4c59b85", func := "cooper/cooperlaw04.VariantNames", spec := "variantNames", unfollowed := true, recurses := true, apart := false, narrowed := true }
def VariantNamesUptoSaid : Prop := variantNamesUptoRow.holds Try.pinned (OpenSpec.upto variantNamesSpec)

/-- 'cooperlaw04.VariantAll', WHERE WHAT IT READS IS OF BULK AT MOST 1048576: true; the input reads as it did. -/
def variantAllUptoRow : OpenClaim := { program := "ytnelgellbabkoaa", sum := "35ccb60b3bbd35a3e0e2e79f7828c3ad8b0fe24ca35708b0fe4ce269a4c59b85", func := "cooper/cooperlaw04.VariantAll", spec := "variantAll", unfollowed := true, recurses := true, apart := false, narrowed := true }
def VariantAllUptoSaid : Prop := variantAllUptoRow.holds Try.pinned (OpenSpec.upto variantAllSpec)

/-- 'cooperlaw12.CnfForm', WHERE WHAT IT READS IS OF BULK AT MOST 1048576: true; the input reads as it did. -/
def cnfFormUptoRow : OpenClaim := { program := "ytnelgellbabkoaa", sum := "35ccb60b3bbd35a3e0e2e79f7828c3ad8b0fe24ca35708b0fe4ce269a4c59b85", func := "cooper/cooperlaw12.CnfForm", spec := "cnfForm", unfollowed := true, recurses := true, apart := false, narrowed := true }
def CnfFormUptoSaid : Prop := cnfFormUptoRow.holds Try.pinned (OpenSpec.upto cnfFormSpec)

/-- 'cooperlaw12.CnfJoins', WHERE WHAT IT READS IS OF BULK AT MOST 1048576: true; the input reads as it did. -/
def cnfJoinsUptoRow : OpenClaim := { program := "ytnelgellbabkoaa", sum := "35ccb60b3bbd35a3e0e2e79f7828c3ad8b0fe24ca35708b0fe4ce269a4c59b85", func := "cooper/cooperlaw12.CnfJoins", spec := "cnfJoins", unfollowed := true, recurses := true, apart := false, narrowed := true }
def CnfJoinsUptoSaid : Prop := cnfJoinsUptoRow.holds Try.pinned (OpenSpec.upto cnfJoinsSpec)

/-- 'cooperlaw04.VariantMany', WHERE WHAT IT READS IS OF BULK AT MOST 1048576: true; the input reads as it did. -/
def variantManyUptoRow : OpenClaim := { program := "ytnelgellbabkoaa", sum := "35ccb60b3bbd35a3e0e2e79f7828c3ad8b0fe24ca35708b0fe4ce269a4c59b85", func := "cooper/cooperlaw04.VariantMany", spec := "variantMany", unfollowed := true, recurses := true, apart := false, narrowed := true }
def VariantManyUptoSaid : Prop := variantManyUptoRow.holds Try.pinned (OpenSpec.upto variantManySpec)

/-- 'cooperlaw09.CheckRecipe', WHERE WHAT IT READS IS OF BULK AT MOST 1048576: true; the input reads as it did. -/
def checkRecipeUptoRow : OpenClaim := { program := "ytnelgellbabkoaa", sum := "35ccb60b3bbd35a3e0e2e79f7828c3ad8b0fe24ca35708b0fe4ce269a4c59b85", func := "cooper/cooperlaw09.CheckRecipe", spec := "checkRecipe", unfollowed := true, recurses := true, apart := false, narrowed := true }
def CheckRecipeUptoSaid : Prop := checkRecipeUptoRow.holds Try.pinned (OpenSpec.upto checkRecipeSpec)

/-- 'cooperlaw09.CheckNames', WHERE WHAT IT READS IS OF BULK AT MOST 1048576: true; the input reads as it did. -/
def checkNamesUptoRow : OpenClaim := { program := "ytnelgellbabkoaa", sum := "35ccb60b3bbd35a3e0e2e79f7828c3ad8b0fe24ca35708b0fe4ce269a4c59b85", func := "cooper/cooperlaw09.CheckNames", spec := "checkNames", unfollowed := true, recurses := true, apart := false, narrowed := true }
def CheckNamesUptoSaid : Prop := checkNamesUptoRow.holds Try.pinned (OpenSpec.upto checkNamesSpec)

/-- 'cooperlaw09.CheckParts', WHERE WHAT IT READS IS OF BULK AT MOST 1048576: true; the input reads as it did. -/
def checkPartsUptoRow : OpenClaim := { program := "ytnelgellbabkoaa", sum := "35ccb60b3bbd35a3e0e2e79f7828c3ad8b0fe24ca35708b0fe4ce269a4c59b85", func := "cooper/cooperlaw09.CheckParts", spec := "checkParts", unfollowed := true, recurses := true, apart := false, narrowed := true }
def CheckPartsUptoSaid : Prop := checkPartsUptoRow.holds Try.pinned (OpenSpec.upto checkPartsSpec)

/-- 'cooperlaw04.VariantBoth', WHERE WHAT IT READS IS OF BULK AT MOST 1048576: true; the input reads as it did. -/
def variantBothUptoRow : OpenClaim := { program := "ytnelgellbabkoaa", sum := "35ccb60b3bbd35a3e0e2e79f7828c3ad8b0fe24ca35708b0fe4ce269a4c59b85", func := "cooper/cooperlaw04.VariantBoth", spec := "variantBoth", unfollowed := true, recurses := true, apart := false, narrowed := true }
def VariantBothUptoSaid : Prop := variantBothUptoRow.holds Try.pinned (OpenSpec.upto variantBothSpec)

end Rows
end Go.Proofs.Ytnelgellbabkoaa
