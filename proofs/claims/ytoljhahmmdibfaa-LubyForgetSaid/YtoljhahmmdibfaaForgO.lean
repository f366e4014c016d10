/- Every slice of what was learnt opens as its list. No condition. -/
import Derived.Test.YtoljhahmmdibfaaNoteR
import Derived.OpenShut
set_option linter.unusedVariables false
set_option linter.unusedSimpArgs false
namespace Go.Proofs.Ytoljhahmmdibfaa
open Go.RowKit Go.Shelf ForgM

theorem opens_nt : Opens Try.prog 75 RNote := by
  refine opens_map (R := RCons 1 (RInt .i64) (RCons 1 (RInt .i64) (RCons 1 (RInt .i64) (RCons 1 RBool RNil)))) (opens_struct Try.underlying75 ?_) ?_
  · have h1 : Try.prog.cellsOf 3 = 1 := by kernel_rfl
    have h2 : Try.prog.cellsOf 4 = 1 := by kernel_rfl
    have hN : Try.prog.cellsOf 75 = 0 + 1 + 1 + 1 + 1 := by kernel_rfl
    rw [hN]
    exact fields_cons rfl h1 (opens_int Try.underlying3) (fields_cons rfl h1 (opens_int Try.underlying3) (fields_cons rfl h1 (opens_int Try.underlying3) (fields_cons rfl h2 (opens_bool Try.underlying4) fields_nil)))
  · rintro w cs ⟨a, b, c, d, ⟨⟩⟩ ⟨c1, c2, rfl, h1, ⟨h2, _⟩, c3, c4, rfl, h4, ⟨h5, _⟩, c5, c6, rfl, h6, ⟨h7, _⟩, c7, c8, rfl, h8, h9, h10⟩
    dsimp only at h2 h5 h7
    have h9' : c7 = [.bool d] := h9
    have h10' : c8 = [] := h10
    subst h2 h5 h7 h9' h10'
    exact ⟨(a, b, c, d), rfl⟩
theorem opens_nts : Opens Try.prog 72 RNotes := opens_slice Try.underlying72 (by kernel_rfl) (by decide) opens_nt
end Go.Proofs.Ytoljhahmmdibfaa
