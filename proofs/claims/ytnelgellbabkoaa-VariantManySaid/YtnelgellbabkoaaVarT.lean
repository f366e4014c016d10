/- Every slice of variants, and of settings, opens as its list. No condition. -/
import Derived.Test.YtnelgellbabkoaaVarC
namespace Go.Proofs.Ytnelgellbabkoaa
open Go.RowKit Go.Shelf

theorem opens_strs04 : Opens Try.prog 33 RSs := opens_slice Try.underlying33 (by kernel_rfl) (by decide) (opens_str Try.underlying9)
theorem opens_var : Opens Try.prog 35 RVar := by
  refine opens_map (R := RCons 1 RStr (RCons 1 RSs RNil)) (opens_struct Try.underlying35 ?_) ?_
  · have h1 : Try.prog.cellsOf 9 = 1 := by kernel_rfl
    have h2 : Try.prog.cellsOf 33 = 1 := by kernel_rfl
    have hN : Try.prog.cellsOf 35 = 0 + 1 + 1 := by kernel_rfl
    rw [hN]
    exact fields_cons rfl h1 (opens_str Try.underlying9) (fields_cons rfl h2 opens_strs04 fields_nil)
  · rintro w cs ⟨s, l, ⟨⟩⟩ ⟨c1, c2, rfl, h1, ⟨h2, h3⟩, c3, c4, rfl, h4, h5, h6⟩
    dsimp only at h2 h3 h5 h6
    subst h2
    have h7 : c4 = [] := h6
    subst h7
    match c3, h4 with
    | [u], _ => exact ⟨(s, l), u, rfl, h3, h5⟩
theorem opens_vars : Opens Try.prog 29 RVars := opens_slice Try.underlying29 (by kernel_rfl) (by decide) opens_var
theorem opens_set : Opens Try.prog 38 RSet := by
  refine opens_map (R := RCons 1 RStr (RCons 1 RStr RNil)) (opens_struct Try.underlying38 ?_) ?_
  · have h1 : Try.prog.cellsOf 9 = 1 := by kernel_rfl
    have hN : Try.prog.cellsOf 38 = 0 + 1 + 1 := by kernel_rfl
    rw [hN]
    exact fields_cons rfl h1 (opens_str Try.underlying9) (fields_cons rfl h1 (opens_str Try.underlying9) fields_nil)
  · rintro w cs ⟨s, y, ⟨⟩⟩ ⟨c1, c2, rfl, h1, ⟨h2, h3⟩, c3, c4, rfl, h4, ⟨h5, h6⟩, h7⟩
    dsimp only at h2 h3 h5 h6
    subst h2 h5
    have h8 : c4 = [] := h7
    subst h8
    exact ⟨(s, y), rfl, h3, h6⟩
theorem opens_sets : Opens Try.prog 36 RSets := opens_slice Try.underlying36 (by kernel_rfl) (by decide) opens_set
end Go.Proofs.Ytnelgellbabkoaa
