/- An argument that is a span, opened: two texts, with their reach. No condition. -/
import Derived.Test.YtblkdcapampniaaDoorOpen2
import Derived.Test.YtblkdcapampniaaDoorProg
set_option linter.unusedVariables false
set_option linter.unusedSimpArgs false
namespace Go.Proofs.YtblkdcapampniaaDoor
open Go.RowKit

abbrev RSpnZ : Rd (ByteArray × ByteArray × Unit) := RCons 1 RStrZ (RCons 1 RStrZ RNil)
theorem cs_strZ : Tryd.prog.cellsOf 9 = 1 := by kernel_rfl
theorem opensZ_spn : OpensZ Tryd.prog 33 RSpnZ := by
  refine opensZ_struct Tryd.underlying33 ?_
  have hN : Tryd.prog.cellsOf 33 = 0 + 1 + 1 := by kernel_rfl
  rw [hN]
  exact fieldsZ_cons rfl cs_strZ (opensZ_str Tryd.underlying9) (fieldsZ_cons rfl cs_strZ (opensZ_str Tryd.underlying9) fieldsZ_nil)
theorem spn_arg {w : World} {cs : Array Value} {x : ByteArray × ByteArray × Unit} (h : RSpnZ w cs.toList x) : ∃ lo hi : ByteArray, cs = #[.string lo, .string hi] := by
  obtain ⟨a0, t0, h0, l0, ⟨rfl, _⟩, a1, t1, rfl, l1, ⟨rfl, _⟩, h2⟩ := h
  refine ⟨x.1, x.2.1, ?_⟩
  rw [← Array.toArray_toList (xs := cs), h0]
  obtain rfl : t1 = [] := h2
  rfl
end Go.Proofs.YtblkdcapampniaaDoor
