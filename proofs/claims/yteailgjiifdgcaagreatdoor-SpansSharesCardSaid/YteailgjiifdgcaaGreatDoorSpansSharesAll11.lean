/- Walks and plain facts. Texts merged: SpsO. Condition: none beyond what each says. -/
import Derived.Test.YteailgjiifdgcaaGreatDoorSpansSharesAll1
import Derived.Test.YteailgjiifdgcaaGreatDoorSpansSharesAll2
import Derived.Test.YteailgjiifdgcaaGreatDoorSpansSharesAll3
import Derived.Test.YteailgjiifdgcaaGreatDoorSpansSharesAll4
import Derived.Test.YteailgjiifdgcaaGreatDoorSpansSharesAll5
import Derived.Test.YteailgjiifdgcaaGreatDoorSpansSharesAll6
import Derived.Test.YteailgjiifdgcaaGreatDoorSpansSharesAll7
import Derived.Test.YteailgjiifdgcaaGreatDoorSpansSharesAll8
import Derived.Test.YteailgjiifdgcaaGreatDoorSpansSharesAll9
import Derived.Test.YteailgjiifdgcaaGreatDoorSpansSharesAll10
set_option linter.unusedVariables false
set_option linter.unusedSimpArgs false
/- Every row of spans opens as its value. No condition. -/
namespace Go.Proofs.YteailgjiifdgcaaGreatDoor
open Go.RowKit Go.Shelf

abbrev RSpsZ : Rd (List (ByteArray × ByteArray × Unit)) := RSlZ 2 32 RSpnZ
theorem opensZ_sps : OpensZ Tryz.prog 23 RSpsZ :=
  opensZ_slice Tryz.underlying23 (by kernel_rfl) (by kernel_rfl) (by decide) opensZ_spn
theorem sps_ofZ {w : World} {cs : List Value} {l : List (ByteArray × ByteArray × Unit)} (h : RSpsZ w cs l) : RSps w cs (l.map fun x => (x.1, x.2.1)) := by
  obtain ⟨⟨a, cap, e, h1, h2, h3⟩, _⟩ := h
  refine ⟨a, cap, by rw [List.length_map]; exact e, by rw [List.length_map]; exact h1, h2, fun i x hi => ?_⟩
  rw [List.getElem?_map] at hi
  obtain ⟨y, hy, rfl⟩ := Option.map_eq_some_iff.1 hi
  obtain ⟨b, off, cs1, e1, k1, k2, k3⟩ := h3 i y hy
  refine ⟨b, off, cs1, e1, k1, k2, ?_⟩
  obtain ⟨a0, t0, h0, l0, ⟨rfl, z0⟩, a1, t1, rfl, l1, ⟨rfl, z1⟩, h2⟩ := k3
  obtain rfl : t1 = [] := h2
  exact ⟨h0, by unfold maxLen; show y.1.size ≤ _; omega, by unfold maxLen; show y.2.1.size ≤ _; omega⟩
theorem shares_law {w : World} {va vb vc : Value} {A B C : List (ByteArray × ByteArray × Unit)} (h1 : RSpsZ w [va] A) (h2 : RSpsZ w [vb] B) (h3 : RSpsZ w [vc] C) (v : ByteArray) (hD : Doors w) (hz : v.size ≤ 9223372036854775807) : Calls Tryz.prog 4 #[va, vb, vc, .string v] w fun e w' => e = .returned (.bool true) ∧ Below w.heap.size w w' :=
  spansShares_true v (sps_ofZ h1) (sps_ofZ h2) (sps_ofZ h3) hD hz
end Go.Proofs.YteailgjiifdgcaaGreatDoor
