/- Rows of texts: how they are read, and what stays. No condition. -/
import Derived.Test.YtalliggdfoeahaaGreatDoorRow
set_option linter.unusedVariables false
set_option linter.unusedSimpArgs false
namespace Go.Proofs.YtalliggdfoeahaaGreatDoor
open Go.RowKit Go.Lib

abbrev RTs : Rd (List ByteArray) := RSlice 1 RStr
theorem txts_open {w : World} {v : Value} {l : List ByteArray} (h : RTs w [v] l) : ∃ a cap, v = .slice a l.length cap ∧ l.length ≤ 9223372036854775807 ∧ ∀ i (hi : i < l.length), ∃ b off, a = some ⟨b, off, none⟩ ∧ w.cell? ⟨b, off + i, none⟩ = some (.string l[i]) ∧ l[i].size ≤ maxLen := by
  obtain ⟨a, cap, hv, hcap, hmax, hel⟩ := h
  simp only [List.cons.injEq, and_true] at hv
  unfold maxLen at hmax
  refine ⟨a, cap, hv, by omega, fun i hi => ?_⟩
  obtain ⟨b, off, ecs, h1, h2, h3, h4, h5⟩ := hel i l[i] (List.getElem?_eq_getElem hi)
  subst h4
  exact ⟨b, off, h1, by simpa using h3 0 _ rfl, h5⟩
theorem own_texts {w : World} {B : Nat} {v : Value} {n : Nat} {l : List ByteArray} (h : w.ownsRow B 9 1 v n (l.map Value.string)) (hs : ∀ x ∈ l, x.size ≤ maxLen) : RTs w [v] l := by
  obtain rfl : n = l.length := by have := h.1; simp at this; omega
  refine slice_of_owns (by simp) h fun i u x hu hx => ?_
  rw [List.getElem?_map, hx] at hu
  cases hu
  exact ⟨rfl, hs x (List.mem_of_getElem? hx)⟩
theorem stays_texts {w w' : World} {v : Value} {l : List ByteArray} (h : RTs w [v] l) (hb : Below w.heap.size w w') : RTs w' [v] l := stays_slice stays_str _ _ _ _ h hb
end Go.Proofs.YtalliggdfoeahaaGreatDoor
