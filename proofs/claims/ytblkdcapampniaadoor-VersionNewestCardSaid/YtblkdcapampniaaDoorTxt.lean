/- Small facts on texts, and a walk's words for a byte of a text. No condition. -/
import Derived.Test.YtblkdcapampniaaDoorKit
import Derived.Laws.StructEq
import Derived.Lib.Strings
set_option linter.unusedVariables false
set_option linter.unusedSimpArgs false
namespace Go.Proofs.YtblkdcapampniaaDoor.Txt
open Go.RowKit

theorem len (s : ByteArray) : s.data.toList.length = s.size := by rw [Array.length_toList]; rfl
theorem at_ (s : ByteArray) (k : Nat) (h : k < s.size) : s.data.toList[k]'(by rw [len]; exact h) = s[k] := rfl
theorem ext {x y : ByteArray} (h : x.data.toList = y.data.toList) : x = y := by
  obtain ⟨⟨a⟩⟩ := x
  obtain ⟨⟨b⟩⟩ := y
  simp at h
  rw [h]
theorem empty_iff (s : ByteArray) : s.toList = [] ↔ s.size = 0 := by
  rw [Lib.toList_data, ← len]
  exact List.length_eq_zero_iff.symm
theorem eq_dec (x y : ByteArray) : (x.toList == y.toList) = decide (x = y) := by
  rw [ByteArray.toList_eq, ByteArray.toList_eq]
  by_cases h : x = y
  · subst h; simp
  · rw [decide_eq_false h, beq_eq_false_iff_ne]
    exact fun e => h (ext e)
theorem no_dec (s : ByteArray) : s.toList.isEmpty = decide (s.size = 0) := by
  by_cases h : s.size = 0
  · rw [decide_eq_true h, (empty_iff s).2 h]; rfl
  · rw [decide_eq_false h, Bool.eq_false_iff]
    intro e
    rw [List.isEmpty_iff, empty_iff] at e
    exact h e
theorem eq_list (x : ByteArray) (l : List UInt8) : (x = ⟨l.toArray⟩) ↔ x.data.toList = l := ⟨fun h => by rw [h], fun h => ext (by rw [h])⟩
end Go.Proofs.YtblkdcapampniaaDoor.Txt
