/- strings.Split at a separator of one byte. Condition: the library's variables as they were laid, and a text of at most 100000 bytes. -/
import Derived.Test.YtalliggdfoeahaaGreatDoorTxs
import Derived.Test.YtalliggdfoeahaaGreatDoorDoor
import Derived.Test.YtalliggdfoeahaaGreatDoorVerQ
set_option linter.unusedVariables false
set_option linter.unusedSimpArgs false
namespace Go.Proofs.YtalliggdfoeahaaGreatDoor
open Go.RowKit Go.Lib Go.Sort VerN

theorem lit_texts' (w : World) (l : List ByteArray) (hl : l.length ≤ 1000000) (hs : ∀ x ∈ l, x.size ≤ maxLen) : RTs (w.alloc (.cells (l.map Value.string).toArray 9)) [.slice (some ⟨w.heap.size, 0, none⟩) l.length l.length] l := by
  have hown := World.ownsRow_lit (base := w.heap.size) (e := 9) (size := 1) w (l.map Value.string).toArray l.length (Nat.le_refl _) (by unfold maxLen; omega) (by simp)
  have h2 : (w.alloc (.cells (l.map Value.string).toArray 9)).ownsRow w.heap.size 9 1 (.slice (some ⟨w.heap.size, 0, none⟩) l.length l.length) l.length (l.map Value.string) := by simpa using hown
  refine slice_of_owns (by simp) h2 fun i u x hu hx => ?_
  rw [List.getElem?_map, hx] at hu
  cases hu
  exact ⟨rfl, hs x (List.mem_of_getElem? hx)⟩
theorem cutS_size (c : UInt8) (s : ByteArray) : 1 ≤ (cutS c s).length ∧ (cutS c s).length ≤ s.size + 1 := by
  rw [cutS_len, ← dlen s]
  exact cutL_len c _
/-- what strings.Split gives: the pieces, in a row of its own -/
theorem split_any (s : ByteArray) (c : UInt8) (hs : s.size ≤ 100000) {w : World} (hD : Doors w) : Calls Tryz.prog 12 #[.string s, .string ⟨#[c]⟩] w fun e w' =>
    ∃ g, e = .returned (.slice (some ⟨g, 0, none⟩) (cutS c s).length (cutS c s).length) ∧ RTs w' [.slice (some ⟨g, 0, none⟩) (cutS c s).length (cutS c s).length] (cutS c s) ∧ Below w.heap.size w w' := by
  obtain ⟨m, hm⟩ := hD.max
  have hC := Tryz.strings_Split s ⟨#[c]⟩ m w (by omega) hm (Nat.le_refl _)
  simp only [split_all, countB_cut] at hC
  refine hC.mono ?_
  rintro e w2 ⟨rfl, rfl⟩
  have hz := cutS_size c s
  exact ⟨_, rfl, lit_texts' _ _ (by omega) (fun x hx => by have := cutS_piece hx; unfold maxLen; omega), below_alloc1 _ _⟩
end Go.Proofs.YtalliggdfoeahaaGreatDoor
