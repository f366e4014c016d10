/- The same parts of a byte array, and how versions compare by them. Conditions: as each says. -/
import Derived.Test.YtblkdcapampniaaDoorVerP
import Derived.Lib.Split
set_option linter.unusedVariables false
set_option linter.unusedSimpArgs false
/- Plain facts: a text cut into texts. -/
namespace Go.Proofs.YtblkdcapampniaaDoor.VerN
open Go.Lib

theorem ba_ext {x y : ByteArray} (h : x.data.toList = y.data.toList) : x = y := by
  obtain ⟨⟨a⟩⟩ := x
  obtain ⟨⟨b⟩⟩ := y
  simp at h
  rw [h]
def cutS (c : UInt8) (s : ByteArray) : List ByteArray := (cutL c s.data.toList).map fun l => ⟨l.toArray⟩
theorem cutS_data (c : UInt8) (s : ByteArray) : (cutS c s).map (·.data.toList) = cutL c s.data.toList := by
  unfold cutS
  rw [List.map_map]
  have : ((fun x : ByteArray => x.data.toList) ∘ fun l : List UInt8 => (⟨l.toArray⟩ : ByteArray)) = id := by funext l; simp
  rw [this, List.map_id]
theorem cutS_len (c : UInt8) (s : ByteArray) : (cutS c s).length = (cutL c s.data.toList).length := by unfold cutS; rw [List.length_map]
theorem cutS_miss {c : UInt8} {s : ByteArray} (h : indexByte s.data.toList c = -1) : cutS c s = [s] := by
  unfold cutS cutL
  rw [cutF_miss c _ _ h, List.nil_append]
  simp
theorem cutS_hit {c : UInt8} {s : ByteArray} {i : Nat} (h : indexByte s.data.toList c = i) : cutS c s = s.extract 0 i :: cutS c (s.extract (i + 1) s.size) := by
  have e1 : (⟨(s.data.toList.take i).toArray⟩ : ByteArray) = s.extract 0 i := ba_ext (by rw [extract_from_zero])
  have e2 : s.data.toList.drop (i + 1) = (s.extract (i + 1) s.size).data.toList := (extract_to_end s (i + 1)).symm
  unfold cutS
  rw [show cutL c s.data.toList = cutF c [] s.data.toList from rfl, cutF_hit c _ _ i h, List.nil_append, List.map_cons, e1, e2]
theorem index_lt {l : List UInt8} {c : UInt8} {i : Nat} (h : indexByte l c = i) : i < l.length := by
  induction l generalizing i with
  | nil => unfold indexByte at h; omega
  | cons x r ih =>
    unfold indexByte at h
    split at h
    · simp; omega
    · split at h
      · omega
      · rename_i hm
        have := indexByte_ge r c
        have h0 : indexByte r c ≠ -1 := fun e => hm (by rw [e]; rfl)
        have := ih (i := i - 1) (by omega)
        simp; omega
theorem dlen (s : ByteArray) : s.data.toList.length = s.size := by rw [Array.length_toList]; rfl
theorem cutS_piece {c : UInt8} {s p : ByteArray} (h : p ∈ cutS c s) : p.size ≤ s.size := by
  unfold cutS at h
  obtain ⟨l, h1, rfl⟩ := List.mem_map.1 h
  have := cutF_piece c _ _ _ h1
  rw [dlen] at this
  have e : (⟨l.toArray⟩ : ByteArray).size = l.length := rfl
  rw [e]
  simp only [List.length_nil] at this
  omega
/-- what strings.Split gives -/
theorem splitB_cut (c : UInt8) : ∀ (k : Nat) (s : ByteArray), (cutL c s.data.toList).length ≤ k + 1 → splitB ⟨#[c]⟩ 0 k s = cutS c s
  | 0, s, h => by
    have : indexByte s.data.toList c = -1 := by
      by_cases h1 : indexByte s.data.toList c = -1
      · exact h1
      · exfalso
        obtain ⟨i, hi⟩ : ∃ i : Nat, indexByte s.data.toList c = i := ⟨(indexByte s.data.toList c).toNat, by have := indexByte_ge s.data.toList c; omega⟩
        rw [show cutL c s.data.toList = cutF c [] s.data.toList from rfl, cutF_hit c _ _ i hi, List.length_cons] at h
        have := (cutL_len c (s.data.toList.drop (i + 1))).1
        omega
    rw [cutS_miss this]; rfl
  | k + 1, s, h => by
    have e : indexB s ⟨#[c]⟩ = indexByte s.data.toList c := index_one _ c
    by_cases h1 : indexByte s.data.toList c = -1
    · rw [cutS_miss h1, splitB_miss _ _ _ _ (by rw [e, h1])]
    · obtain ⟨i, hi⟩ : ∃ i : Nat, indexByte s.data.toList c = i := ⟨(indexByte s.data.toList c).toNat, by have := indexByte_ge s.data.toList c; omega⟩
      rw [cutS_hit hi, splitB_hit _ _ _ _ i (by rw [e, hi]), Nat.add_zero]
      have hs : (⟨#[c]⟩ : ByteArray).size = 1 := rfl
      rw [hs, splitB_cut c k]
      rw [extract_to_end]
      rw [show cutL c s.data.toList = cutF c [] s.data.toList from rfl, cutF_hit c _ _ i hi, List.length_cons] at h
      omega
theorem count_cut (c : UInt8) : ∀ (l acc : List UInt8), (cutF c acc l).length = l.count c + 1
  | [], _ => rfl
  | x :: r, acc => by
    by_cases h : x = c
    · subst h
      rw [cutF_cons_eq, List.length_cons, count_cut x r [], List.count_cons_self]
    · rw [cutF_cons_ne _ _ h, count_cut c r, List.count_cons_of_ne h]
theorem countB_cut (c : UInt8) (s : ByteArray) : countB s ⟨#[c]⟩ + 1 = (cutS c s).length := by
  rw [cutS_len, show cutL c s.data.toList = cutF c [] s.data.toList from rfl, count_cut]
  have : countB s ⟨#[c]⟩ = s.data.toList.count c := count_one c _
  rw [this]
theorem split_all (c : UInt8) (s : ByteArray) : splitB ⟨#[c]⟩ 0 (countB s ⟨#[c]⟩) s = cutS c s := splitB_cut c _ s (by have := countB_cut c s; rw [cutS_len] at this; omega)
end Go.Proofs.YtblkdcapampniaaDoor.VerN
