/- Plain facts: a sorted row without what stands twice is shorter just if two are alike. No condition. -/
import Derived.Lib.SlicesCompact
import Derived.Sort.KeysCollected
namespace Go.Proofs.Ytnelgellbabkoaa.TwiceM
open Go.Lib

theorem compact_lt {α : Type} [Inhabited α] [DecidableEq α] (S : List α) : (compact S).length < S.length ↔ ∃ j, 0 < j ∧ j < S.length ∧ S.toArray[j]! = S.toArray[j - 1]! := by
  unfold compact compactUpTo
  rw [List.length_map]
  have h : (List.filter (keeps S.toArray) (List.range S.length)).length < (List.range S.length).length ↔ ∃ x ∈ List.range S.length, ¬ keeps S.toArray x = true := List.length_filter_lt_length_iff_exists
  rw [List.length_range] at h
  rw [h]
  constructor
  · rintro ⟨j, hj, hk⟩
    simp only [List.mem_range] at hj
    unfold keeps at hk
    simp only [decide_eq_true_eq, not_or, Classical.not_not] at hk
    exact ⟨j, by omega, hj, hk.2⟩
  · rintro ⟨j, h0, hj, he⟩
    refine ⟨j, by simpa using hj, ?_⟩
    unfold keeps
    simp only [decide_eq_true_eq, not_or, Classical.not_not]
    exact ⟨by omega, he⟩
abbrev leB (x y : List UInt8) : Bool := decide (x ≤ y)
theorem sorted (L : List (List UInt8)) : (L.mergeSort leB).Pairwise fun x y => x ≤ y := by
  have := List.pairwise_mergeSort (le := leB) (fun a b c h1 h2 => by simp only [leB, decide_eq_true_eq] at *; exact List.le_trans h1 h2) (fun a b => by simp only [leB, Bool.or_eq_true, decide_eq_true_eq]; exact List.le_total a b) L
  exact this.imp fun h => by simpa [leB] using h
theorem compact_sort (L : List (List UInt8)) : (compact (L.mergeSort leB)).length < L.length ↔ ¬ L.Nodup := by
  have hp : (L.mergeSort leB).Perm L := List.mergeSort_perm _ _
  obtain ⟨S, hS⟩ : ∃ S, S = L.mergeSort leB := ⟨_, rfl⟩
  have hs := sorted L
  rw [← hS] at hs hp ⊢
  rw [← hp.length_eq, compact_lt, ← hp.nodup_iff]
  constructor
  · rintro ⟨j, h0, hj, he⟩ hn
    rw [getElem!_pos S.toArray j (by simpa using hj), getElem!_pos S.toArray (j - 1) (by simp; omega)] at he
    simp only [List.getElem_toArray] at he
    have := List.pairwise_iff_getElem.1 hn (j - 1) j (by omega) hj (by omega)
    exact this he.symm
  · intro hn
    have hex : ∃ i j, ∃ (hi : i < S.length) (hj : j < S.length), i < j ∧ S[i] = S[j] := by
      apply Classical.byContradiction
      intro hno
      refine hn (List.pairwise_iff_getElem.2 fun i j hi hj hij e => hno ⟨i, j, hi, hj, hij, e⟩)
    obtain ⟨i, j, hi, hj, hij, e⟩ := hex
    refine ⟨j, by omega, hj, ?_⟩
    rw [getElem!_pos S.toArray j (by simpa using hj), getElem!_pos S.toArray (j - 1) (by simp; omega)]
    simp only [List.getElem_toArray]
    by_cases h1 : i = j - 1
    · subst h1; exact e.symm
    · have q1 := List.pairwise_iff_getElem.1 hs i (j - 1) hi (by omega) (by omega)
      have q2 := List.pairwise_iff_getElem.1 hs (j - 1) j (by omega) hj (by omega)
      rw [e] at q1
      exact List.le_antisymm q1 q2
/-- whether two of texts are alike -/
def twiceOf (l : List ByteArray) : Bool := decide ((compact ((l.map (·.data.toList)).mergeSort leB)).length < l.length)
theorem bytes_inj {a b : ByteArray} (h : a.data.toList = b.data.toList) : a = b := by
  cases a; cases b
  simp only [ByteArray.mk.injEq]
  exact Array.toList_inj.1 h
theorem twice_iff (l : List ByteArray) : twiceOf l = !decide l.Nodup := by
  unfold twiceOf
  have h := compact_sort (l.map (·.data.toList))
  rw [List.length_map] at h
  have h2 : (l.map (·.data.toList)).Nodup ↔ l.Nodup := by
    unfold List.Nodup
    rw [List.pairwise_map]
    constructor
    · exact fun h => h.imp fun h e => h (by rw [e])
    · exact fun h => h.imp fun h e => h (bytes_inj e)
  rw [h2] at h
  rw [Bool.eq_iff_iff]
  simp only [decide_eq_true_eq, Bool.not_eq_true', decide_eq_false_iff_not]
  exact h
end Go.Proofs.Ytnelgellbabkoaa.TwiceM
