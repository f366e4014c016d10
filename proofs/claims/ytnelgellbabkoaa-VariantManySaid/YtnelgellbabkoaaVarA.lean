/- Plain facts: the settings of variants by their numbers. -/
import Derived.Test.YtnelgellbabkoaaVarD
import Derived.Laws.StructEq
namespace Go.Proofs.Ytnelgellbabkoaa
open Go.RowKit

theorem beq_dec (x y : ByteArray) : (x == y) = decide (x = y) := by
  rw [beq_toListBytes, ByteArray.toList_eq, ByteArray.toList_eq]
  by_cases h : x = y
  · subst h; simp
  · have : x.data.toList ≠ y.data.toList := fun e => h (ByteArray.ext (Array.ext' e))
    simpa [h] using fun e => this (congrArg Array.toList e)
theorem flat_at (s : ByteArray) (O : List (List Setg)) (hO : 0 < O.length) : ∀ (ys : List ByteArray) (i : Nat), i < ys.length * O.length → ∃ f y, O[i % O.length]? = some f ∧ ys[i / O.length]? = some y ∧ (ys.flatMap fun y => ext1 s y O)[i]? = some (f ++ [(s, y)])
  | [], i, h => by simp at h
  | y :: ys, i, h => by
    rw [List.flatMap_cons]
    by_cases hi : i < O.length
    · refine ⟨O[i], y, ?_, ?_, ?_⟩
      · rw [Nat.mod_eq_of_lt hi]; exact List.getElem?_eq_getElem hi
      · rw [Nat.div_eq_of_lt hi]; rfl
      · rw [List.getElem?_append_left (by rw [ext1_len]; exact hi)]
        unfold ext1
        rw [List.getElem?_map, List.getElem?_eq_getElem hi]; rfl
    · have hle : O.length ≤ i := by omega
      rw [List.length_cons, Nat.succ_mul] at h
      obtain ⟨f, y', h1, h2, h3⟩ := flat_at s O hO ys (i - O.length) (by omega)
      refine ⟨f, y', ?_, ?_, ?_⟩
      · rw [Nat.mod_eq_sub_mod hle]; exact h1
      · rw [Nat.div_eq_sub_div hO hle]; exact h2
      · rw [List.getElem?_append_right (by rw [ext1_len]; exact hle), ext1_len]; exact h3
/-- how many settings the first variants have -/
def cnt (l : List Var) (j : Nat) : Nat := (allOf (l.take j)).length
theorem cnt_zero (l : List Var) : cnt l 0 = 1 := rfl
theorem cnt_succ {l : List Var} {k : Nat} (h : k < l.length) : cnt l (k + 1) = l[k].2.length * cnt l k := by
  unfold cnt
  rw [allOf_succ h]
  unfold allStep
  rw [vals_len]
theorem cnt_all (l : List Var) : cnt l l.length = (allOf l).length := by unfold cnt; rw [List.take_length]
theorem cnt_dvd {l : List Var} {j : Nat} : ∀ k, j ≤ k → k ≤ l.length → cnt l j ∣ cnt l k
  | 0, h, _ => by obtain rfl : j = 0 := by omega
                  exact Nat.dvd_refl _
  | k + 1, h, hk => by
    by_cases e : j = k + 1
    · subst e; exact Nat.dvd_refl _
    · rw [cnt_succ (by omega)]
      exact Nat.dvd_trans (cnt_dvd k (by omega) (by omega)) (Nat.dvd_mul_left _ _)
theorem cnt_pos {l : List Var} (hl : ∀ x ∈ l, 0 < x.2.length) : ∀ k, k ≤ l.length → 0 < cnt l k
  | 0, _ => by rw [cnt_zero]; omega
  | k + 1, hk => by
    rw [cnt_succ (by omega)]
    exact Nat.mul_pos (hl _ (List.getElem_mem _)) (cnt_pos hl k (by omega))
theorem all_at {l : List Var} (hl : ∀ x ∈ l, 0 < x.2.length) : ∀ k, k ≤ l.length → ∀ i, i < cnt l k → ∃ f, (allOf (l.take k))[i]? = some f ∧ f.length = k ∧ ∀ j, j < k → ∃ x y, l[j]? = some x ∧ f[j]? = some (x.1, y) ∧ x.2[(i / cnt l j) % x.2.length]? = some y
  | 0, _, i, h => by
    rw [cnt_zero] at h
    obtain rfl : i = 0 := by omega
    exact ⟨[], rfl, rfl, fun j hj => by omega⟩
  | k + 1, hk, i, h => by
    have hkl : k < l.length := by omega
    have hp := cnt_pos hl k (by omega)
    have hc := cnt_succ hkl
    rw [hc] at h
    obtain ⟨f, y, h1, h2, h3⟩ := flat_at l[k].1 (allOf (l.take k)) hp l[k].2 i h
    have hm : i % (allOf (l.take k)).length < cnt l k := Nat.mod_lt _ hp
    obtain ⟨g, g1, g2, g3⟩ := all_at hl k (by omega) _ hm
    rw [h1] at g1
    injection g1 with g1
    subst g1
    refine ⟨f ++ [(l[k].1, y)], ?_, by simp [g2], fun j hj => ?_⟩
    · rw [allOf_succ hkl]; exact h3
    · by_cases hjk : j < k
      · obtain ⟨x, z, e1, e2, e3⟩ := g3 j hjk
        refine ⟨x, z, e1, ?_, ?_⟩
        · rw [List.getElem?_append_left (by omega)]; exact e2
        · have hjl : j < l.length := by omega
          have hx : l[j] = x := by rw [List.getElem?_eq_getElem hjl] at e1; injection e1
          obtain ⟨c, hc2⟩ := cnt_dvd (l := l) (j := j + 1) k (by omega) (by omega)
          rw [cnt_succ hjl, hx] at hc2
          have e4 : cnt l k = cnt l j * (x.2.length * c) := by rw [hc2, ← Nat.mul_assoc, Nat.mul_comm (cnt l j)]
          have e5 : i % (allOf (l.take k)).length / cnt l j % x.2.length = i / cnt l j % x.2.length := by
            show i % cnt l k / cnt l j % x.2.length = _
            rw [e4, Nat.mod_mul_right_div_self, Nat.mod_mul_right_mod]
          rw [← e5]; exact e3
      · obtain rfl : j = k := by omega
        refine ⟨l[j], y, List.getElem?_eq_getElem hkl, ?_, ?_⟩
        · rw [List.getElem?_append_right (by omega), g2]; simp
        · have : i / cnt l j < l[j].2.length := (Nat.div_lt_iff_lt_mul hp).2 h
          rw [Nat.mod_eq_of_lt this]; exact h2
/-- are settings of variants? -/
structure LegalIs (l : List Var) (s : List Setg) : Prop where
  len : s.length = l.length
  at' : ∀ j (h : j < l.length), ∃ y, s[j]? = some (l[j].1, y) ∧ y ∈ l[j].2
theorem all_legal {l : List Var} (hl : ∀ x ∈ l, 0 < x.2.length) {i : Nat} {f : List Setg} (h : (allOf l)[i]? = some f) : LegalIs l f := by
  have hi : i < cnt l l.length := by
    rw [cnt_all]
    exact (List.getElem?_eq_some_iff.1 h).1
  obtain ⟨g, h1, h2, h3⟩ := all_at hl l.length (Nat.le_refl _) i hi
  rw [List.take_length, h] at h1
  injection h1 with h1
  subst h1
  refine ⟨h2, fun j hj => ?_⟩
  obtain ⟨x, y, e1, e2, e3⟩ := h3 j hj
  rw [List.getElem?_eq_getElem hj] at e1
  injection e1 with e1
  subst e1
  exact ⟨y, e2, List.mem_of_getElem? e3⟩
end Go.Proofs.Ytnelgellbabkoaa
