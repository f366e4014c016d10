/- Which ones are forgotten, as a plain function of the notes. Conditions: as each says. -/
import Derived.Test.YtoljhahmmdibfaaForgM
set_option linter.unusedVariables false
set_option linter.unusedSimpArgs false
/- Plain facts for the law LubyForget: the two ways to the numbers of those to forget are one. -/
namespace Go.Proofs.Ytoljhahmmdibfaa.ForgM
open Go.Proofs.Ytoljhahmmdibfaa.SortM

/-- something that was learnt: its number, its size, its levels, whether it is locked -/
abbrev NT := Int × Int × Int × Bool
def mayN (x : NT) : Bool := !x.2.2.2 && (decide (2 < x.2.1) && decide (2 < x.2.2.1))
def wlt (a b : NT) : Bool := decide (b.2.2.1 < a.2.2.1) || (decide (a.2.2.1 = b.2.2.1) && (decide (b.2.1 < a.2.1) || (decide (a.2.1 = b.2.1) && decide (a.1 < b.1))))
theorem wlt_iff (a b : NT) : wlt a b = true ↔ b.2.2.1 < a.2.2.1 ∨ (a.2.2.1 = b.2.2.1 ∧ (b.2.1 < a.2.1 ∨ (a.2.1 = b.2.1 ∧ a.1 < b.1))) := by
  unfold wlt
  simp only [Bool.or_eq_true, Bool.and_eq_true, decide_eq_true_eq]
theorem wlt_no (a b : NT) : wlt a b = false ↔ ¬ (b.2.2.1 < a.2.2.1 ∨ (a.2.2.1 = b.2.2.1 ∧ (b.2.1 < a.2.1 ∨ (a.2.1 = b.2.1 ∧ a.1 < b.1)))) := by
  rw [← wlt_iff, Bool.not_eq_true]
theorem wlt_swo : Swo wlt := ⟨fun a b h => by rw [wlt_iff] at h; rw [wlt_no]; omega, fun a b c h1 h2 => by rw [wlt_no] at *; omega⟩
/-- what the document calls worse, by their places -/
theorem ltP_wlt (x y : NT × Nat) : ltP wlt x y = (if x.1.2.2.1 ≠ y.1.2.2.1 then decide (y.1.2.2.1 < x.1.2.2.1) else if x.1.2.1 ≠ y.1.2.1 then decide (y.1.2.1 < x.1.2.1) else if x.1.1 ≠ y.1.1 then decide (x.1.1 < y.1.1) else decide (x.2 < y.2)) := by
  have h : ltP wlt x y = true ↔ (wlt x.1 y.1 = true ∨ (wlt y.1 x.1 = false ∧ x.2 < y.2)) := by
    unfold ltP
    simp only [Bool.or_eq_true, Bool.and_eq_true, Bool.not_eq_true', decide_eq_true_eq]
  rw [wlt_iff, wlt_no] at h
  refine Bool.eq_iff_iff.2 ?_
  rw [h]
  split
  · rw [decide_eq_true_eq]; omega
  · split
    · rw [decide_eq_true_eq]; omega
    · split <;> rw [decide_eq_true_eq] <;> omega
def forgetOf (l : List NT) : List Int := sortN (((ssort wlt (l.filter mayN)).take ((l.filter mayN).length / 2)).map fun x => x.1)

/-- the document's way: those that may go, with the places -/
def aheadOf (l : List NT) (i : Nat) : Nat := (l.zipIdx.filter fun y => mayN y.1 && (decide (y.2 ≠ i) && ltP wlt y (l.getD i (0, 0, 0, false), i))).length
def selOf (l : List NT) (p : NT × Nat) : Bool := mayN p.1 && decide (aheadOf l p.2 < (l.filter mayN).length / 2)
def refOf (l : List NT) : List Int := sortN ((l.zipIdx.filter (selOf l)).map fun p => p.1.1)
theorem zip_filter (l : List NT) : (l.zipIdx.filter fun y => mayN y.1).map Prod.fst = l.filter mayN := by
  have h : l = l.zipIdx.map Prod.fst := by simp
  conv => rhs; rw [h, List.filter_map]
  rfl
theorem zip_rising (l : List NT) : l.zipIdx.Pairwise fun a b => a.2 < b.2 := by
  refine List.pairwise_iff_getElem.2 fun i j hi hj hij => ?_
  simp only [List.getElem_zipIdx]
  omega
theorem ref_is (l : List NT) : refOf l = forgetOf l := by
  have hP : (l.zipIdx.filter fun y => mayN y.1).Pairwise fun a b => a.2 < b.2 := (zip_rising l).sublist List.filter_sublist
  have h1 := first_perm wlt_swo hP ((l.filter mayN).length / 2)
  have e : l.zipIdx.filter (selOf l) = (l.zipIdx.filter fun y => mayN y.1).filter fun x => decide (((l.zipIdx.filter fun y => mayN y.1).filter (ltP wlt · x)).length < (l.filter mayN).length / 2) := by
    rw [List.filter_filter]
    apply List.filter_congr
    intro p hp
    unfold selOf
    rw [Bool.and_comm]
    congr 2
    have hpi : l.getD p.2 (0, 0, 0, false) = p.1 := by
      obtain ⟨i, hi, rfl⟩ := List.getElem_of_mem hp
      have hi' : i < l.length := by simpa using hi
      simp [List.getD_eq_getElem?_getD, hi']
    unfold aheadOf
    rw [hpi, List.filter_filter]
    congr 2
    apply List.filter_congr
    intro y hy
    rw [Bool.and_comm (ltP wlt y p)]
    congr 1
    by_cases hyp : y.2 = p.2
    · have : y = p := by
        obtain ⟨i, hi, rfl⟩ := List.getElem_of_mem hy
        obtain ⟨j, hj, rfl⟩ := List.getElem_of_mem hp
        simp only [List.getElem_zipIdx] at hyp
        have : i = j := by omega
        subst this; rfl
      subst this
      rw [ltP_irrefl wlt_swo]; simp
    · simp [hyp]
  unfold refOf forgetOf
  have s1 := sortN_spec ((l.zipIdx.filter (selOf l)).map fun p => p.1.1)
  have s2 := sortN_spec (((ssort wlt (l.filter mayN)).take ((l.filter mayN).length / 2)).map fun x => x.1)
  refine rising_uniq _ _ s1.1 s2.1 (s1.2.trans (List.Perm.trans ?_ s2.2.symm))
  have h2 : (ssort wlt (l.filter mayN)) = (ssort (ltF wlt) (l.zipIdx.filter fun y => mayN y.1)).map Prod.fst := by rw [map_ssort, zip_filter]
  rw [h2, ← List.map_take, List.map_map, e]
  exact h1.map _
end Go.Proofs.Ytoljhahmmdibfaa.ForgM
