/- The newest-first order of versions is the stable sort by one comparison. Conditions: as each says. -/
import Derived.Test.YtblkdcapampniaaDoorNewB
set_option linter.unusedVariables false
set_option linter.unusedSimpArgs false
/- Plain facts for VersionNewest: a text is put behind the last one that does not stand behind it. -/
namespace Go.Proofs.YtblkdcapampniaaDoor
open SortM VerN
theorem ins_split {α : Type} {lt : α → α → Bool} (x : α) : ∀ (p q : List α), (∀ y ∈ p, lt x y = false) → (∀ y ∈ q, lt x y = true) → ins lt x (p ++ q) = p ++ x :: q
  | [], [], _, _ => rfl
  | [], y :: r, _, hq => by
    show ins lt x (y :: r) = x :: y :: r
    unfold ins
    rw [if_pos (hq y (by simp))]
  | y :: p, q, hp, hq => by
    show ins lt x (y :: (p ++ q)) = y :: (p ++ x :: q)
    unfold ins
    rw [if_neg (by rw [hp y (by simp)]; simp), ins_split x p q (fun z hz => hp z (by simp [hz])) hq]
/-- one round of the law's own loop -/
theorem ins_round {α : Type} {lt : α → α → Bool} (h : Swo lt) {x : α} {l : List α} (hl : Sorted lt l) {at_ : Nat} (hat : at_ ≤ l.length) (hq : ∀ i (hi : i < l.length), at_ ≤ i → lt x l[i] = true) (hp : ∀ h0 : 0 < at_, lt x (l[at_ - 1]'(by omega)) = false) :
    ins lt x l = l.take at_ ++ x :: l.drop at_ := by
  have e := ins_split (lt := lt) x (l.take at_) (l.drop at_) ?_ ?_
  · rw [List.take_append_drop] at e
    exact e
  · intro y hy
    obtain ⟨i, hi, rfl⟩ := List.mem_iff_getElem.1 hy
    rw [List.length_take] at hi
    rw [List.getElem_take]
    have hpos : 0 < at_ := by omega
    have h1 := hp hpos
    by_cases he : i = at_ - 1
    · subst he; exact h1
    · have h2 := List.pairwise_iff_getElem.1 hl i (at_ - 1) (by omega) (by omega) (by omega)
      exact h.ntrans _ _ _ h2 h1
  · intro y hy
    obtain ⟨i, hi, rfl⟩ := List.mem_iff_getElem.1 hy
    rw [List.length_drop] at hi
    rw [List.getElem_drop]
    exact hq _ (by omega) (by omega)
theorem newest_snoc (l : List Tx) (x : Tx) : newest (l ++ [x]) = ins (Go.Proofs.ltOf newCf) x (newest l) := ssort_snoc l x
theorem newest_sorted (l : List Tx) : Sorted (Go.Proofs.ltOf newCf) (newest l) := ssort_sorted newSwo l
theorem less_new (x y : Tx) : lessL y.1.data.toList x.1.data.toList = Go.Proofs.ltOf newCf x y := by
  unfold Go.Proofs.ltOf newCf
  rw [less_is]
  have := row_compare.tri y.1.data.toList x.1.data.toList
  exact decide_eq_decide.2 ⟨fun h => by omega, fun h => by omega⟩
end Go.Proofs.YtblkdcapampniaaDoor
