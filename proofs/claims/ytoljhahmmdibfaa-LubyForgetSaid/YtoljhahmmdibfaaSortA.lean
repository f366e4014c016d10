/- Rows of elements of some cells each: an element is put, two are exchanged. No condition. -/
import Derived.Test.YtoljhahmmdibfaaKit
import Derived.Test.YtoljhahmmdibfaaSortM
set_option linter.unusedVariables false
set_option linter.unusedSimpArgs false
namespace Go.Proofs.Ytoljhahmmdibfaa
open Go.RowKit
open SortM

/-- values written from a place on -/
def wr (xs : List Value) : Nat → List Value → List Value
  | _, [] => xs
  | o, v :: vs => wr (xs.set o v) (o + 1) vs
theorem wr_mid : ∀ (vs as1 pre r : List Value), as1.length = vs.length → wr (pre ++ as1 ++ r) pre.length vs = pre ++ vs ++ r := by
  intro vs
  induction vs with
  | nil => intro as1 pre r h; have := List.eq_nil_of_length_eq_zero h; subst this; rfl
  | cons v vs ih =>
    intro as1 pre r h
    match as1, h with
    | a :: as1, h =>
      unfold wr
      have e : (pre ++ a :: as1 ++ r).set pre.length v = (pre ++ [v]) ++ as1 ++ r := by
        rw [List.append_assoc, List.set_append_right _ _ (Nat.le_refl _)]
        simp
      rw [e]
      have := ih as1 (pre ++ [v]) r (by simpa using h)
      rw [List.length_append, List.length_singleton] at this
      rw [this]
      simp
theorem flat_set {α : Type} (f : α → List Value) (k : Nat) (hk : ∀ x, (f x).length = k) (l : List α) (i : Nat) (h : i < l.length) (y : α) : wr (l.flatMap f) (i * k) (f y) = (l.set i y).flatMap f := by
  have h1 : l = l.take i ++ l[i] :: l.drop (i + 1) := by rw [← List.drop_eq_getElem_cons h, List.take_append_drop]
  have h2 : l.set i y = l.take i ++ y :: l.drop (i + 1) := by rw [List.set_eq_take_append_cons_drop, if_pos h]
  have hl : ((l.take i).flatMap f).length = i * k := by
    have : ∀ m : List α, (m.flatMap f).length = m.length * k := by
      intro m
      induction m with
      | nil => simp
      | cons a m ih => rw [List.flatMap_cons, List.length_append, ih, hk, List.length_cons, Nat.succ_mul]; omega
    rw [this, List.length_take, Nat.min_eq_left (by omega)]
  have e1 : l.flatMap f = (l.take i).flatMap f ++ f l[i] ++ (l.drop (i + 1)).flatMap f := by
    conv => lhs; rw [h1]
    rw [List.flatMap_append, List.flatMap_cons, List.append_assoc]
  rw [h2, e1, ← hl, wr_mid _ _ _ _ (by rw [hk, hk]), List.flatMap_append, List.flatMap_cons, List.append_assoc]
theorem flat_get {α : Type} (f : α → List Value) (k : Nat) (hk : ∀ x, (f x).length = k) (l : List α) (i : Nat) (h : i < l.length) (j : Nat) (hj : j < k) : (l.flatMap f)[i * k + j]? = (f l[i])[j]? := by
  induction l generalizing i with
  | nil => simp at h
  | cons a l ih =>
    rw [List.flatMap_cons]
    match i, h with
    | 0, _ =>
      rw [List.getElem?_append_left (by rw [hk]; omega)]
      simp
    | i + 1, h =>
      have hge : (f a).length ≤ (i + 1) * k + j := by rw [hk, Nat.succ_mul]; omega
      rw [List.getElem?_append_right hge, hk, show (i + 1) * k + j - k = i * k + j by rw [Nat.succ_mul]; omega]
      exact ih i (by simpa using h)
def swapAt {α : Type} (l : List α) (i j : Nat) : List α := match l[i]?, l[j]? with
  | some x, some y => (l.set i y).set j x
  | _, _ => l
theorem swapAt_len {α : Type} (l : List α) (i j : Nat) : (swapAt l i j).length = l.length := by
  unfold swapAt; split <;> simp
theorem swapAt_eq {α : Type} (l : List α) (i j : Nat) (hi : i < l.length) (hj : j < l.length) : swapAt l i j = (l.set i l[j]).set j l[i] := by
  unfold swapAt
  rw [List.getElem?_eq_getElem hi, List.getElem?_eq_getElem hj]
/-- two neighbours, as1 parts of the row -/
theorem swapAt_next {α : Type} (p : List α) (x y : α) (q : List α) : swapAt (p ++ x :: y :: q) p.length (p.length + 1) = p ++ y :: x :: q := by
  rw [swapAt_eq _ _ _ (by simp) (by simp)]
  have e1 : (p ++ x :: y :: q)[p.length + 1]'(by simp) = y := by
    rw [List.getElem_append_right (by omega)]; simp
  have e2 : (p ++ x :: y :: q)[p.length]'(by simp) = x := by
    rw [List.getElem_append_right (by omega)]; simp
  rw [e1, e2, List.set_append_right _ _ (Nat.le_refl _), List.set_append_right _ _ (by omega)]
  simp
end Go.Proofs.Ytoljhahmmdibfaa
