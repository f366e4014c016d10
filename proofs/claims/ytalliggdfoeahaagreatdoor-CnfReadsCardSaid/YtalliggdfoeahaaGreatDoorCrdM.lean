/- Plain facts: the text of clauses, and how long it is. No condition. -/
import Derived.Test.YtalliggdfoeahaaGreatDoorCnfA
import Derived.Test.YtalliggdfoeahaaGreatDoorVerQ
import Derived.Lib.ItoaLen
set_option linter.unusedVariables false
set_option linter.unusedSimpArgs false
namespace Go.Proofs.YtalliggdfoeahaaGreatDoor
open Go.Lib
open CnfM (InR)

def wordsL (c : List Int) : List UInt8 := c.flatMap fun x => itoa x ++ [32]
def clauseL (c : List Int) : List UInt8 := wordsL c ++ [48, 10]
def headL (n m : Int) : List UInt8 := [112, 32, 99, 110, 102, 32] ++ itoa n ++ [32] ++ itoa m ++ [10]
def cnfL (n : Int) (l : List (List Int)) : List UInt8 := headL n l.length ++ l.flatMap clauseL
theorem wordsL_succ {c : List Int} {k : Nat} (h : k < c.length) : wordsL (c.take (k + 1)) = wordsL (c.take k) ++ (itoa c[k] ++ [32]) := by
  unfold wordsL
  rw [List.take_succ_eq_append_getElem h, List.flatMap_append]
  simp
theorem clauses_succ {l : List (List Int)} {k : Nat} (h : k < l.length) : (l.take (k + 1)).flatMap clauseL = (l.take k).flatMap clauseL ++ (wordsL l[k] ++ [48, 10]) := by
  rw [List.take_succ_eq_append_getElem h, List.flatMap_append]
  simp [clauseL]
theorem itoa_21 {x : Int} (h : InR x) : (itoa x).length ≤ 21 := itoa_length_le x h.1 h.2
theorem wordsL_len : ∀ (c : List Int), (∀ x ∈ c, InR x) → (wordsL c).length ≤ 22 * c.length
  | [], _ => by simp [wordsL]
  | x :: c, h => by
    have := wordsL_len c fun y hy => h y (by simp [hy])
    have := itoa_21 (h x (by simp))
    unfold wordsL at *
    simp only [List.flatMap_cons, List.length_append, List.length_cons, List.length_nil]
    omega
theorem clauses_len : ∀ (l : List (List Int)), (∀ c ∈ l, c.length ≤ 4000 ∧ ∀ x ∈ c, InR x) → (l.flatMap clauseL).length ≤ 88002 * l.length
  | [], _ => by simp
  | c :: l, h => by
    have h1 := clauses_len l fun y hy => h y (by simp [hy])
    have h2 := h c (by simp)
    have h3 := wordsL_len c h2.2
    simp only [List.flatMap_cons, List.length_append, List.length_cons, clauseL, List.length_nil] at *
    omega
theorem headL_len {n m : Int} (hn : InR n) (hm : InR m) : (headL n m).length ≤ 50 := by
  have := itoa_21 hn
  have := itoa_21 hm
  unfold headL
  simp only [List.length_append, List.length_cons, List.length_nil]
  omega
/-- clauses of at most 4000 numbers, 4000 of them -/
def Small (l : List (List Int)) : Prop := l.length ≤ 4000 ∧ ∀ c ∈ l, c.length ≤ 4000 ∧ ∀ x ∈ c, InR x
theorem Small.take {l : List (List Int)} (h : Small l) (k : Nat) : ((l.take k).flatMap clauseL).length ≤ 352008000 := by
  have h1 := clauses_len (l.take k) fun c hc => h.2 c (List.mem_of_mem_take hc)
  have := h.1
  rw [List.length_take] at h1
  omega
theorem Small.words {l : List (List Int)} (h : Small l) {c : List Int} (hc : c ∈ l) (k : Nat) : (wordsL (c.take k)).length ≤ 88000 := by
  have h1 := wordsL_len (c.take k) fun x hx => (h.2 c hc).2 x (List.mem_of_mem_take hx)
  have := (h.2 c hc).1
  rw [List.length_take] at h1
  omega
theorem cnf_text {n : Int} {l : List (List Int)} {s : ByteArray} (h : (⟨(cnfL n l).toArray⟩ : ByteArray) = s) : cnfL n l = s.data.toList := by
  rw [← h]
end Go.Proofs.YtalliggdfoeahaaGreatDoor
