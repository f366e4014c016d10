/- Plain facts: names and values of variants. No condition. -/
import Derived.Lib.Small
namespace Go.Proofs.Ytnelgellbabkoaa.VarM

def letN (n : Nat) : Bool := decide (97 ≤ n) && decide (n ≤ 122)
def digN (n : Nat) : Bool := decide (48 ≤ n) && decide (n ≤ 57)
def okN (n : Nat) : Bool := letN n || digN n || decide (n = 45)
abbrev Bs := List UInt8
def okB (c : UInt8) : Bool := okN c.toNat
def digB (c : UInt8) : Bool := digN c.toNat
def headN (l : Bs) : Nat := (l.headD 0).toNat
/-- whether a text is a name -/
def nameOf (l : Bs) : Bool := l.all okB && (decide (0 < l.length) && (decide (l.length ≤ 24) && letN (headN l)))
def digsOf (l : Bs) : Bool := l.all digB && decide (0 < l.length)
/-- whether a text may be a value -/
def valueOf (l : Bs) : Bool := nameOf l || (digsOf l && decide (l.length ≤ 3))
theorem all_succ {p : UInt8 → Bool} {l : Bs} {k : Nat} (h : k < l.length) (h1 : (l.take k).all p = true) (h2 : p l[k] = true) : (l.take (k + 1)).all p = true := by
  rw [List.take_succ_eq_append_getElem h, List.all_append, h1]; simp [h2]
theorem all_no {p : UInt8 → Bool} {l : Bs} {k : Nat} (h : k < l.length) (h2 : p l[k] = false) : l.all p = false := by
  rw [Bool.eq_false_iff]; intro h3
  have := List.all_eq_true.1 h3 _ (List.getElem_mem h)
  rw [h2] at this; cases this
theorem name_no {l : Bs} (h : l.all okB = false) : nameOf l = false := by unfold nameOf; rw [h]; rfl
theorem name_all {l : Bs} (h : l.all okB = true) : nameOf l = (decide (0 < l.length) && (decide (l.length ≤ 24) && letN (headN l))) := by unfold nameOf; rw [h]; rfl
theorem name_pos {l : Bs} (h : nameOf l = true) : 0 < l.length ∧ l.length ≤ 24 := by
  unfold nameOf at h
  simp only [Bool.and_eq_true, decide_eq_true_eq] at h
  exact ⟨h.2.1, h.2.2.1⟩
theorem okN_let {n : Nat} (h : letN n = true) : okN n = true := by unfold okN; rw [h]; rfl
theorem okN_dig {n : Nat} (h : digN n = true) : okN n = true := by unfold okN; rw [h]; simp
theorem okN_no {n : Nat} (h1 : letN n = false) (h2 : digN n = false) (h3 : n ≠ 45) : okN n = false := by unfold okN; rw [h1, h2]; simp [h3]
theorem name_head {l : Bs} (h : letN (headN l) = false) : nameOf l = false := by unfold nameOf; rw [h]; simp
end Go.Proofs.Ytnelgellbabkoaa.VarM
