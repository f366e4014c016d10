/- Plain facts: the place of the first element of which a predicate holds. No condition. -/
import Derived.Test.YtoljhahmmdibfaaOpen
import Derived.Shelf.Abstract
set_option linter.unusedVariables false
set_option linter.unusedSimpArgs false
namespace Go.Proofs.Ytoljhahmmdibfaa

def idxOf {α : Type} (p : α → Bool) (l : List α) : Int := match l.findIdx? p with
  | some i => i
  | none => -1
/-- it holds of none of the first k -/
def NoneIn {α : Type} (p : α → Bool) (l : List α) (k : Nat) : Prop := ∀ i (h : i < l.length), i < k → p l[i] = false
theorem noneIn_zero {α : Type} (p : α → Bool) (l : List α) : NoneIn p l 0 := fun _ _ h => by omega
theorem noneIn_succ {α : Type} {p : α → Bool} {l : List α} {k : Nat} (h : k < l.length) (hn : NoneIn p l k) (hk : p l[k] = false) : NoneIn p l (k + 1) := fun i hi hik => by
  by_cases e : i = k
  · subst e; exact hk
  · exact hn i hi (by omega)
theorem idxOf_at {α : Type} {p : α → Bool} {l : List α} {k : Nat} (h : k < l.length) (hn : NoneIn p l k) (hk : p l[k] = true) : idxOf p l = k := by
  have : l.findIdx? p = some k := by
    rw [List.findIdx?_eq_some_iff_getElem]
    exact ⟨h, hk, fun j hj => by simpa using hn j (by omega) hj⟩
  unfold idxOf; rw [this]
theorem idxOf_none {α : Type} {p : α → Bool} {l : List α} {k : Nat} (h : l.length ≤ k) (hn : NoneIn p l k) : idxOf p l = -1 := by
  have : l.findIdx? p = none := by
    rw [List.findIdx?_eq_none_iff]
    intro x hx
    obtain ⟨i, hi, e⟩ := List.mem_iff_getElem.1 hx
    rw [← e]; exact hn i hi (by omega)
  unfold idxOf; rw [this]
theorem idxOf_any {α : Type} (p : α → Bool) (l : List α) : l.any p = true ↔ 0 ≤ idxOf p l := by
  unfold idxOf
  cases h : l.findIdx? p with
  | none =>
    rw [List.findIdx?_eq_none_iff] at h
    simp only [List.any_eq_true]
    constructor
    · rintro ⟨x, hx, hp⟩; rw [h x hx] at hp; cases hp
    · intro h2; omega
  | some i =>
    rw [List.findIdx?_eq_some_iff_getElem] at h
    obtain ⟨hi, hp, _⟩ := h
    simp only [List.any_eq_true]
    exact ⟨fun _ => by omega, fun _ => ⟨l[i], List.getElem_mem hi, hp⟩⟩
theorem idxOf_bd {α : Type} (p : α → Bool) (l : List α) : -1 ≤ idxOf p l ∧ idxOf p l < l.length + 1 := by
  unfold idxOf
  cases h : l.findIdx? p with
  | none => simp; omega
  | some i =>
    rw [List.findIdx?_eq_some_iff_getElem] at h
    obtain ⟨hi, _⟩ := h
    simp only; omega
end Go.Proofs.Ytoljhahmmdibfaa
