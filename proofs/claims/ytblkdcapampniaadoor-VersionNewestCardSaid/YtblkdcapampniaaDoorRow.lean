/- A slice's elements as values, and a row that a call owns read as a slice. No condition. -/
import Derived.Test.YtblkdcapampniaaDoorOpen
import Derived.Test.YtblkdcapampniaaDoorMem
set_option linter.unusedVariables false
set_option linter.unusedSimpArgs false
namespace Go.Proofs.YtblkdcapampniaaDoor
open Go.RowKit

/-- the elements of a slice, one cell each, as values -/
theorem slice_vals {α : Type} {R : Rd α} {w : World} {v : Value} {l : List α} (h : RSlice 1 R w [v] l) : ∃ (a : Option Addr) (cap : Nat) (vs : List Value), v = .slice a l.length cap ∧ l.length ≤ cap ∧ cap ≤ maxLen ∧ vs.length = l.length ∧ (∀ (i : Nat) u, vs[i]? = some u → ∃ b off, a = some ⟨b, off, none⟩ ∧ w.cell? ⟨b, off + i, none⟩ = some u) ∧ ∀ (i : Nat) u x, vs[i]? = some u → l[i]? = some x → R w [u] x := by
  obtain ⟨a, cap, hv, hcap, hmax, hel⟩ := h
  simp only [List.cons.injEq, and_true] at hv
  have hex : ∀ i (hi : i < l.length), ∃ u, (∃ b off, a = some ⟨b, off, none⟩ ∧ w.cell? ⟨b, off + i, none⟩ = some u) ∧ R w [u] l[i] := by
    intro i hi
    obtain ⟨b, off, ecs, h1, h2, h3, h4⟩ := hel i l[i] (List.getElem?_eq_getElem hi)
    match ecs, h2 with
    | [u], _ => exact ⟨u, ⟨b, off, h1, by simpa using h3 0 u rfl⟩, h4⟩
  have build : ∀ k, k ≤ l.length → ∃ vs : List Value, vs.length = k ∧ (∀ (i : Nat) u, vs[i]? = some u → ∃ b off, a = some ⟨b, off, none⟩ ∧ w.cell? ⟨b, off + i, none⟩ = some u) ∧ ∀ (i : Nat) u x, vs[i]? = some u → l[i]? = some x → R w [u] x := by
    intro k
    induction k with
    | zero => exact fun _ => ⟨[], rfl, fun i u h => by simp at h, fun i u x h => by simp at h⟩
    | succ k ih =>
      intro hk
      obtain ⟨vs, h1, h2, h3⟩ := ih (by omega)
      obtain ⟨u, h4, h5⟩ := hex k (by omega)
      refine ⟨vs ++ [u], by simp [h1], fun i x hx => ?_, fun i x y hx hy => ?_⟩
      · by_cases hi : i < vs.length
        · rw [List.getElem?_append_left hi] at hx; exact h2 i x hx
        · have hlt := (List.getElem?_eq_some_iff.1 hx).1
          have e : i = vs.length := by simp at hlt; omega
          rw [List.getElem?_append_right (by omega), e, Nat.sub_self] at hx
          simp at hx; subst hx
          rw [e, h1]; exact h4
      · by_cases hi : i < vs.length
        · rw [List.getElem?_append_left hi] at hx; exact h3 i x y hx hy
        · have hlt := (List.getElem?_eq_some_iff.1 hx).1
          have e : i = vs.length := by simp at hlt; omega
          rw [List.getElem?_append_right (by omega), e, Nat.sub_self] at hx
          simp at hx; subst hx
          rw [e, h1, List.getElem?_eq_getElem (by omega)] at hy
          simp at hy; subst hy
          exact h5
  obtain ⟨vs, h1, h2, h3⟩ := build l.length (Nat.le_refl _)
  exact ⟨a, cap, vs, hv, hcap, hmax, h1, h2, h3⟩
/-- a row that the call owns, each of whose cells reads, reads as a slice -/
theorem slice_of_owns {α : Type} {R : Rd α} {w : World} {B : Nat} {e : TypeId} {v : Value} {vs : List Value} {l : List α} (hlen : vs.length = l.length) (h : w.ownsRow B e 1 v l.length vs) (hr : ∀ (i : Nat) u x, vs[i]? = some u → l[i]? = some x → R w [u] x) : RSlice 1 R w [v] l := by
  obtain ⟨a, cap, rfl, h1, h2, h3⟩ := Sl.of_owns h
  refine ⟨a, cap, rfl, h1, h2, fun i f hi => ?_⟩
  have hil := (List.getElem?_eq_some_iff.1 hi).1
  have hiv : i < vs.length := by omega
  obtain ⟨b, off, ha, hc⟩ := h3 i vs[i] (List.getElem?_eq_getElem hiv)
  refine ⟨b, off, [vs[i]], ha, rfl, fun j u hu => ?_, hr i _ f (List.getElem?_eq_getElem hiv) hi⟩
  have hj : j = 0 := by have := (List.getElem?_eq_some_iff.1 hu).1; simp at this; omega
  subst hj
  simp at hu
  subst hu
  simpa using hc
end Go.Proofs.YtblkdcapampniaaDoor
