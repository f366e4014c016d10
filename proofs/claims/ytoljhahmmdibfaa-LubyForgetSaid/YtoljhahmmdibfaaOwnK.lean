/- A bridge between a row that a call owns and the sort's words on rows, at elements of k cells. -/
import Derived.Test.YtoljhahmmdibfaaSortA
import Derived.Test.YtoljhahmmdibfaaMem
import Derived.Shelf.SlSortCmp.KitK
set_option linter.unusedVariables false
set_option linter.unusedSimpArgs false
namespace Go.Proofs.Ytoljhahmmdibfaa
open Go.Shelf Go.RowKit Go.Lib Go.Sort
variable {α : Type}
theorem flatMap_len {enc : α → List Value} {k : Nat} (hk : ∀ x, (enc x).length = k) : ∀ l : List α, (l.flatMap enc).length = l.length * k
  | [] => by simp
  | x :: l => by rw [List.flatMap_cons, List.length_append, flatMap_len hk l, hk, List.length_cons, Nat.succ_mul]; omega
/-- the first elements of a row that a call owns -/
theorem owns_take {enc : α → List Value} {k : Nat} (hk : ∀ x, (enc x).length = k) {w : World} {base g n cap : Nat} {e : TypeId} {l : List α} (h : w.ownsRow base e k (.slice (some ⟨g, 0, none⟩) n cap) n (l.flatMap enc)) (hl : l.length = n) (m : Nat) (hm : m ≤ n) : w.ownsRow base e k (.slice (some ⟨g, 0, none⟩) m cap) m ((l.take m).flatMap enc) := by
  rcases h.2 with ⟨e0, _⟩ | ⟨g', cap', cur, e0, hb, hg, hn, hmx, hcs, ht⟩
  · cases e0
  · injection e0 with e1 _ e3
    injection e1 with e1
    injection e1 with e1
    subst e1; subst e3
    have hmk : m * k ≤ n * k := Nat.mul_le_mul_right _ hm
    refine ⟨by rw [flatMap_len hk, List.length_take, Nat.min_eq_left (by omega)], .inr ⟨g, cap, cur, rfl, hb, hg, by omega, hmx, hcs, ?_⟩⟩
    have e5 : (l.take m).flatMap enc = (l.flatMap enc).take (m * k) := by
      have e6 : l.flatMap enc = (l.take m).flatMap enc ++ (l.drop m).flatMap enc := by rw [← List.flatMap_append, List.take_append_drop]
      have e7 : ((l.take m).flatMap enc).length = m * k := by rw [flatMap_len hk, List.length_take, Nat.min_eq_left (by omega)]
      rw [e6, ← e7]
      exact List.take_left.symm
    rw [e5, ← ht, List.take_take, Nat.min_eq_left hmk]
variable [Inhabited α]

theorem flatK_is {enc : α → List Value} {k : Nat} (hk : ∀ x, (enc x).length = k) (k0 : 0 < k) (d : Array α) : (flatK enc k d).toList = d.toList.flatMap enc := by
  apply List.ext_getElem?
  intro t
  by_cases ht : t < d.size * k
  · have hd : t / k < d.size := Nat.div_lt_of_lt_mul (by rwa [Nat.mul_comm])
    have hm : t % k < k := Nat.mod_lt _ k0
    have e := flat_get enc k hk d.toList (t / k) (by simpa using hd) (t % k) hm
    rw [Nat.div_add_mod'] at e
    rw [e, Array.getElem?_toList, getElem?_pos _ t (by simpa using ht)]
    have g := get_flatK enc k d t ht
    rw [getElem!_pos _ t (by simpa using ht)] at g
    rw [g, getElem!_pos d _ hd, Array.getElem_toList, getElem!_pos (enc d[t / k]) _ (by rw [hk]; exact hm), List.getElem?_eq_getElem (by rw [hk]; exact hm)]
  · rw [List.getElem?_eq_none (by simpa using Nat.le_of_not_lt ht), List.getElem?_eq_none (by rw [flatMap_len hk]; simpa using Nat.le_of_not_lt ht)]
theorem rowK_of_owns {enc : α → List Value} {k : Nat} (hk : ∀ x, (enc x).length = k) (h1 : ∀ x, ∀ v ∈ enc x, v.oneCell' = true) (k0 : 0 < k) {w : World} {base g n cap : Nat} {e : TypeId} {l : List α} (h : w.ownsRow base e k (.slice (some ⟨g, 0, none⟩) n cap) n (l.flatMap enc)) (hn : l.length = n) : RowK enc k w g 0 l.toArray := by
  refine ⟨hk, h1, fun j hj => ?_, (h.lt g rfl).2⟩
  have hj' : j < n * k := by rw [← hn]; simpa using hj
  refine ⟨?_, by rw [Nat.zero_add]; exact h.frozenAt j⟩
  rw [Nat.zero_add, h.cellAt j hj']
  have := flatK_is hk k0 l.toArray
  rw [← this, Array.getElem?_toList, getElem?_pos _ j hj, getElem!_pos _ j hj]
  rfl
theorem owns_of_swk {enc : α → List Value} {k : Nat} (hk : ∀ x, (enc x).length = k) (k0 : 0 < k) {w w' : World} {base g n cap : Nat} {e : TypeId} {l : List α} {d : Array α} (h : w.ownsRow base e k (.slice (some ⟨g, 0, none⟩) n cap) n (l.flatMap enc)) (S : SWK enc k w g 0 d w') (hs : d.size = n) :
    w'.ownsRow base e k (.slice (some ⟨g, 0, none⟩) n cap) n (d.toList.flatMap enc) ∧ ∀ w0, Below base w0 w → base ≤ w.heap.size → Below base w0 w' := by
  obtain ⟨m, os, rfl⟩ := S
  rcases h.2 with ⟨e0, _⟩ | ⟨g', cap', cur, e0, hb, hg, hn, hm, hcs, ht⟩
  · cases e0
  · injection e0 with e1 _ e3
    injection e1 with e1
    injection e1 with e1
    subst e1; subst e3
    have hlt : g < w.heap.size := (Array.getElem?_eq_some_iff.1 hg).1
    unfold sortWorldK putRowK
    refine ⟨⟨by rw [flatMap_len hk]; simp [hs], .inr ⟨g, cap, putCells id 0 (flatK enc k d) cur, rfl, hb, ?_, hn, hm, by simpa [putCells] using hcs, ?_⟩⟩, fun w0 hB hbs => ?_⟩
    · rw [heap_grow_old _ _ (by simp [putRow, mapBlock, Sort.ahead]; exact hlt)]
      simp [putRow, mapBlock, Sort.ahead, Array.getElem?_modify, hg, onCells]
    · rw [← flatK_is hk k0]
      have hle : n * k ≤ cap * k := Nat.mul_le_mul_right _ hn
      apply List.ext_getElem?
      intro j
      rw [List.getElem?_take, Array.getElem?_toList, Array.getElem?_toList]
      by_cases hj : j < n * k
      · have hjc : j < cur.size := by omega
        have hjf : j < (flatK enc k d).size := by rw [size_flatK, hs]; exact hj
        simp only [if_pos hj, putCells, Array.getElem?_mapIdx, Array.getElem?_eq_getElem hjc, Option.map_some]
        rw [if_pos ⟨Nat.zero_le _, by omega⟩, Nat.sub_zero, getElem!_pos _ j hjf, getElem?_pos _ j hjf]
        rfl
      · rw [if_neg hj, getElem?_neg _ j (by rw [size_flatK, hs]; exact hj)]
    · refine ⟨hB.os, hB.tape, hB.output, ?_, fun b hb' => ?_⟩
      · have := hB.size
        simp [putRow, mapBlock, Sort.ahead]; omega
      · rw [heap_grow_old _ _ (by simp [putRow, mapBlock, Sort.ahead]; omega), ← hB.block b hb']
        simp [putRow, mapBlock, Sort.ahead, Array.getElem?_modify, show g ≠ b by omega]
/-- cells behind the row's own are written -/
theorem owns_setCells {k : Nat} {base g n cap : Nat} {e : TypeId} {xs : List Value} : ∀ (vs : List Value) (o : Nat) (w : World), w.ownsRow base e k (.slice (some ⟨g, 0, none⟩) n cap) n xs → xs.length ≤ o → base ≤ w.heap.size →
    (w.setCells g o vs).ownsRow base e k (.slice (some ⟨g, 0, none⟩) n cap) n xs ∧ ∀ w0, Below base w0 w → Below base w0 (w.setCells g o vs)
  | [], _, w, h, _, _ => ⟨h, fun _ hb => hb⟩
  | v :: vs, o, w, h, ho, hbs => by
    have h1 := h.stored o v
    rw [List.set_eq_of_length_le ho] at h1
    have h2 := owns_setCells vs (o + 1) _ h1.1 (by omega) (Nat.le_trans hbs h1.2.size)
    refine ⟨h2.1, fun w0 hb => h2.2 w0 ?_⟩
    exact hb.grown h1.2 hbs fun k hk => by cases hk; exact (h.lt g rfl).1
end Go.Proofs.Ytoljhahmmdibfaa
