/- Plain facts of sorting and merging blocks, for the stable sort. Conditions: a strict weak order, as each says. -/
import Derived.Test.YtblkdcapampniaaDoorStbA
set_option linter.unusedVariables false
set_option linter.unusedSimpArgs false
/- Plain facts: the stable sort's blocks: blocks of twenty are sorted, then merged two by two. -/
namespace Go.Proofs.YtblkdcapampniaaDoor.StbB
open Go.Sort Go.Proofs.YtblkdcapampniaaDoor.SortM Go.Proofs.YtblkdcapampniaaDoor.StbA
variable {α : Type} {lt : α → α → Bool}

def P1 (lt : α → α → Bool) (l0 : List α) (bs a : Nat) (d : Array α) : Prop := ∃ (cs : List (List α)) (rest : List α), l0 = cs.flatten ++ rest ∧ d.toList = (cs.map (ssort lt)).flatten ++ rest ∧ (∀ c ∈ cs, c.length = bs) ∧ a = cs.flatten.length
def P2 (lt : α → α → Bool) (l0 : List α) (bs : Nat) (d : Array α) : Prop := ∃ (cs : List (List α)) (rest : List α), l0 = cs.flatten ++ rest ∧ d.toList = (cs.map (ssort lt)).flatten ++ ssort lt rest ∧ (∀ c ∈ cs, c.length = bs) ∧ rest.length < bs
def P3 (lt : α → α → Bool) (l0 : List α) (bs a : Nat) (d : Array α) : Prop := ∃ (ds cs : List (List α)) (rest : List α), l0 = ds.flatten ++ (cs.flatten ++ rest) ∧ d.toList = (ds.map (ssort lt)).flatten ++ ((cs.map (ssort lt)).flatten ++ ssort lt rest) ∧ (∀ c ∈ ds, c.length = 2 * bs) ∧ (∀ c ∈ cs, c.length = bs) ∧ rest.length < bs ∧ a = ds.flatten.length

theorem flat_len (h : Swo lt) (cs : List (List α)) : ((cs.map (ssort lt)).flatten).length = cs.flatten.length := by
  induction cs with
  | nil => rfl
  | cons c cs ih => simp only [List.map_cons, List.flatten_cons, List.length_append, ssort_len h, ih]
theorem ssort_nil : ssort lt ([] : List α) = [] := rfl
theorem P1.start (l0 : List α) (bs : Nat) {d : Array α} (hd : d.toList = l0) : P1 lt l0 bs 0 d := ⟨[], l0, rfl, hd, by simp, rfl⟩
theorem P1.size (h : Swo lt) {l0 : List α} {bs a : Nat} {d : Array α} (hP : P1 lt l0 bs a d) : d.size = l0.length := by
  obtain ⟨cs, rest, h1, h2, _, _⟩ := hP
  rw [← Array.length_toList, h2, h1, List.length_append, List.length_append, flat_len h]
theorem P1.step [Inhabited α] (h : Swo lt) {l0 : List α} {bs a : Nat} {d : Array α} (hP : P1 lt l0 bs a d) (hb : a + bs ≤ l0.length) : P1 lt l0 bs (a + bs) (insertionSort lt d a (a + bs)) := by
  obtain ⟨cs, rest, h1, h2, h3, h4⟩ := hP
  have hl : rest = rest.take bs ++ rest.drop bs := (List.take_append_drop _ _).symm
  have hx : (rest.take bs).length = bs := by simp; rw [h1] at hb; simp at hb; simp at h4; omega
  generalize rest.take bs = x at hl hx
  generalize rest.drop bs = y at hl
  subst hl
  refine ⟨cs ++ [x], y, by rw [h1]; simp, ?_, fun c hc => ?_, by simp only [List.flatten_append, List.length_append, List.flatten_cons, List.flatten_nil, List.append_nil]; omega⟩
  · rw [insertion_is h (d := d) (p := (cs.map (ssort lt)).flatten) (x := x) (q := y) (by rw [h2]; simp) (by rw [flat_len h]; exact h4) (by rw [flat_len h]; omega)]
    simp
  · rcases List.mem_append.1 hc with hc | hc
    · exact h3 c hc
    · simp at hc; subst hc; exact hx
theorem P1.last [Inhabited α] (h : Swo lt) {l0 : List α} {bs a n : Nat} {d : Array α} (hP : P1 lt l0 bs a d) (hn : n = l0.length) (hb : n < a + bs) : P2 lt l0 bs (insertionSort lt d a n) := by
  obtain ⟨cs, rest, h1, h2, h3, h4⟩ := hP
  have hr : n = a + rest.length := by rw [hn, h1, List.length_append]; omega
  refine ⟨cs, rest, h1, ?_, h3, by omega⟩
  rw [insertion_is h (d := d) (p := (cs.map (ssort lt)).flatten) (x := rest) (q := []) (by rw [h2]; simp) (by rw [flat_len h]; exact h4) (by rw [flat_len h]; omega)]
  simp
theorem P1.le {l0 : List α} {bs a : Nat} {d : Array α} (hP : P1 lt l0 bs a d) : a ≤ l0.length := by
  obtain ⟨cs, rest, h1, h2, h3, h4⟩ := hP
  rw [h1, List.length_append]; omega
theorem P2.size (h : Swo lt) {l0 : List α} {bs : Nat} {d : Array α} (hP : P2 lt l0 bs d) : d.size = l0.length := by
  obtain ⟨cs, rest, h1, h2, _, _⟩ := hP
  rw [← Array.length_toList, h2, h1, List.length_append, List.length_append, flat_len h, ssort_len h]
theorem P3.start {l0 : List α} {bs : Nat} {d : Array α} (hP : P2 lt l0 bs d) : P3 lt l0 bs 0 d := by
  obtain ⟨cs, rest, h1, h2, h3, h4⟩ := hP
  exact ⟨[], cs, rest, h1, h2, by simp, h3, h4, rfl⟩
theorem P3.size (h : Swo lt) {l0 : List α} {bs a : Nat} {d : Array α} (hP : P3 lt l0 bs a d) : d.size = l0.length ∧ a ≤ d.size := by
  obtain ⟨ds, cs, rest, h1, h2, _, _, _, h3⟩ := hP
  have e1 : d.size = ds.flatten.length + (cs.flatten.length + rest.length) := by rw [← Array.length_toList, h2, List.length_append, List.length_append, flat_len h, flat_len h, ssort_len h]
  have e2 : l0.length = ds.flatten.length + (cs.flatten.length + rest.length) := by rw [h1, List.length_append, List.length_append]
  omega
theorem P3.step (h : Swo lt) {l0 : List α} {bs a : Nat} {d : Array α} (hP : P3 lt l0 bs a d) (hb : a + 2 * bs ≤ l0.length) (h0 : 0 < bs) :
    ∃ p u v q, d.toList = p ++ u ++ v ++ q ∧ Sorted lt u ∧ Sorted lt v ∧ a = p.length ∧ u.length = bs ∧ v.length = bs ∧ ∀ d' : Array α, d'.toList = p ++ ssort lt (u ++ v) ++ q → P3 lt l0 bs (a + 2 * bs) d' := by
  obtain ⟨ds, cs, rest, h1, h2, h3, h4, h5, h6⟩ := hP
  have hl : l0.length = a + (cs.flatten.length + rest.length) := by rw [h1, List.length_append, List.length_append, h6]
  match cs with
  | [] => simp at hl; omega
  | [c] => have := h4 c (by simp); simp at hl; omega
  | c1 :: c2 :: cs =>
    have k1 := h4 c1 (by simp)
    have k2 := h4 c2 (by simp)
    refine ⟨(ds.map (ssort lt)).flatten, ssort lt c1, ssort lt c2, (cs.map (ssort lt)).flatten ++ ssort lt rest, by rw [h2]; simp, ssort_sorted h _, ssort_sorted h _, by rw [flat_len h]; exact h6, by rw [ssort_len h]; exact k1, by rw [ssort_len h]; exact k2, fun d' hd' => ?_⟩
    refine ⟨ds ++ [c1 ++ c2], cs, rest, by rw [h1]; simp, ?_, fun c hc => ?_, fun c hc => h4 c (by simp [hc]), h5, by simp only [List.flatten_append, List.length_append, List.flatten_cons, List.flatten_nil, List.append_nil]; omega⟩
    · rw [hd', ssort_app h]; simp
    · rcases List.mem_append.1 hc with hc | hc
      · exact h3 c hc
      · simp at hc; subst hc; rw [List.length_append]; omega
theorem P3.last1 (h : Swo lt) {l0 : List α} {bs a n : Nat} {d : Array α} (hP : P3 lt l0 bs a d) (hn : n = l0.length) (hb : n < a + 2 * bs) (hm : a + bs < n) :
    ∃ p u v, d.toList = p ++ u ++ v ++ [] ∧ Sorted lt u ∧ Sorted lt v ∧ a = p.length ∧ u.length = bs ∧ a + bs + v.length = n ∧ ∀ d' : Array α, d'.toList = p ++ ssort lt (u ++ v) ++ [] → P2 lt l0 (2 * bs) d' := by
  obtain ⟨ds, cs, rest, h1, h2, h3, h4, h5, h6⟩ := hP
  have hl : n = a + (cs.flatten.length + rest.length) := by rw [hn, h1, List.length_append, List.length_append, h6]
  match cs with
  | [] => simp at hl; omega
  | c1 :: c2 :: cs =>
    have k1 := h4 c1 (by simp)
    have k2 := h4 c2 (by simp)
    simp at hl; omega
  | [c] =>
    have k1 := h4 c (by simp)
    have hl' : n = a + (c.length + rest.length) := by simpa using hl
    refine ⟨(ds.map (ssort lt)).flatten, ssort lt c, ssort lt rest, by rw [h2]; simp, ssort_sorted h _, ssort_sorted h _, by rw [flat_len h]; exact h6, by rw [ssort_len h]; exact k1, by rw [ssort_len h]; omega, fun d' hd' => ?_⟩
    refine ⟨ds, c ++ rest, by rw [h1]; simp, ?_, h3, by rw [List.length_append]; omega⟩
    rw [hd', ssort_app h]; simp
theorem P3.last2 {l0 : List α} {bs a n : Nat} {d : Array α} (hP : P3 lt l0 bs a d) (hn : n = l0.length) (hb : n < a + 2 * bs) (hm : ¬ a + bs < n) (h0 : 0 < bs) : P2 lt l0 (2 * bs) d := by
  obtain ⟨ds, cs, rest, h1, h2, h3, h4, h5, h6⟩ := hP
  have hl : n = a + (cs.flatten.length + rest.length) := by rw [hn, h1, List.length_append, List.length_append, h6]
  match cs with
  | [] => exact ⟨ds, rest, by rw [h1]; simp, by rw [h2]; simp, h3, by omega⟩
  | c1 :: c2 :: cs =>
    have k1 := h4 c1 (by simp)
    have k2 := h4 c2 (by simp)
    simp at hl; omega
  | [c] =>
    have k1 := h4 c (by simp)
    have hl' : n = a + (c.length + rest.length) := by simpa using hl
    have hr : rest = [] := List.eq_nil_of_length_eq_zero (by omega)
    subst hr
    exact ⟨ds, c, by rw [h1]; simp, by rw [h2, ssort_nil]; simp, h3, by omega⟩
theorem P2.done {l0 : List α} {bs : Nat} {d : Array α} (hP : P2 lt l0 bs d) (hb : ¬ bs < l0.length) : d.toList = ssort lt l0 := by
  obtain ⟨cs, rest, h1, h2, h3, h4⟩ := hP
  match cs with
  | [] => rw [h2, h1]; simp
  | [c] =>
    have k1 := h3 c (by simp)
    have hl : l0.length = c.length + rest.length := by rw [h1]; simp
    have hr : rest = [] := List.eq_nil_of_length_eq_zero (by omega)
    subst hr
    rw [h2, h1, ssort_nil]; simp
  | c1 :: c2 :: cs =>
    have k1 := h3 c1 (by simp)
    have k2 := h3 c2 (by simp)
    have hl : l0.length = c1.length + (c2.length + (cs.flatten.length + rest.length)) := by rw [h1]; simp
    omega
end Go.Proofs.YtblkdcapampniaaDoor.StbB
