/- The text of a span has a colon just where its bounds part. Conditions: bounds that may be, as each says. -/
import Derived.Test.YtblkdcapampniaaDoorSpnM
import Derived.Test.YtblkdcapampniaaDoorVerQ
import Derived.Lib.CutLaws
set_option linter.unusedVariables false
set_option linter.unusedSimpArgs false
/- Plain facts on spans' texts: a text is read as it was; the program's way of reading and the document's. -/
namespace Go.Proofs.YtblkdcapampniaaDoor.VerN
open Go.Lib

theorem glue_mem (c : UInt8) : ∀ (ps : List (List UInt8)) (x : UInt8), x ∈ glue c ps → x = c ∨ ∃ p ∈ ps, x ∈ p
  | [], x, h => by unfold glue at h; simp at h
  | [p], x, h => by unfold glue at h; exact .inr ⟨p, by simp, h⟩
  | p :: q :: r, x, h => by
    unfold glue at h
    rcases List.mem_append.1 h with h | h
    · exact .inr ⟨p, by simp, h⟩
    · rcases List.mem_cons.1 h with h | h
      · exact .inl h
      · rcases glue_mem c (q :: r) x h with h | ⟨p', hp, hx⟩
        · exact .inl h
        · exact .inr ⟨p', by simp at hp ⊢; exact .inr hp, hx⟩
theorem part_colon {p : List UInt8} (h : partL p = true) : (58 : UInt8) ∉ p := by
  intro hx
  unfold partL at h
  rcases Bool.or_eq_true _ _ ▸ h with h | h
  · unfold letOk at h
    simp only [Bool.and_eq_true, List.all_eq_true] at h
    have := (isLet_iff _).1 (h.2 58 hx)
    simp at this
  · unfold digOk at h
    simp only [Bool.and_eq_true, List.all_eq_true] at h
    have := (isDig_iff _).1 (h.1.1.2 58 hx)
    simp at this
theorem may_colon {l : List UInt8} (h : mayL l = true) : (58 : UInt8) ∉ l := by
  intro hx
  have hg := glue_cut 46 l []
  rw [List.nil_append] at hg
  rw [← hg] at hx
  rcases glue_mem _ _ _ hx with e | ⟨p, hp, hx⟩
  · exact absurd e (by decide)
  · exact part_colon (((may_iff l).1 h).2.2.1 p hp) hx
theorem bound_colon {l : List UInt8} (h : boundB l = true) : (58 : UInt8) ∉ l := by
  rcases bound_iff.1 h with h | h
  · rw [h]; simp
  · exact may_colon h
theorem indexByte_none (c : UInt8) : ∀ l : List UInt8, c ∉ l → indexByte l c = -1
  | [], _ => rfl
  | x :: r, h => by
    have hx : x ≠ c := fun e => h (by simp [e])
    have hr := indexByte_none c r (fun e => h (by simp [e]))
    unfold indexByte
    simp [hx, hr]
theorem indexByte_at (c : UInt8) : ∀ a b : List UInt8, c ∉ a → indexByte (a ++ c :: b) c = a.length
  | [], _, _ => by show indexByte (c :: _) c = _; unfold indexByte; simp
  | x :: r, b, h => by
    have hx : x ≠ c := fun e => h (by simp [e])
    have hr := indexByte_at c r b (fun e => h (by simp [e]))
    show indexByte (x :: (r ++ c :: b)) c = _
    unfold indexByte
    rw [hr]
    simp [hx]
theorem cut_none {l : List UInt8} (h : (58 : UInt8) ∉ l) : cut l [58] = (l, [], false) := by
  unfold cut
  rw [index_one, indexByte_none _ _ h, if_neg (by omega)]
theorem cut_at {a b : List UInt8} (h : (58 : UInt8) ∉ a) : cut (a ++ 58 :: b) [58] = (a, b, true) := by
  unfold cut
  rw [index_one, indexByte_at _ _ _ h, if_pos (by omega)]
  simp
theorem colon_cases (l : List UInt8) : (58 : UInt8) ∉ l ∨ ∃ a b, l = a ++ 58 :: b ∧ (58 : UInt8) ∉ a := by
  by_cases h : (58 : UInt8) ∈ l
  · exact .inr (List.eq_append_cons_of_mem h)
  · exact .inl h
/-- the span that a text tells of, and whether it does -/
def spO (l : List UInt8) : Sp := if (cut l [58]).2.2 = true then ((cut l [58]).1, (cut l [58]).2.1) else ((cut l [58]).1, (cut l [58]).1)
def spOk (l : List UInt8) : Bool := mayS (spO l) && decide (textS (spO l) = l)
def spS (l : List UInt8) : Sp := if spOk l = true then spO l else ([], [])
def spRefO (l : List UInt8) : Sp := if (cutL 58 l).length = 1 then (l, l) else ((cutL 58 l).getD 0 [], (cutL 58 l).getD 1 [])
def spRefOk (l : List UInt8) : Bool := if (cutL 58 l).length = 1 then mayL l else mayS (spRefO l) && decide (textR (spRefO l) = l)
theorem read_none {l : List UInt8} (h : (58 : UInt8) ∉ l) : spO l = (l, l) := by unfold spO; rw [cut_none h]; rfl
theorem read_at {a b : List UInt8} (h : (58 : UInt8) ∉ a) : spO (a ++ 58 :: b) = (a, b) := by unfold spO; rw [cut_at h]; rfl
theorem cutL_none {l : List UInt8} (h : (58 : UInt8) ∉ l) : cutL 58 l = [l] := cutF_none 58 l [] (fun x hx e => h (e ▸ hx))
theorem cutL_at {a b : List UInt8} (h : (58 : UInt8) ∉ a) : cutL 58 (a ++ 58 :: b) = a :: cutL 58 b := by rw [cutL_join, cutL_none h]; rfl
theorem one_may (l : List UInt8) : mayS (l, l) = boundB l := by
  unfold mayS
  rw [ahead_no.2 (.inr (.inr (le_refl l)))]
  simp
theorem textS_of {s : Sp} (h : mayS s = true) : textS s = textR s := if_pos h
/-- a text is read as it was -/
theorem read_text {s : Sp} (h : mayS s = true) : spO (textS s) = s ∧ spOk (textS s) = true := by
  obtain ⟨a, b⟩ := s
  have hr : spO (textS (a, b)) = (a, b) := by
    rw [textS_of h]
    unfold textR
    by_cases e : a = b ∧ a ≠ []
    · rw [if_pos e, read_none (bound_colon (mayS_iff.1 h).1)]
      exact Prod.ext rfl e.1
    · rw [if_neg e]
      exact read_at (bound_colon (mayS_iff.1 h).1)
  refine ⟨hr, ?_⟩
  unfold spOk
  rw [hr, h]
  simp
theorem refOk_is (l : List UInt8) (hl : (cutL 58 l).length ≤ 2) : spRefOk l = spOk l ∧ spRefO l = spO l := by
  rcases colon_cases l with h | ⟨a, b, rfl, h⟩
  · have e1 : (cutL 58 l).length = 1 := by rw [cutL_none h]; rfl
    have e2 : spRefO l = (l, l) := by unfold spRefO; rw [if_pos e1]
    refine ⟨?_, by rw [e2, read_none h]⟩
    unfold spRefOk spOk
    rw [if_pos e1, read_none h, one_may]
    by_cases hn : l = []
    · subst hn; decide
    · have hb : boundB l = mayL l := by unfold boundB; rw [decide_eq_false hn]; rfl
      rw [hb]
      cases hm : mayL l with
      | false => rfl
      | true =>
        have : mayS (l, l) = true := by rw [one_may, hb, hm]
        rw [textS_of this]
        unfold textR
        rw [if_pos ⟨rfl, hn⟩]
        simp
  · have h2 := cutL_at (b := b) h
    rw [h2] at hl
    have hb : (58 : UInt8) ∉ b := by
      intro hx
      obtain ⟨a', b', rfl, h'⟩ := List.eq_append_cons_of_mem hx
      rw [cutL_at h'] at hl
      have := (cutL_len 58 b').1
      simp at hl
      have := List.length_pos_iff.1 (Nat.lt_of_lt_of_le Nat.zero_lt_one this)
      contradiction
    rw [cutL_none hb] at h2
    have e1 : (cutL 58 (a ++ 58 :: b)).length ≠ 1 := by rw [h2]; simp
    have e2 : spRefO (a ++ 58 :: b) = (a, b) := by unfold spRefO; rw [if_neg e1, h2]; rfl
    refine ⟨?_, by rw [e2, read_at h]⟩
    unfold spRefOk spOk
    rw [if_neg e1, e2, read_at h]
    cases hm : mayS (a, b) with
    | false => rfl
    | true => rw [textS_of hm]
/-- a text with two colons tells of no span -/
theorem read_many {l : List UInt8} (hl : 2 < (cutL 58 l).length) : spOk l = false := by
  rcases colon_cases l with h | ⟨a, b, rfl, h⟩
  · rw [cutL_none h] at hl; simp at hl
  · rw [cutL_at h] at hl
    have hb : (58 : UInt8) ∈ b := by
      refine Decidable.byContradiction fun hx => ?_
      rw [cutL_none hx] at hl
      simp at hl
    unfold spOk
    rw [read_at h]
    cases hm : mayS (a, b) with
    | false => rfl
    | true => exact absurd hb (bound_colon (mayS_iff.1 hm).2.1)
end Go.Proofs.YtblkdcapampniaaDoor.VerN
