/- Walks and plain facts. Texts merged: SpnM, SortM, SpsM, Row, RefV, RefW, CmpI, CmpS, RefX, RefC, RefM, RefLs. Condition: none beyond what each says. -/
import Derived.Test.YteailgjiifdgcaaGreatDoorRows
import Derived.Sort.Grow
import Derived.Sort.Walk0
import Derived.Test.YteailgjiifdgcaaGreatDoorSpansSharesAll1
set_option linter.unusedVariables false
set_option linter.unusedSimpArgs false
/- Plain facts on spans: bounds, what is in one, what two have in common, the least of two; the program's way and the document's. -/
namespace Go.Proofs.YteailgjiifdgcaaGreatDoor.VerN
open Go.Lib

abbrev Sp := List UInt8 × List UInt8
def boundB (l : List UInt8) : Bool := decide (l = []) || mayL l
def aheadB (a b : List UInt8) : Bool := decide (a ≠ []) && decide (b ≠ []) && decide (compareL a b < 0)
def mayS (s : Sp) : Bool := boundB s.1 && boundB s.2 && !aheadB s.2 s.1
def hasS (s : Sp) (v : List UInt8) : Bool := mayS s && mayL v && !aheadB v s.1 && !aheadB s.2 v
def laterB (a b : List UInt8) : List UInt8 := if a = [] ∨ aheadB a b = true then b else a
def soonerB (a b : List UInt8) : List UInt8 := if a = [] ∨ aheadB b a = true then b else a
def meetO (a b : Sp) : Sp := (laterB a.1 b.1, soonerB a.2 b.2)
def meetOk (a b : Sp) : Bool := mayS a && mayS b && mayS (meetO a b)
def meetS (a b : Sp) : Sp := if meetOk a b = true then meetO a b else ([], [])
def joinS (a b : Sp) : Sp := if mayS a = true ∧ mayS b = true then (if a.1 ≠ [] ∧ b.1 ≠ [] then soonerB a.1 b.1 else [], if a.2 ≠ [] ∧ b.2 ≠ [] then laterB a.2 b.2 else []) else ([], [])
def textR (s : Sp) : List UInt8 := if s.1 = s.2 ∧ s.1 ≠ [] then s.1 else s.1 ++ 58 :: s.2
def textS (s : Sp) : List UInt8 := if mayS s = true then textR s else []
def withinB (a b : Sp) : Bool := mayS a && mayS b && (decide (b.1 = []) || (decide (a.1 ≠ []) && !aheadB a.1 b.1)) && (decide (b.2 = []) || (decide (a.2 ≠ []) && !aheadB b.2 a.2))

/-! the row of all texts, by ≤ -/
def le (a b : List UInt8) : Prop := compareL a b ≤ 0
theorem le_refl (a : List UInt8) : le a a := by
  have := row_compare.neg a a
  unfold le; omega
theorem le_trans {a b c : List UInt8} (h1 : le a b) (h2 : le b c) : le a c := row_compare.trans a b c h1 h2
theorem not_le {a b : List UInt8} : ¬ le a b ↔ compareL b a < 0 := by
  have := row_compare.neg a b
  unfold le; omega
theorem le_total (a b : List UInt8) : le a b ∨ le b a := by
  have := row_compare.neg a b
  unfold le; omega
theorem ahead_no {a b : List UInt8} : aheadB a b = false ↔ a = [] ∨ b = [] ∨ le b a := by
  have h : ¬ compareL a b < 0 ↔ le b a := by
    have := row_compare.neg a b
    unfold le
    omega
  unfold aheadB
  simp only [Bool.and_eq_false_iff, decide_eq_false_iff_not, ne_eq, Decidable.not_not, h]
  exact or_assoc
theorem ahead_yes {a b : List UInt8} : aheadB a b = true ↔ a ≠ [] ∧ b ≠ [] ∧ ¬ le b a := by
  unfold aheadB
  simp only [Bool.and_eq_true, decide_eq_true_eq, not_le, and_assoc]
theorem ahead_less (a b : List UInt8) : aheadB a b = (decide (a ≠ []) && decide (b ≠ []) && lessL a b) := by
  have ht := row_compare.tri a b
  unfold aheadB
  rw [less_is]
  congr 1
  exact decide_eq_decide.2 ⟨fun h => by omega, fun h => by omega⟩
theorem bound_iff {l : List UInt8} : boundB l = true ↔ l = [] ∨ mayL l = true := by unfold boundB; simp
theorem may_ne {l : List UInt8} (h : mayL l = true) : l ≠ [] := ((may_iff l).1 h).1
theorem mayS_iff {s : Sp} : mayS s = true ↔ boundB s.1 = true ∧ boundB s.2 = true ∧ (s.1 = [] ∨ s.2 = [] ∨ le s.1 s.2) := by
  unfold mayS
  simp only [Bool.and_eq_true, Bool.not_eq_true', and_assoc, ahead_no]
  constructor
  · rintro ⟨h1, h2, h3⟩
    refine ⟨h1, h2, ?_⟩
    rcases h3 with h | h | h
    · exact .inr (.inl h)
    · exact .inl h
    · exact .inr (.inr h)
  · rintro ⟨h1, h2, h3⟩
    refine ⟨h1, h2, ?_⟩
    rcases h3 with h | h | h
    · exact .inr (.inl h)
    · exact .inl h
    · exact .inr (.inr h)
/-- v is between the bounds -/
def lower (lo v : List UInt8) : Prop := lo = [] ∨ le lo v
def upper (hi v : List UInt8) : Prop := hi = [] ∨ le v hi
theorem hasS_iff {s : Sp} {v : List UInt8} : hasS s v = true ↔ mayS s = true ∧ mayL v = true ∧ lower s.1 v ∧ upper s.2 v := by
  unfold hasS lower upper
  simp only [Bool.and_eq_true, Bool.not_eq_true', and_assoc, ahead_no]
  constructor
  · rintro ⟨h1, h2, h3, h4⟩
    have hv := may_ne h2
    refine ⟨h1, h2, ?_, ?_⟩
    · rcases h3 with h | h | h
      · exact absurd h hv
      · exact .inl h
      · exact .inr h
    · rcases h4 with h | h | h
      · exact .inl h
      · exact absurd h hv
      · exact .inr h
  · rintro ⟨h1, h2, h3, h4⟩
    refine ⟨h1, h2, ?_, ?_⟩
    · rcases h3 with h | h
      · exact .inr (.inl h)
      · exact .inr (.inr h)
    · rcases h4 with h | h
      · exact .inl h
      · exact .inr (.inr h)
theorem later_cases (a b : List UInt8) : laterB a b = a ∨ laterB a b = b := by unfold laterB; split; exact .inr rfl; exact .inl rfl
theorem sooner_cases (a b : List UInt8) : soonerB a b = a ∨ soonerB a b = b := by unfold soonerB; split; exact .inr rfl; exact .inl rfl
theorem bound_of {x a b : List UInt8} (h : x = a ∨ x = b) (ha : boundB a = true) (hb : boundB b = true) : boundB x = true := by rcases h with rfl | rfl <;> assumption
/-- what is above the later bound is above both -/
theorem lower_later {a b v : List UInt8} : lower (laterB a b) v ↔ lower a v ∧ lower b v := by
  unfold laterB
  by_cases h : a = [] ∨ aheadB a b = true
  · rw [if_pos h]
    refine ⟨fun hb => ⟨?_, hb⟩, fun h => h.2⟩
    rcases h with h | h
    · exact .inl h
    · obtain ⟨h1, h2, h3⟩ := ahead_yes.1 h
      rcases hb with hb | hb
      · exact absurd hb h2
      · exact .inr (le_trans ((le_total a b).resolve_right h3) hb)
  · rw [if_neg h]
    refine ⟨fun ha => ⟨ha, ?_⟩, fun h => h.1⟩
    have h1 : a ≠ [] := fun e => h (.inl e)
    have h2 : aheadB a b = false := Bool.eq_false_iff.2 fun e => h (.inr e)
    rcases ahead_no.1 h2 with h2 | h2 | h2
    · exact absurd h2 h1
    · exact .inl h2
    · rcases ha with ha | ha
      · exact absurd ha h1
      · exact .inr (le_trans h2 ha)
theorem upper_sooner {a b v : List UInt8} : upper (soonerB a b) v ↔ upper a v ∧ upper b v := by
  unfold soonerB
  by_cases h : a = [] ∨ aheadB b a = true
  · rw [if_pos h]
    refine ⟨fun hb => ⟨?_, hb⟩, fun h => h.2⟩
    rcases h with h | h
    · exact .inl h
    · obtain ⟨h1, h2, h3⟩ := ahead_yes.1 h
      rcases hb with hb | hb
      · exact absurd hb h1
      · exact .inr (le_trans hb ((le_total b a).resolve_right h3))
  · rw [if_neg h]
    refine ⟨fun ha => ⟨ha, ?_⟩, fun h => h.1⟩
    have h1 : a ≠ [] := fun e => h (.inl e)
    have h2 : aheadB b a = false := Bool.eq_false_iff.2 fun e => h (.inr e)
    rcases ahead_no.1 h2 with h2 | h2 | h2
    · exact .inl h2
    · exact absurd h2 h1
    · rcases ha with ha | ha
      · exact absurd ha h1
      · exact .inr (le_trans ha h2)
theorem meet_bounds {a b : Sp} (ha : mayS a = true) (hb : mayS b = true) : boundB (meetO a b).1 = true ∧ boundB (meetO a b).2 = true :=
  ⟨bound_of (later_cases _ _) (mayS_iff.1 ha).1 (mayS_iff.1 hb).1, bound_of (sooner_cases _ _) (mayS_iff.1 ha).2.1 (mayS_iff.1 hb).2.1⟩
/-- a version is in what two spans have in common just if it is in both -/
theorem meet_has (a b : Sp) (v : List UInt8) : (meetOk a b && hasS (meetS a b) v) = (hasS a v && hasS b v) := by
  refine Bool.eq_iff_iff.2 ?_
  rw [Bool.and_eq_true, Bool.and_eq_true]
  constructor
  · rintro ⟨h1, h2⟩
    unfold meetS at h2
    rw [if_pos h1] at h2
    unfold meetOk at h1
    simp only [Bool.and_eq_true] at h1
    obtain ⟨_, hv, hl, hu⟩ := hasS_iff.1 h2
    have l := lower_later.1 hl
    have u := upper_sooner.1 hu
    exact ⟨hasS_iff.2 ⟨h1.1.1, hv, l.1, u.1⟩, hasS_iff.2 ⟨h1.1.2, hv, l.2, u.2⟩⟩
  · rintro ⟨h1, h2⟩
    obtain ⟨ha, hv, la, ua⟩ := hasS_iff.1 h1
    obtain ⟨hb, _, lb, ub⟩ := hasS_iff.1 h2
    have l : lower (meetO a b).1 v := lower_later.2 ⟨la, lb⟩
    have u : upper (meetO a b).2 v := upper_sooner.2 ⟨ua, ub⟩
    have hm : mayS (meetO a b) = true := by
      have hB := meet_bounds ha hb
      refine mayS_iff.2 ⟨hB.1, hB.2, ?_⟩
      rcases l with l | l
      · exact .inl l
      · rcases u with u | u
        · exact .inr (.inl u)
        · exact .inr (.inr (le_trans l u))
    have hok : meetOk a b = true := by unfold meetOk; rw [ha, hb, hm]; rfl
    refine ⟨hok, ?_⟩
    unfold meetS
    rw [if_pos hok]
    exact hasS_iff.2 ⟨hm, hv, l, u⟩

/-! the document's way -/
def refMayS (s : Sp) : Bool := boundB s.1 && boundB s.2 && (decide (s.1 = []) || decide (s.2 = []) || !lessL s.2 s.1)
theorem refMay_is (s : Sp) : refMayS s = mayS s := by
  unfold refMayS mayS
  rw [ahead_less]
  by_cases h1 : s.1 = [] <;> by_cases h2 : s.2 = [] <;> simp [h1, h2]
def refHasS (s : Sp) (v : List UInt8) : Bool := if refMayS s = false ∨ mayL v = false then false else (decide (s.1 = []) || !lessL v s.1) && (decide (s.2 = []) || !lessL s.2 v)
theorem refHas_is (s : Sp) (v : List UInt8) : refHasS s v = hasS s v := by
  unfold refHasS hasS
  rw [refMay_is, ahead_less, ahead_less]
  cases hm : mayS s
  · simp
  · cases hv : mayL v
    · simp
    · have := may_ne hv
      by_cases h1 : s.1 = [] <;> by_cases h2 : s.2 = [] <;> simp [h1, h2, this]
def refMeetO (a b : Sp) : Sp := (if b.1 ≠ [] ∧ (a.1 = [] ∨ lessL a.1 b.1 = true) then b.1 else a.1, if b.2 ≠ [] ∧ (a.2 = [] ∨ lessL b.2 a.2 = true) then b.2 else a.2)
theorem refMeet_is (a b : Sp) : refMeetO a b = meetO a b := by
  unfold refMeetO meetO laterB soonerB
  rw [ahead_less, ahead_less]
  refine Prod.ext ?_ ?_
  · by_cases h1 : b.1 = [] <;> by_cases h2 : a.1 = [] <;> simp [h1, h2]
  · by_cases h1 : b.2 = [] <;> by_cases h2 : a.2 = [] <;> simp [h1, h2]
/-! the least span of two -/
theorem join_bounds {a b : Sp} (ha : mayS a = true) (hb : mayS b = true) : boundB (joinS a b).1 = true ∧ boundB (joinS a b).2 = true := by
  unfold joinS
  rw [if_pos ⟨ha, hb⟩]
  refine ⟨?_, ?_⟩
  · show boundB (if a.1 ≠ [] ∧ b.1 ≠ [] then soonerB a.1 b.1 else []) = true
    split
    · exact bound_of (sooner_cases _ _) (mayS_iff.1 ha).1 (mayS_iff.1 hb).1
    · rfl
  · show boundB (if a.2 ≠ [] ∧ b.2 ≠ [] then laterB a.2 b.2 else []) = true
    split
    · exact bound_of (later_cases _ _) (mayS_iff.1 ha).2.1 (mayS_iff.1 hb).2.1
    · rfl
theorem sooner_le {a b : List UInt8} (ha : a ≠ []) (hb : b ≠ []) : le (soonerB a b) a ∧ le (soonerB a b) b ∧ soonerB a b ≠ [] := by
  unfold soonerB
  by_cases h : aheadB b a = true
  · rw [if_pos (.inr h)]
    obtain ⟨_, _, h3⟩ := ahead_yes.1 h
    exact ⟨(le_total b a).resolve_right h3, le_refl b, hb⟩
  · rw [if_neg (by rintro (e | e); exact ha e; exact h e)]
    rcases ahead_no.1 (Bool.eq_false_iff.2 h) with h2 | h2 | h2
    · exact absurd h2 hb
    · exact absurd h2 ha
    · exact ⟨le_refl a, h2, ha⟩
theorem later_ge {a b : List UInt8} (ha : a ≠ []) (hb : b ≠ []) : le a (laterB a b) ∧ le b (laterB a b) ∧ laterB a b ≠ [] := by
  unfold laterB
  by_cases h : aheadB a b = true
  · rw [if_pos (.inr h)]
    obtain ⟨_, _, h3⟩ := ahead_yes.1 h
    exact ⟨(le_total a b).resolve_right h3, le_refl b, hb⟩
  · rw [if_neg (by rintro (e | e); exact ha e; exact h e)]
    rcases ahead_no.1 (Bool.eq_false_iff.2 h) with h2 | h2 | h2
    · exact absurd h2 ha
    · exact absurd h2 hb
    · exact ⟨le_refl a, h2, ha⟩
theorem join_lo {a b : Sp} (ha : mayS a = true) (hb : mayS b = true) : (joinS a b).1 = [] ∨ (a.1 ≠ [] ∧ b.1 ≠ [] ∧ (joinS a b).1 = soonerB a.1 b.1) := by
  unfold joinS
  rw [if_pos ⟨ha, hb⟩]
  by_cases h : a.1 ≠ [] ∧ b.1 ≠ []
  · exact .inr ⟨h.1, h.2, if_pos h⟩
  · exact .inl (if_neg h)
theorem join_hi {a b : Sp} (ha : mayS a = true) (hb : mayS b = true) : (joinS a b).2 = [] ∨ (a.2 ≠ [] ∧ b.2 ≠ [] ∧ (joinS a b).2 = laterB a.2 b.2) := by
  unfold joinS
  rw [if_pos ⟨ha, hb⟩]
  by_cases h : a.2 ≠ [] ∧ b.2 ≠ []
  · exact .inr ⟨h.1, h.2, if_pos h⟩
  · exact .inl (if_neg h)
theorem join_may {a b : Sp} (ha : mayS a = true) (hb : mayS b = true) : mayS (joinS a b) = true := by
  have hB := join_bounds ha hb
  refine mayS_iff.2 ⟨hB.1, hB.2, ?_⟩
  rcases join_lo ha hb with h | ⟨h1, h2, h3⟩
  · exact .inl h
  · rcases join_hi ha hb with h | ⟨g1, g2, g3⟩
    · exact .inr (.inl h)
    · refine .inr (.inr ?_)
      rw [h3, g3]
      have hm := (mayS_iff.1 ha).2.2.resolve_left h1 |>.resolve_left g1
      exact le_trans (sooner_le h1 h2).1 (le_trans hm (later_ge g1 g2).1)
theorem within_iff {a b : Sp} : withinB a b = true ↔ mayS a = true ∧ mayS b = true ∧ (b.1 = [] ∨ a.1 ≠ [] ∧ le b.1 a.1) ∧ (b.2 = [] ∨ a.2 ≠ [] ∧ le a.2 b.2) := by
  unfold withinB
  simp only [Bool.and_eq_true, Bool.or_eq_true, Bool.not_eq_true', decide_eq_true_eq, and_assoc, ahead_no]
  constructor
  · rintro ⟨h1, h2, h3, h4⟩
    refine ⟨h1, h2, ?_, ?_⟩
    · rcases h3 with h | ⟨h, k⟩
      · exact .inl h
      · rcases k with k | k | k
        · exact absurd k h
        · exact .inl k
        · exact .inr ⟨h, k⟩
    · rcases h4 with h | ⟨h, k⟩
      · exact .inl h
      · rcases k with k | k | k
        · exact .inl k
        · exact absurd k h
        · exact .inr ⟨h, k⟩
  · rintro ⟨h1, h2, h3, h4⟩
    refine ⟨h1, h2, ?_, ?_⟩
    · rcases h3 with h | ⟨h, k⟩
      · exact .inl h
      · exact .inr ⟨h, .inr (.inr k)⟩
    · rcases h4 with h | ⟨h, k⟩
      · exact .inl h
      · exact .inr ⟨h, .inr (.inr k)⟩
theorem within_left {a b : Sp} (ha : mayS a = true) (hb : mayS b = true) : withinB a (joinS a b) = true ∧ withinB b (joinS a b) = true := by
  have hj := join_may ha hb
  refine ⟨within_iff.2 ⟨ha, hj, ?_, ?_⟩, within_iff.2 ⟨hb, hj, ?_, ?_⟩⟩
  · rcases join_lo ha hb with h | ⟨h1, h2, h3⟩
    · exact .inl h
    · exact .inr ⟨h1, by rw [h3]; exact (sooner_le h1 h2).1⟩
  · rcases join_hi ha hb with h | ⟨h1, h2, h3⟩
    · exact .inl h
    · exact .inr ⟨h1, by rw [h3]; exact (later_ge h1 h2).1⟩
  · rcases join_lo ha hb with h | ⟨h1, h2, h3⟩
    · exact .inl h
    · exact .inr ⟨h2, by rw [h3]; exact (sooner_le h1 h2).2.1⟩
  · rcases join_hi ha hb with h | ⟨h1, h2, h3⟩
    · exact .inl h
    · exact .inr ⟨h2, by rw [h3]; exact (later_ge h1 h2).2.1⟩
theorem within_has {a b : Sp} {v : List UInt8} (h : withinB a b = true) (hv : hasS a v = true) : hasS b v = true := by
  obtain ⟨_, hb, hl, hu⟩ := within_iff.1 h
  obtain ⟨_, h2, h3, h4⟩ := hasS_iff.1 hv
  refine hasS_iff.2 ⟨hb, h2, ?_, ?_⟩
  · rcases hl with hl | ⟨g, hl⟩
    · exact .inl hl
    · rcases h3 with h3 | h3
      · exact absurd h3 g
      · exact .inr (le_trans hl h3)
  · rcases hu with hu | ⟨g, hu⟩
    · exact .inl hu
    · rcases h4 with h4 | h4
      · exact absurd h4 g
      · exact .inr (le_trans h4 hu)
theorem join_least {a b c : Sp} (h1 : withinB a c = true) (h2 : withinB b c = true) : withinB (joinS a b) c = true := by
  obtain ⟨ha, hc, la, ua⟩ := within_iff.1 h1
  obtain ⟨hb, _, lb, ub⟩ := within_iff.1 h2
  refine within_iff.2 ⟨join_may ha hb, hc, ?_, ?_⟩
  · rcases la with la | ⟨g1, la⟩
    · exact .inl la
    · rcases lb with lb | ⟨g2, lb⟩
      · exact .inl lb
      · rcases join_lo ha hb with h | ⟨_, _, h3⟩
        · unfold joinS at h
          rw [if_pos ⟨ha, hb⟩] at h
          have h' : (if a.1 ≠ [] ∧ b.1 ≠ [] then soonerB a.1 b.1 else []) = [] := h
          rw [if_pos ⟨g1, g2⟩] at h'
          exact absurd h' (sooner_le g1 g2).2.2
        · refine .inr ⟨by rw [h3]; exact (sooner_le g1 g2).2.2, ?_⟩
          rw [h3]
          rcases sooner_cases a.1 b.1 with e | e <;> rw [e] <;> assumption
  · rcases ua with ua | ⟨g1, ua⟩
    · exact .inl ua
    · rcases ub with ub | ⟨g2, ub⟩
      · exact .inl ub
      · rcases join_hi ha hb with h | ⟨_, _, h3⟩
        · unfold joinS at h
          rw [if_pos ⟨ha, hb⟩] at h
          have h' : (if a.2 ≠ [] ∧ b.2 ≠ [] then laterB a.2 b.2 else []) = [] := h
          rw [if_pos ⟨g1, g2⟩] at h'
          exact absurd h' (later_ge g1 g2).2.2
        · refine .inr ⟨by rw [h3]; exact (later_ge g1 g2).2.2, ?_⟩
          rw [h3]
          rcases later_cases a.2 b.2 with e | e <;> rw [e] <;> assumption
/-! spans of one version, and without bounds -/
theorem one_has {v w : List UInt8} (hm : mayS (v, v) = true) (hv : v ≠ []) : hasS (v, v) w = decide (v = w) := by
  have hb : mayL v = true := by
    rcases bound_iff.1 (mayS_iff.1 hm).1 with h | h
    · exact absurd h hv
    · exact h
  refine Bool.eq_iff_iff.2 ?_
  rw [hasS_iff, decide_eq_true_eq]
  constructor
  · rintro ⟨_, h2, h3, h4⟩
    have h3 := h3.resolve_left hv
    have h4 := h4.resolve_left hv
    have hn := row_compare.neg v w
    have e : compareL v w = 0 := by unfold le at h3 h4; show compareL v w = 0; have : compareL v w ≤ 0 := h3; have : compareL w v ≤ 0 := h4; omega
    rcases compare_zero e with e | ⟨e, _⟩
    · exact e
    · rw [hb] at e; cases e
  · rintro rfl
    exact ⟨hm, hb, .inr (le_refl _), .inr (le_refl _)⟩
theorem may_none : mayS ([], []) = true := rfl
theorem within_all {a : Sp} (h : mayS a = true) : withinB a ([], []) = true := within_iff.2 ⟨h, may_none, .inl rfl, .inl rfl⟩
theorem within_self {a : Sp} (h : mayS a = true) : withinB a a = true := within_iff.2 ⟨h, h, by
  by_cases e : a.1 = []
  · exact .inl e
  · exact .inr ⟨e, le_refl _⟩, by
  by_cases e : a.2 = []
  · exact .inl e
  · exact .inr ⟨e, le_refl _⟩⟩
end Go.Proofs.YteailgjiifdgcaaGreatDoor.VerN

/- Plain facts on stable sorting: swaps of neighbours that stand the wrong way lead to one sorted row alone; parts that are sorted may be put together. Condition: a strict weak order. -/
namespace Go.Proofs.YteailgjiifdgcaaGreatDoor.SortM
variable {α : Type}

structure Swo (lt : α → α → Bool) : Prop where
  asymm : ∀ a b, lt a b = true → lt b a = false
  ntrans : ∀ a b c, lt b a = false → lt c b = false → lt c a = false

/-- it comes of l by swaps of neighbours that stand the wrong way -/
inductive Sw (lt : α → α → Bool) (l : List α) : List α → Prop
  | refl : Sw lt l l
  | step (p : List α) (x y : α) (q : List α) : Sw lt l (p ++ x :: y :: q) → lt y x = true → Sw lt l (p ++ y :: x :: q)

def Sorted (lt : α → α → Bool) (l : List α) : Prop := l.Pairwise fun a b => lt b a = false

variable {lt : α → α → Bool}
theorem Sw.trans {a b c : List α} (h : Sw lt a b) (k : Sw lt b c) : Sw lt a c := by
  induction k with
  | refl => exact h
  | step p x y q _ hlt ih => exact .step p x y q ih hlt
theorem Sw.perm {a b : List α} (h : Sw lt a b) : a.Perm b := by
  induction h with
  | refl => exact List.Perm.refl _
  | step p x y q _ _ ih => exact ih.trans (List.Perm.append_left _ (List.Perm.swap _ _ _))
theorem Sw.ctx {a b : List α} (h : Sw lt a b) (u v : List α) : Sw lt (u ++ a ++ v) (u ++ b ++ v) := by
  induction h with
  | refl => exact .refl
  | step p x y q _ hlt ih =>
    have h1 : u ++ (p ++ x :: y :: q) ++ v = (u ++ p) ++ x :: y :: (q ++ v) := by simp
    have h2 : u ++ (p ++ y :: x :: q) ++ v = (u ++ p) ++ y :: x :: (q ++ v) := by simp
    rw [h1] at ih
    rw [h2]
    exact .step _ x y _ ih hlt
theorem Sw.app {a b c d : List α} (h : Sw lt a b) (k : Sw lt c d) : Sw lt (a ++ c) (b ++ d) := by
  have h1 := h.ctx [] c
  have h2 := k.ctx b []
  simp only [List.nil_append, List.append_nil] at h1 h2
  exact h1.trans h2
/-- one element is carried over a block -/
theorem Sw.over (x : α) : ∀ (b : List α), (∀ y ∈ b, lt y x = true) → Sw lt (x :: b) (b ++ [x]) := by
  intro b
  induction b with
  | nil => intro _; exact .refl
  | cons y b ih =>
    intro h
    have h1 : Sw lt (x :: y :: b) (y :: x :: b) := .step [] x y b .refl (h y (by simp))
    have h2 := (ih (fun z hz => h z (by simp [hz]))).ctx [y] []
    simp only [List.append_nil] at h2
    exact h1.trans h2
/-- two blocks are exchanged -/
theorem Sw.blocks : ∀ (a b : List α), (∀ x ∈ a, ∀ y ∈ b, lt y x = true) → Sw lt (a ++ b) (b ++ a) := by
  intro a
  induction a with
  | nil => intro b _; rw [List.append_nil]; exact .refl
  | cons x a ih =>
    intro b h
    have h1 := (ih b (fun z hz => h z (by simp [hz]))).ctx [x] []
    have h2 := (Sw.over x b (h x (by simp))).ctx [] a
    simp only [List.append_nil, List.nil_append] at h1 h2
    have e : x :: b ++ a = [x] ++ (b ++ a) := rfl
    rw [e] at h2
    refine h1.trans (h2.trans ?_)
    rw [List.append_assoc]
    exact .refl

def eqv (lt : α → α → Bool) (a x : α) : Bool := !lt a x && !lt x a
theorem eqv_of (h : Swo lt) {a x y : α} (hx : eqv lt a x = true) (hy : eqv lt a y = true) : lt y x = false := by
  unfold eqv at hx hy
  simp only [Bool.and_eq_true, Bool.not_eq_true'] at hx hy
  exact h.ntrans x a y hx.1 hy.2
theorem Sw.filter (h : Swo lt) {l m : List α} (k : Sw lt l m) (a : α) : l.filter (eqv lt a) = m.filter (eqv lt a) := by
  induction k with
  | refl => rfl
  | step p x y q _ hlt ih =>
    rw [ih]
    simp only [List.filter_append, List.filter_cons]
    cases hx : eqv lt a x <;> cases hy : eqv lt a y <;> simp
    rw [eqv_of h hx hy] at hlt
    cases hlt
theorem irrefl (h : Swo lt) (a : α) : lt a a = false := by
  cases e : lt a a
  · rfl
  · have := h.asymm a a e; rw [e] at this; exact this
theorem eqv_self (h : Swo lt) (a : α) : eqv lt a a = true := by unfold eqv; rw [irrefl h a]; rfl
theorem uniq (h : Swo lt) : ∀ (a b : List α), a.Perm b → (∀ x, a.filter (eqv lt x) = b.filter (eqv lt x)) → Sorted lt a → Sorted lt b → a = b := by
  intro a
  induction a with
  | nil => intro b hp _ _ _; exact hp.nil_eq
  | cons x a ih =>
    intro b hp hf ha hb
    match b with
    | [] => exact absurd hp.symm.nil_eq (by simp)
    | y :: b =>
      have h1 : lt y x = false := by
        have hy : y ∈ x :: a := hp.symm.subset (by simp)
        rcases List.mem_cons.1 hy with e | hy
        · rw [e]; exact irrefl h x
        · exact (List.pairwise_cons.1 ha).1 y hy
      have h2 : lt x y = false := by
        have hx : x ∈ y :: b := hp.subset (by simp)
        rcases List.mem_cons.1 hx with e | hx
        · rw [e]; exact irrefl h y
        · exact (List.pairwise_cons.1 hb).1 x hx
      have h3 : eqv lt x y = true := by unfold eqv; rw [h1, h2]; rfl
      have hx := hf x
      rw [List.filter_cons, List.filter_cons, if_pos (eqv_self h x), if_pos h3] at hx
      injection hx with hxy _
      subst hxy
      congr 1
      refine ih b (List.Perm.cons_inv hp) (fun z => ?_) (List.pairwise_cons.1 ha).2 (List.pairwise_cons.1 hb).2
      have := hf z
      rw [List.filter_cons, List.filter_cons] at this
      split at this
      · injection this
      · exact this
/-- x behind all that it is not ahead of, of a sorted row -/
def ins (lt : α → α → Bool) (x : α) : List α → List α
  | [] => [x]
  | y :: l => if lt x y = true then x :: y :: l else y :: ins lt x l
def ssort (lt : α → α → Bool) (l : List α) : List α := l.foldl (fun r x => ins lt x r) []
theorem mem_ins (x z : α) (l : List α) : z ∈ ins lt x l ↔ z = x ∨ z ∈ l := by
  induction l with
  | nil => simp [ins]
  | cons y l ih =>
    unfold ins
    split
    · simp
    · simp only [List.mem_cons, ih]
      constructor
      · rintro (h | h | h)
        · exact .inr (.inl h)
        · exact .inl h
        · exact .inr (.inr h)
      · rintro (h | h | h)
        · exact .inr (.inl h)
        · exact .inl h
        · exact .inr (.inr h)
theorem ins_sorted (h : Swo lt) (x : α) (l : List α) (hl : Sorted lt l) : Sorted lt (ins lt x l) := by
  induction l with
  | nil => simp [ins, Sorted]
  | cons y l ih =>
    have hl' := List.pairwise_cons.1 hl
    unfold ins
    split
    · rename_i hxy
      refine List.pairwise_cons.2 ⟨fun z hz => ?_, hl⟩
      rcases List.mem_cons.1 hz with e | hz
      · rw [e]; exact h.asymm _ _ hxy
      · exact h.ntrans x y z (h.asymm _ _ hxy) (hl'.1 z hz)
    · rename_i hxy
      refine List.pairwise_cons.2 ⟨fun z hz => ?_, ih hl'.2⟩
      rcases (mem_ins x z l).1 hz with e | hz
      · rw [e]; simpa using hxy
      · exact hl'.1 z hz
/-- the row with x behind it comes to that -/
theorem ins_sw (h : Swo lt) (x : α) (l : List α) (hl : Sorted lt l) : Sw lt (l ++ [x]) (ins lt x l) := by
  induction l with
  | nil => exact .refl
  | cons y l ih =>
    have hl' := List.pairwise_cons.1 hl
    unfold ins
    split
    · rename_i hxy
      have : ∀ z ∈ y :: l, lt x z = true := by
        intro z hz
        cases e : lt x z
        · have h1 : lt x y = false := by
            rcases List.mem_cons.1 hz with e2 | hz
            · rw [← e2]; exact e
            · exact h.ntrans y z x (hl'.1 z hz) e
          rw [hxy] at h1; cases h1
        · rfl
      have h2 := Sw.blocks (lt := lt) (y :: l) [x] (fun a ha b hb => by simp at hb; subst hb; exact this a ha)
      exact h2
    · have h2 := (ih hl'.2).ctx [y] []
      simp only [List.append_nil] at h2
      exact h2
theorem fold_sorted (h : Swo lt) : ∀ (l r : List α), Sorted lt r → Sorted lt (l.foldl (fun r x => ins lt x r) r) ∧ Sw lt (r ++ l) (l.foldl (fun r x => ins lt x r) r) := by
  intro l
  induction l with
  | nil => intro r hr; exact ⟨hr, by rw [List.append_nil]; exact .refl⟩
  | cons x l ih =>
    intro r hr
    obtain ⟨h1, h2⟩ := ih (ins lt x r) (ins_sorted h x r hr)
    refine ⟨h1, ?_⟩
    have h3 := (ins_sw h x r hr).ctx [] l
    simp only [List.nil_append] at h3
    have e : r ++ [x] ++ l = r ++ x :: l := by simp
    rw [e] at h3
    exact h3.trans h2
theorem ssort_sorted (h : Swo lt) (l : List α) : Sorted lt (ssort lt l) := (fold_sorted h l [] List.Pairwise.nil).1
theorem ssort_sw (h : Swo lt) (l : List α) : Sw lt l (ssort lt l) := by
  have := (fold_sorted h l [] List.Pairwise.nil).2
  rw [List.nil_append] at this
  exact this
/-- the one sorted row to which swaps lead -/
theorem ssort_eq (h : Swo lt) {l a : List α} (hs : Sw lt l a) (ha : Sorted lt a) : a = ssort lt l := by
  have h1 := ssort_sw h l
  exact uniq h a (ssort lt l) (hs.perm.symm.trans h1.perm) (fun x => (hs.filter h x).symm.trans (h1.filter h x)) ha (ssort_sorted h l)
theorem ssort_of_sw (h : Swo lt) {l a : List α} (hs : Sw lt l a) : ssort lt a = ssort lt l := ssort_eq h (hs.trans (ssort_sw h a)) (ssort_sorted h a)
theorem ssort_id (h : Swo lt) {l : List α} (hl : Sorted lt l) : ssort lt l = l := (ssort_eq h .refl hl).symm
theorem ssort_len (h : Swo lt) (l : List α) : (ssort lt l).length = l.length := (ssort_sw h l).perm.length_eq.symm
theorem mem_ssort (h : Swo lt) (l : List α) (x : α) : x ∈ ssort lt l ↔ x ∈ l := (ssort_sw h l).perm.symm.mem_iff
theorem ssort_app (h : Swo lt) (a b : List α) : ssort lt (ssort lt a ++ ssort lt b) = ssort lt (a ++ b) := ssort_of_sw h ((ssort_sw h a).app (ssort_sw h b))
theorem ssort_snoc (l : List α) (x : α) : ssort lt (l ++ [x]) = ins lt x (ssort lt l) := by unfold ssort; rw [List.foldl_append]; rfl
/-- a merge, cut in two -/
theorem ssort_cut (h : Swo lt) (l1 l2 r1 r2 : List α) (hx : ∀ x ∈ l2, ∀ y ∈ r1, lt y x = true) (h12 : ∀ a ∈ l1, ∀ b ∈ l2, lt b a = false) (hr : ∀ a ∈ r1, ∀ b ∈ r2, lt b a = false) (hlr : ∀ a ∈ l1, ∀ b ∈ r2, lt b a = false) :
    ssort lt (l1 ++ l2 ++ (r1 ++ r2)) = ssort lt (l1 ++ r1) ++ ssort lt (l2 ++ r2) := by
  symm
  apply ssort_eq h
  · have h1 := (Sw.blocks l2 r1 hx).ctx l1 r2
    have e1 : l1 ++ (l2 ++ r1) ++ r2 = l1 ++ l2 ++ (r1 ++ r2) := by simp
    have e2 : l1 ++ (r1 ++ l2) ++ r2 = (l1 ++ r1) ++ (l2 ++ r2) := by simp
    rw [e1, e2] at h1
    exact h1.trans ((ssort_sw h _).app (ssort_sw h _))
  · refine List.pairwise_append.2 ⟨ssort_sorted h _, ssort_sorted h _, fun a ha b hb => ?_⟩
    rw [mem_ssort h] at ha hb
    rcases List.mem_append.1 ha with ha | ha <;> rcases List.mem_append.1 hb with hb | hb
    · exact h12 a ha b hb
    · exact hlr a ha b hb
    · exact h.asymm _ _ (hx b hb a ha)
    · exact hr a ha b hb
/-- where x comes to stand -/
theorem ins_at (h : Swo lt) (x : α) : ∀ (S : List α), Sorted lt S → ∀ m, m ≤ S.length → (∀ y ∈ S.drop m, lt x y = true) → (∀ y, S[m - 1]? = some y → 0 < m → lt x y = false) → S.take m ++ x :: S.drop m = ins lt x S := by
  intro S
  induction S with
  | nil => intro _ m hm _ _; simp [ins]
  | cons y S ih =>
    intro hS m hm h1 h2
    have hS' := List.pairwise_cons.1 hS
    match m with
    | 0 =>
      have := h1 y (by simp)
      simp [ins, this]
    | m + 1 =>
      have hxy : lt x y = false := by
        have hl : m < (y :: S).length := by simp at hm ⊢; omega
        have hlast := h2 (y :: S)[m] (by simp [List.getElem?_eq_getElem hl]) (by omega)
        by_cases h0 : m = 0
        · subst h0; simpa using hlast
        · have hmem : (y :: S)[m] ∈ S := by
            obtain ⟨j, rfl⟩ : ∃ j, m = j + 1 := ⟨m - 1, by omega⟩
            simp
          exact h.ntrans y _ x (hS'.1 _ hmem) hlast
      unfold ins
      rw [if_neg (by rw [hxy]; simp)]
      simp only [List.take_succ_cons, List.drop_succ_cons, List.cons_append]
      congr 1
      refine ih hS'.2 m (by simpa using hm) h1 (fun z hz hm0 => ?_)
      refine h2 z ?_ (by omega)
      obtain ⟨j, rfl⟩ : ∃ j, m = j + 1 := ⟨m - 1, by omega⟩
      simpa using hz
end Go.Proofs.YteailgjiifdgcaaGreatDoor.SortM

/- Plain facts on sets of spans: points, what spans cover; sets whose spans stand apart are known by what they cover; the form. -/
namespace Go.Proofs.YteailgjiifdgcaaGreatDoor.VerN
open Go.Lib SortM

/-- a place in the row of versions: ahead of all; at a text; just behind a text -/
abbrev Pt := Option (Bool × List UInt8)
def covS (s : Sp) : Pt → Prop
  | none => s.1 = []
  | some (false, p) => lower s.1 p ∧ upper s.2 p
  | some (true, p) => lower s.1 p ∧ (s.2 = [] ∨ ¬ le s.2 p)
def cov (l : List Sp) (x : Pt) : Prop := ∃ s ∈ l, covS s x
/-- the first one stands whole ahead of the second one -/
def bef (a b : Sp) : Prop := a.2 ≠ [] ∧ b.1 ≠ [] ∧ ¬ le b.1 a.2
def Sep (l : List Sp) : Prop := (∀ s ∈ l, mayS s = true) ∧ l.Pairwise bef
theorem le_anti {a b : List UInt8} (ha : mayL a = true) (h1 : le a b) (h2 : le b a) : a = b := by
  have h3 := row_compare.neg a b
  have h4 : compareL a b = 0 := by unfold le at h1 h2; omega
  rcases compare_zero h4 with h | ⟨h, _⟩
  · exact h
  · rw [ha] at h; cases h
theorem not_le_le {a b : List UInt8} (h : ¬ le a b) : le b a := (le_total a b).resolve_left h
theorem may_lo {s : Sp} (h : mayS s = true) (h1 : s.1 ≠ []) : mayL s.1 = true := (bound_iff.1 (mayS_iff.1 h).1).resolve_left h1
theorem may_hi {s : Sp} (h : mayS s = true) (h1 : s.2 ≠ []) : mayL s.2 = true := (bound_iff.1 (mayS_iff.1 h).2.1).resolve_left h1
theorem bef_apart {a b : Sp} (h : bef a b) (x : Pt) (ha : covS a x) (hb : covS b x) : False := by
  obtain ⟨h1, h2, h3⟩ := h
  match x, ha, hb with
  | none, _, hb => exact h2 hb
  | some (false, p), ha, hb =>
    rcases ha.2 with h | h
    · exact h1 h
    · rcases hb.1 with k | k
      · exact h2 k
      · exact h3 (le_trans k h)
  | some (true, p), ha, hb =>
    rcases ha.2 with h | h
    · exact h1 h
    · rcases hb.1 with k | k
      · exact h2 k
      · exact h3 (le_trans k (not_le_le h))
theorem cov_some {s : Sp} (h : mayS s = true) : ∃ x, covS s x := by
  by_cases h1 : s.1 = []
  · exact ⟨none, h1⟩
  · refine ⟨some (false, s.1), .inr (le_refl _), ?_⟩
    rcases (mayS_iff.1 h).2.2 with k | k | k
    · exact absurd k h1
    · exact .inl k
    · exact .inr k
theorem cov_lo {g : Sp} {G : List Sp} (h : Sep (g :: G)) {p : List UInt8} (hx : cov (g :: G) (some (false, p))) : lower g.1 p := by
  obtain ⟨s, hs, hc⟩ := hx
  rcases List.mem_cons.1 hs with rfl | hs
  · exact hc.1
  · obtain ⟨b1, b2, b3⟩ := (List.pairwise_cons.1 h.2).1 s hs
    rcases (mayS_iff.1 (h.1 g (by simp))).2.2 with k | k | k
    · exact .inl k
    · exact absurd k b1
    · rcases hc.1 with m | m
      · exact absurd m b2
      · exact .inr (le_trans (le_trans k (not_le_le b3)) m)
theorem cov_bot {g : Sp} {G : List Sp} (h : Sep (g :: G)) (hx : cov (g :: G) none) : g.1 = [] := by
  obtain ⟨s, hs, hc⟩ := hx
  rcases List.mem_cons.1 hs with rfl | hs
  · exact hc
  · exact absurd hc ((List.pairwise_cons.1 h.2).1 s hs).2.1
theorem lo_half {f g : Sp} {F G : List Sp} (hf : Sep (f :: F)) (hg : Sep (g :: G)) (h : ∀ x, cov (f :: F) x → cov (g :: G) x) : (f.1 = [] → g.1 = []) ∧ (f.1 ≠ [] → lower g.1 f.1) := by
  constructor
  · intro e
    exact cov_bot hg (h none ⟨f, by simp, e⟩)
  · intro e
    refine cov_lo hg (h _ ⟨f, by simp, .inr (le_refl _), ?_⟩)
    rcases (mayS_iff.1 (hf.1 f (by simp))).2.2 with k | k | k
    · exact absurd k e
    · exact .inl k
    · exact .inr k
theorem lo_eq {f g : Sp} {F G : List Sp} (hf : Sep (f :: F)) (hg : Sep (g :: G)) (h : ∀ x, cov (f :: F) x ↔ cov (g :: G) x) : f.1 = g.1 := by
  obtain ⟨a1, a2⟩ := lo_half hf hg fun x => (h x).1
  obtain ⟨b1, b2⟩ := lo_half hg hf fun x => (h x).2
  by_cases e : f.1 = []
  · rw [e, a1 e]
  · have e2 : g.1 ≠ [] := fun k => e (b1 k)
    rcases a2 e with k | k
    · exact absurd k e2
    · rcases b2 e2 with m | m
      · exact absurd m e
      · exact le_anti (may_lo (hf.1 f (by simp)) e) m k
theorem hi_half {f g : Sp} {F G : List Sp} (hg : Sep (g :: G)) (e : f.1 = g.1) (h : ∀ x, cov (f :: F) x → cov (g :: G) x) (hg2 : g.2 ≠ []) : f.2 ≠ [] ∧ le f.2 g.2 := by
  by_cases hc : f.2 = [] ∨ ¬ le f.2 g.2
  · exfalso
    have hlo : lower f.1 g.2 := by
      rw [e]
      rcases (mayS_iff.1 (hg.1 g (by simp))).2.2 with k | k | k
      · exact .inl k
      · exact absurd k hg2
      · exact .inr k
    obtain ⟨s, hs, hk⟩ := h (some (true, g.2)) ⟨f, by simp, hlo, hc⟩
    rcases List.mem_cons.1 hs with rfl | hs
    · rcases hk.2 with k | k
      · exact hg2 k
      · exact k (le_refl _)
    · obtain ⟨_, b2, b3⟩ := (List.pairwise_cons.1 hg.2).1 s hs
      rcases hk.1 with k | k
      · exact b2 k
      · exact b3 k
  · exact ⟨fun k => hc (.inl k), Classical.not_not.1 fun k => hc (.inr k)⟩
theorem hi_eq {f g : Sp} {F G : List Sp} (hf : Sep (f :: F)) (hg : Sep (g :: G)) (e : f.1 = g.1) (h : ∀ x, cov (f :: F) x ↔ cov (g :: G) x) : f.2 = g.2 := by
  by_cases e2 : g.2 = []
  · rw [e2]
    refine Classical.not_not.1 fun k => ?_
    exact (hi_half hf e.symm (fun x => (h x).2) k).1 e2
  · obtain ⟨a1, a2⟩ := hi_half hg e (fun x => (h x).1) e2
    obtain ⟨_, b2⟩ := hi_half hf e.symm (fun x => (h x).2) a1
    exact le_anti (may_hi (hf.1 f (by simp)) a1) a2 b2
theorem cov_tail {f : Sp} {F : List Sp} (h : Sep (f :: F)) (x : Pt) : cov F x ↔ cov (f :: F) x ∧ ¬ covS f x := by
  constructor
  · rintro ⟨s, hs, hc⟩
    exact ⟨⟨s, by simp [hs], hc⟩, fun k => bef_apart ((List.pairwise_cons.1 h.2).1 s hs) x k hc⟩
  · rintro ⟨⟨s, hs, hc⟩, hn⟩
    rcases List.mem_cons.1 hs with rfl | hs
    · exact absurd hc hn
    · exact ⟨s, hs, hc⟩
theorem Sep.tail {f : Sp} {F : List Sp} (h : Sep (f :: F)) : Sep F := ⟨fun s hs => h.1 s (by simp [hs]), (List.pairwise_cons.1 h.2).2⟩
/-- spans that stand apart, in a row, are known by what they cover -/
theorem sep_one : ∀ (F G : List Sp), Sep F → Sep G → (∀ x, cov F x ↔ cov G x) → F = G
  | [], [], _, _, _ => rfl
  | [], g :: G, _, hg, h => by
    obtain ⟨x, hx⟩ := cov_some (hg.1 g (by simp))
    obtain ⟨s, hs, _⟩ := (h x).2 ⟨g, by simp, hx⟩
    simp at hs
  | f :: F, [], hf, _, h => by
    obtain ⟨x, hx⟩ := cov_some (hf.1 f (by simp))
    obtain ⟨s, hs, _⟩ := (h x).1 ⟨f, by simp, hx⟩
    simp at hs
  | f :: F, g :: G, hf, hg, h => by
    have e1 := lo_eq hf hg h
    have e2 := hi_eq hf hg e1 h
    obtain rfl : f = g := Prod.ext e1 e2
    rw [sep_one F G hf.tail hg.tail fun x => by rw [cov_tail hf, cov_tail hg, h x]]

/-! what meets, and the least span of two -/
theorem bef_iff {a b : Sp} : bef a b ↔ aheadB a.2 b.1 = true := by unfold bef; rw [ahead_yes]
def okb (lo hi : List UInt8) : Prop := lo = [] ∨ hi = [] ∨ le lo hi
theorem okb_bef {a b : Sp} : okb b.1 a.2 ↔ ¬ bef a b := by
  unfold okb bef
  constructor
  · rintro (h | h | h) ⟨h1, h2, h3⟩
    · exact h2 h
    · exact h1 h
    · exact h3 h
  · intro h
    by_cases h2 : b.1 = []
    · exact .inl h2
    · by_cases h1 : a.2 = []
      · exact .inr (.inl h1)
      · exact .inr (.inr (Classical.not_not.1 fun k => h ⟨h1, h2, k⟩))
theorem okb_sooner {lo h k : List UInt8} : okb lo (soonerB h k) ↔ okb lo h ∧ okb lo k := by
  by_cases e : lo = []
  · unfold okb; simp [e]
  · have hh : ∀ x, okb lo x ↔ upper x lo := fun x => ⟨fun h => h.resolve_left e, fun h => .inr h⟩
    rw [hh, hh, hh]
    exact upper_sooner
theorem okb_later {x y hi : List UInt8} : okb (laterB x y) hi ↔ okb x hi ∧ okb y hi := by
  by_cases e : hi = []
  · unfold okb; simp [e]
  · have hh : ∀ x, okb x hi ↔ lower x hi := fun x => ⟨fun h => h.elim .inl fun h => .inr (h.resolve_left e), fun h => h.elim .inl fun h => .inr (.inr h)⟩
    rw [hh, hh, hh]
    exact lower_later
theorem may_okb {s : Sp} (h : mayS s = true) : okb s.1 s.2 := (mayS_iff.1 h).2.2
theorem meet_iff {a b : Sp} (ha : mayS a = true) (hb : mayS b = true) : meetOk a b = true ↔ ¬ bef a b ∧ ¬ bef b a := by
  unfold meetOk
  rw [ha, hb, Bool.true_and, Bool.true_and, mayS_iff]
  obtain ⟨h1, h2⟩ := meet_bounds ha hb
  rw [← okb_bef, ← okb_bef]
  constructor
  · rintro ⟨_, _, h⟩
    have h : okb (laterB a.1 b.1) (soonerB a.2 b.2) := h
    rw [okb_later, okb_sooner, okb_sooner] at h
    exact ⟨h.2.1, h.1.2⟩
  · rintro ⟨k1, k2⟩
    refine ⟨h1, h2, ?_⟩
    show okb (laterB a.1 b.1) (soonerB a.2 b.2)
    rw [okb_later, okb_sooner, okb_sooner]
    exact ⟨⟨may_okb ha, k2⟩, k1, may_okb hb⟩
theorem sooner_or {a b : List UInt8} (ha : a ≠ []) (hb : b ≠ []) (p : List UInt8) : le (soonerB a b) p ↔ le a p ∨ le b p := by
  obtain ⟨h1, h2, _⟩ := sooner_le ha hb
  constructor
  · intro h
    rcases sooner_cases a b with e | e
    · rw [e] at h; exact .inl h
    · rw [e] at h; exact .inr h
  · rintro (h | h)
    · exact le_trans h1 h
    · exact le_trans h2 h
theorem later_or {a b : List UInt8} (ha : a ≠ []) (hb : b ≠ []) (p : List UInt8) : le p (laterB a b) ↔ le p a ∨ le p b := by
  obtain ⟨h1, h2, _⟩ := later_ge ha hb
  constructor
  · intro h
    rcases later_cases a b with e | e
    · rw [e] at h; exact .inl h
    · rw [e] at h; exact .inr h
  · rintro (h | h)
    · exact le_trans h h1
    · exact le_trans h h2
theorem later_nle {a b : List UInt8} (ha : a ≠ []) (hb : b ≠ []) (p : List UInt8) : ¬ le (laterB a b) p ↔ ¬ le a p ∨ ¬ le b p := by
  obtain ⟨h1, h2, _⟩ := later_ge ha hb
  constructor
  · intro h
    rcases later_cases a b with e | e
    · rw [e] at h; exact .inl h
    · rw [e] at h; exact .inr h
  · rintro (h | h) k
    · exact h (le_trans h1 k)
    · exact h (le_trans h2 k)
theorem join_parts {a b : Sp} (ha : mayS a = true) (hb : mayS b = true) : joinS a b = (if a.1 ≠ [] ∧ b.1 ≠ [] then soonerB a.1 b.1 else [], if a.2 ≠ [] ∧ b.2 ≠ [] then laterB a.2 b.2 else []) := by
  unfold joinS; rw [if_pos ⟨ha, hb⟩]
theorem join_lower {a b : Sp} (ha : mayS a = true) (hb : mayS b = true) (p : List UInt8) : lower (joinS a b).1 p ↔ lower a.1 p ∨ lower b.1 p := by
  rw [join_parts ha hb]
  by_cases h : a.1 ≠ [] ∧ b.1 ≠ []
  · have e := sooner_or h.1 h.2 p
    have n := (sooner_le h.1 h.2).2.2
    simp only [if_pos h]
    unfold lower
    simp only [h.1, h.2, n, false_or, e]
  · simp only [if_neg h]
    refine ⟨fun _ => ?_, fun _ => .inl rfl⟩
    by_cases h1 : a.1 = []
    · exact .inl (.inl h1)
    · by_cases h2 : b.1 = []
      · exact .inr (.inl h2)
      · exact absurd ⟨h1, h2⟩ h
theorem join_nil {a b : Sp} (ha : mayS a = true) (hb : mayS b = true) : (joinS a b).1 = [] ↔ a.1 = [] ∨ b.1 = [] := by
  rw [join_parts ha hb]
  by_cases h : a.1 ≠ [] ∧ b.1 ≠ []
  · have n := (sooner_le h.1 h.2).2.2
    simp only [if_pos h, n, h.1, h.2, or_self]
  · simp only [if_neg h, true_iff]
    by_cases h1 : a.1 = []
    · exact .inl h1
    · by_cases h2 : b.1 = []
      · exact .inr h2
      · exact absurd ⟨h1, h2⟩ h
theorem join_upper {a b : Sp} (ha : mayS a = true) (hb : mayS b = true) (p : List UInt8) : upper (joinS a b).2 p ↔ upper a.2 p ∨ upper b.2 p := by
  rw [join_parts ha hb]
  by_cases h : a.2 ≠ [] ∧ b.2 ≠ []
  · have e := later_or h.1 h.2 p
    have n := (later_ge h.1 h.2).2.2
    simp only [if_pos h]
    unfold upper
    simp only [h.1, h.2, n, false_or, e]
  · simp only [if_neg h]
    refine ⟨fun _ => ?_, fun _ => .inl rfl⟩
    by_cases h1 : a.2 = []
    · exact .inl (.inl h1)
    · by_cases h2 : b.2 = []
      · exact .inr (.inl h2)
      · exact absurd ⟨h1, h2⟩ h
theorem join_gap {a b : Sp} (ha : mayS a = true) (hb : mayS b = true) (p : List UInt8) : ((joinS a b).2 = [] ∨ ¬ le (joinS a b).2 p) ↔ (a.2 = [] ∨ ¬ le a.2 p) ∨ (b.2 = [] ∨ ¬ le b.2 p) := by
  rw [join_parts ha hb]
  by_cases h : a.2 ≠ [] ∧ b.2 ≠ []
  · have e := later_nle h.1 h.2 p
    have n := (later_ge h.1 h.2).2.2
    simp only [if_pos h, h.1, h.2, n, false_or, e]
  · simp only [if_neg h, true_or, true_iff]
    by_cases h1 : a.2 = []
    · exact .inl (.inl h1)
    · by_cases h2 : b.2 = []
      · exact .inr (.inl h2)
      · exact absurd ⟨h1, h2⟩ h
/-- of two that meet, a text above the bound below of the one and below the bound above of the other is in one -/
theorem cross {a b : Sp} (h : ¬ bef a b) {p : List UInt8} (hlo : lower a.1 p) (hhi : upper b.2 p) : upper a.2 p ∨ lower b.1 p := by
  by_cases h1 : upper a.2 p
  · exact .inl h1
  · by_cases h2 : lower b.1 p
    · exact .inr h2
    · exfalso
      have a1 : a.2 ≠ [] := fun e => h1 (.inl e)
      have b1 : b.1 ≠ [] := fun e => h2 (.inl e)
      have a2 : ¬ le p a.2 := fun e => h1 (.inr e)
      have b2 : ¬ le b.1 p := fun e => h2 (.inr e)
      exact h ⟨a1, b1, fun k => b2 (le_trans k (not_le_le a2))⟩
theorem cross_gap {a b : Sp} (h : ¬ bef a b) {p : List UInt8} (hlo : lower a.1 p) (hhi : b.2 = [] ∨ ¬ le b.2 p) : (a.2 = [] ∨ ¬ le a.2 p) ∨ lower b.1 p := by
  by_cases h1 : a.2 = [] ∨ ¬ le a.2 p
  · exact .inl h1
  · by_cases h2 : lower b.1 p
    · exact .inr h2
    · exfalso
      have a1 : a.2 ≠ [] := fun e => h1 (.inl e)
      have b1 : b.1 ≠ [] := fun e => h2 (.inl e)
      have a2 : le a.2 p := Classical.not_not.1 fun e => h1 (.inr e)
      have b2 : ¬ le b.1 p := fun e => h2 (.inr e)
      exact h ⟨a1, b1, fun k => b2 (le_trans k a2)⟩
theorem join_cov {a b : Sp} (ha : mayS a = true) (hb : mayS b = true) (hm : meetOk a b = true) (x : Pt) : covS (joinS a b) x ↔ covS a x ∨ covS b x := by
  obtain ⟨h1, h2⟩ := (meet_iff ha hb).1 hm
  match x with
  | none => exact join_nil ha hb
  | some (false, p) =>
    show lower _ p ∧ upper _ p ↔ (lower _ p ∧ upper _ p) ∨ (lower _ p ∧ upper _ p)
    rw [join_lower ha hb, join_upper ha hb]
    constructor
    · rintro ⟨l | l, u | u⟩
      · exact .inl ⟨l, u⟩
      · rcases cross h1 l u with k | k
        · exact .inl ⟨l, k⟩
        · exact .inr ⟨k, u⟩
      · rcases cross h2 l u with k | k
        · exact .inr ⟨l, k⟩
        · exact .inl ⟨k, u⟩
      · exact .inr ⟨l, u⟩
    · rintro (⟨l, u⟩ | ⟨l, u⟩)
      · exact ⟨.inl l, .inl u⟩
      · exact ⟨.inr l, .inr u⟩
  | some (true, p) =>
    show lower _ p ∧ (_ ∨ _) ↔ (lower _ p ∧ (_ ∨ _)) ∨ (lower _ p ∧ (_ ∨ _))
    rw [join_lower ha hb, join_gap ha hb]
    constructor
    · rintro ⟨l | l, u | u⟩
      · exact .inl ⟨l, u⟩
      · rcases cross_gap h1 l u with k | k
        · exact .inl ⟨l, k⟩
        · exact .inr ⟨k, u⟩
      · rcases cross_gap h2 l u with k | k
        · exact .inr ⟨l, k⟩
        · exact .inl ⟨k, u⟩
      · exact .inr ⟨l, u⟩
    · rintro (⟨l, u⟩ | ⟨l, u⟩)
      · exact ⟨.inl l, .inl u⟩
      · exact ⟨.inr l, .inr u⟩

/-! the row by bounds below, and what is put together of it -/
def ltLo (a b : List UInt8) : Bool := decide (b ≠ []) && (decide (a = []) || decide (compareL a b < 0))
def loLe (a b : List UInt8) : Prop := a = [] ∨ (b ≠ [] ∧ le a b)
theorem ltLo_no {a b : List UInt8} : ltLo b a = false ↔ loLe a b := by
  have h : ¬ compareL b a < 0 ↔ le a b := by
    have := row_compare.neg a b
    unfold le; omega
  unfold ltLo loLe
  simp only [Bool.and_eq_false_iff, Bool.or_eq_false_iff, decide_eq_false_iff_not, ne_eq, Decidable.not_not, h]
def addS (out : List Sp) (x : Sp) : List Sp := match out.getLast? with
  | some z => if meetOk z x = true then out.dropLast ++ [joinS z x] else out ++ [x]
  | none => [x]
def mergeS (l : List Sp) : List Sp := l.foldl addS []
theorem addS_nil (x : Sp) : addS [] x = [x] := rfl
theorem addS_snoc (O : List Sp) (z x : Sp) : addS (O ++ [z]) x = if meetOk z x = true then O ++ [joinS z x] else O ++ [z, x] := by
  unfold addS
  simp
theorem join_first {z x : Sp} (hz : mayS z = true) (hx : mayS x = true) (h : loLe z.1 x.1) : (joinS z x).1 = z.1 := by
  rw [join_parts hz hx]
  by_cases h1 : z.1 ≠ [] ∧ x.1 ≠ []
  · simp only [if_pos h1]
    unfold soonerB
    rcases h with h | h
    · exact absurd h h1.1
    · rw [if_neg]
      rintro (k | k)
      · exact h1.1 k
      · exact (ahead_yes.1 k).2.2 h.2
  · simp only [if_neg h1]
    rcases h with h | h
    · exact h.symm
    · by_cases e : z.1 = []
      · exact e.symm
      · exact absurd ⟨e, h.1⟩ h1
/-- two of which the first one's bound below stands ahead, and that don't meet, stand apart -/
theorem apart_of {z x : Sp} (hz : mayS z = true) (hx : mayS x = true) (h : loLe z.1 x.1) (hm : meetOk z x = false) : bef z x := by
  refine Classical.not_not.1 fun hn => ?_
  have : ¬ (¬ bef z x ∧ ¬ bef x z) := fun k => by rw [(meet_iff hz hx).2 k] at hm; cases hm
  refine this ⟨hn, ?_⟩
  rintro ⟨b1, b2, b3⟩
  rcases h with h | ⟨h1, h⟩
  · exact b2 h
  · rcases may_okb hx with k | k | k
    · exact h1 k
    · exact b1 k
    · exact b3 (le_trans h k)
theorem bef_lo {o z x : Sp} (h : bef o z) (hl : loLe z.1 x.1) : bef o x := by
  obtain ⟨h1, h2, h3⟩ := h
  rcases hl with k | ⟨k1, k⟩
  · exact absurd k h2
  · exact ⟨h1, k1, fun m => h3 (le_trans k m)⟩
def Lo (a b : Sp) : Prop := loLe a.1 b.1
theorem add_sep {O : List Sp} {x : Sp} {r : List Sp} (ho : Sep O) (hx : mayS x = true) (hl : ∀ z, O.getLast? = some z → ∀ y ∈ x :: r, Lo z y) (hr : (x :: r).Pairwise Lo) :
    Sep (addS O x) ∧ (∀ z, (addS O x).getLast? = some z → ∀ y ∈ r, Lo z y) ∧ ∀ p, cov (addS O x) p ↔ cov O p ∨ covS x p := by
  rcases List.eq_nil_or_concat O with rfl | ⟨Q, z, rfl⟩
  · rw [addS_nil]
    refine ⟨⟨fun s hs => by rw [List.mem_singleton.1 hs]; exact hx, by simp⟩, fun z hz y hy => ?_, fun p => ?_⟩
    · simp at hz; subst hz
      exact (List.pairwise_cons.1 hr).1 y hy
    · unfold cov; simp
  · rw [List.concat_eq_append] at *
    rw [addS_snoc]
    have hzx : Lo z x := hl z (by simp) x (by simp)
    have hzm : mayS z = true := ho.1 z (by simp)
    obtain ⟨p1, p2, p3⟩ := List.pairwise_append.1 ho.2
    cases hm : meetOk z x with
    | true =>
      rw [if_pos rfl]
      have hj := join_first hzm hx hzx
      refine ⟨⟨fun s hs => ?_, ?_⟩, fun s hs y hy => ?_, fun p => ?_⟩
      · rcases List.mem_append.1 hs with h | h
        · exact ho.1 s (by simp [h])
        · rw [List.mem_singleton.1 h]; exact join_may hzm hx
      · refine List.pairwise_append.2 ⟨p1, by simp, fun o hO s hs => ?_⟩
        rw [List.mem_singleton.1 hs]
        obtain ⟨b1, b2, b3⟩ := p3 o hO z (by simp)
        exact ⟨b1, by rw [hj]; exact b2, by rw [hj]; exact b3⟩
      · simp at hs; subst hs
        show loLe _ _
        rw [hj]
        exact hl z (by simp) y (by simp [hy])
      · have hc := join_cov hzm hx hm p
        unfold cov
        simp only [List.mem_append, List.mem_singleton, or_and_right, exists_or, exists_eq_left, hc, or_assoc]
    | false =>
      rw [if_neg (by simp)]
      have hb := apart_of hzm hx hzx hm
      refine ⟨⟨fun s hs => ?_, ?_⟩, fun s hs y hy => ?_, fun p => ?_⟩
      · rcases List.mem_append.1 hs with h | h
        · exact ho.1 s (by simp [h])
        · rcases List.mem_cons.1 h with rfl | h
          · exact hzm
          · rw [List.mem_singleton.1 h]; exact hx
      · refine List.pairwise_append.2 ⟨p1, by simpa using hb, fun o hO s hs => ?_⟩
        have b := p3 o hO z (by simp)
        rcases List.mem_cons.1 hs with rfl | h
        · exact b
        · rw [List.mem_singleton.1 h]; exact bef_lo b hzx
      · simp at hs; subst hs
        exact (List.pairwise_cons.1 hr).1 y hy
      · unfold cov
        simp only [List.mem_append, List.mem_singleton, List.mem_cons, List.not_mem_nil, or_false, or_and_right, exists_or, exists_eq_left, or_assoc]
theorem fold_sep : ∀ (r O : List Sp), Sep O → (∀ s ∈ r, mayS s = true) → (∀ z, O.getLast? = some z → ∀ y ∈ r, Lo z y) → r.Pairwise Lo → Sep (r.foldl addS O) ∧ ∀ p, cov (r.foldl addS O) p ↔ cov O p ∨ cov r p
  | [], O, ho, _, _, _ => ⟨ho, fun p => by simp [cov]⟩
  | x :: r, O, ho, hm, hl, hr => by
    obtain ⟨h1, h2, h3⟩ := add_sep ho (hm x (by simp)) hl hr
    obtain ⟨k1, k2⟩ := fold_sep r (addS O x) h1 (fun s hs => hm s (by simp [hs])) h2 (List.pairwise_cons.1 hr).2
    refine ⟨k1, fun p => ?_⟩
    rw [List.foldl_cons, k2 p, h3 p]
    unfold cov
    simp only [List.mem_cons, or_and_right, exists_or, exists_eq_left, or_assoc]
theorem merge_sep {r : List Sp} (hm : ∀ s ∈ r, mayS s = true) (hr : r.Pairwise Lo) : Sep (mergeS r) ∧ ∀ p, cov (mergeS r) p ↔ cov r p := by
  obtain ⟨h1, h2⟩ := fold_sep r [] ⟨fun s hs => by simp at hs, List.Pairwise.nil⟩ hm (fun z hz => by simp at hz) hr
  exact ⟨h1, fun p => by rw [mergeS, h2 p]; simp [cov]⟩
/-- a row by bounds below of which no two meet stands apart -/
theorem sep_of {r : List Sp} (hm : ∀ s ∈ r, mayS s = true) (hr : r.Pairwise Lo) (hn : r.Pairwise fun a b => meetOk a b = false) : Sep r := by
  refine ⟨hm, ?_⟩
  refine (List.pairwise_and_iff.2 ⟨hr, hn⟩).imp_of_mem ?_
  intro a b ha hb h
  exact apart_of (hm a ha) (hm b hb) h.1 h.2
theorem cov_perm {a b : List Sp} (h : a.Perm b) (p : Pt) : cov a p ↔ cov b p := by
  unfold cov
  simp only [h.mem_iff]
theorem cov_append (a b : List Sp) (p : Pt) : cov (a ++ b) p ↔ cov a p ∨ cov b p := by
  unfold cov
  simp only [List.mem_append, or_and_right, exists_or]
end Go.Proofs.YteailgjiifdgcaaGreatDoor.VerN

/- A slice's elements as values, and a row that a call owns read as a slice. No condition. -/
namespace Go.Proofs.YteailgjiifdgcaaGreatDoor
open Go.RowKit

/-- the elements of a slice, one cell each, as values -/
theorem slice_vals {α : Type} {R : Rd α} {w : World} {v : Value} {l : List α} (h : RSlice 1 R w [v] l) : ∃ (a : Option Addr) (cap : Nat) (vs : List Value), v = .slice a l.length cap ∧ l.length ≤ cap ∧ cap ≤ maxLen ∧ vs.length = l.length ∧ (∀ (i : Nat) u, vs[i]? = some u → ∃ b off, a = some ⟨b, off, none⟩ ∧ w.cell? ⟨b, off + i, none⟩ = some u) ∧ ∀ (i : Nat) u x, vs[i]? = some u → l[i]? = some x → R w [u] x := by
  obtain ⟨a, cap, hv, hcap, hmax, hel⟩ := h
  simp only [List.cons.injEq, and_true] at hv
  have hex : ∀ i (hi : i < l.length), ∃ u, (∃ b off, a = some ⟨b, off, none⟩ ∧ w.cell? ⟨b, off + i, none⟩ = some u) ∧ R w [u] l[i] := by
    intro i hi
    obtain ⟨b, off, ecs, h1, h2, h3, h4⟩ := hel i l[i] (List.getElem?_eq_getElem hi)
    match ecs, h2 with
    | [u], _ => exact ⟨u, ⟨b, off, h1, by simpa using h3 0 u rfl⟩, h4⟩
  have build : ∀ k, k ≤ l.length → ∃ vs : List Value, vs.length = k ∧ (∀ (i : Nat) u, vs[i]? = some u → ∃ b off, a = some ⟨b, off, none⟩ ∧ w.cell? ⟨b, off + i, none⟩ = some u) ∧ ∀ (i : Nat) u x, vs[i]? = some u → l[i]? = some x → R w [u] x := by
    intro k
    induction k with
    | zero => exact fun _ => ⟨[], rfl, fun i u h => by simp at h, fun i u x h => by simp at h⟩
    | succ k ih =>
      intro hk
      obtain ⟨vs, h1, h2, h3⟩ := ih (by omega)
      obtain ⟨u, h4, h5⟩ := hex k (by omega)
      refine ⟨vs ++ [u], by simp [h1], fun i x hx => ?_, fun i x y hx hy => ?_⟩
      · by_cases hi : i < vs.length
        · rw [List.getElem?_append_left hi] at hx; exact h2 i x hx
        · have hlt := (List.getElem?_eq_some_iff.1 hx).1
          have e : i = vs.length := by simp at hlt; omega
          rw [List.getElem?_append_right (by omega), e, Nat.sub_self] at hx
          simp at hx; subst hx
          rw [e, h1]; exact h4
      · by_cases hi : i < vs.length
        · rw [List.getElem?_append_left hi] at hx; exact h3 i x y hx hy
        · have hlt := (List.getElem?_eq_some_iff.1 hx).1
          have e : i = vs.length := by simp at hlt; omega
          rw [List.getElem?_append_right (by omega), e, Nat.sub_self] at hx
          simp at hx; subst hx
          rw [e, h1, List.getElem?_eq_getElem (by omega)] at hy
          simp at hy; subst hy
          exact h5
  obtain ⟨vs, h1, h2, h3⟩ := build l.length (Nat.le_refl _)
  exact ⟨a, cap, vs, hv, hcap, hmax, h1, h2, h3⟩
/-- a row that the call owns, each of whose cells reads, reads as a slice -/
theorem slice_of_owns {α : Type} {R : Rd α} {w : World} {B : Nat} {e : TypeId} {v : Value} {vs : List Value} {l : List α} (hlen : vs.length = l.length) (h : w.ownsRow B e 1 v l.length vs) (hr : ∀ (i : Nat) u x, vs[i]? = some u → l[i]? = some x → R w [u] x) : RSlice 1 R w [v] l := by
  obtain ⟨a, cap, rfl, h1, h2, h3⟩ := Sl.of_owns h
  refine ⟨a, cap, rfl, h1, h2, fun i f hi => ?_⟩
  have hil := (List.getElem?_eq_some_iff.1 hi).1
  have hiv : i < vs.length := by omega
  obtain ⟨b, off, ha, hc⟩ := h3 i vs[i] (List.getElem?_eq_getElem hiv)
  refine ⟨b, off, [vs[i]], ha, rfl, fun j u hu => ?_, hr i _ f (List.getElem?_eq_getElem hiv) hi⟩
  have hj : j = 0 := by have := (List.getElem?_eq_some_iff.1 hu).1; simp at this; omega
  subst hj
  simp at hu
  subst hu
  simpa using hc
end Go.Proofs.YteailgjiifdgcaaGreatDoor

/- The walks of the document's letters, Digits, part, Cut and May of versions. Condition: the text's reach. -/
namespace Go.Proofs.YteailgjiifdgcaaGreatDoor
open Go.RowKit Go.Lib VerN

theorem letOk_all {l : List UInt8} (h : letOk l = true) : ∀ x ∈ l, isLet x = true := by unfold letOk at h; rw [Bool.and_eq_true] at h; exact List.all_eq_true.1 h.2
theorem digs_all {l : List UInt8} (h : digs l = true) : ∀ x ∈ l, isDig x = true := by unfold digs at h; rw [Bool.and_eq_true] at h; exact List.all_eq_true.1 h.1
set_option maxRecDepth 10000 in
set_option maxHeartbeats 1000000 in
theorem letters1_any (s : ByteArray) (hs : s.size ≤ 9223372036854775807) (w : World) : Calls Tryz.prog 203 #[.string s] w fun e w' => e = .returned (.bool (letOk s.data.toList)) ∧ w = w' := by
  obtain ⟨l, hl⟩ : ∃ l, l = s.data.toList := ⟨_, rfl⟩
  have hln : l.length = s.size := by rw [hl]; exact Txt.len s
  obtain ⟨r, hr⟩ : ∃ r, r = letOk l := ⟨_, rfl⟩
  rw [← hl, ← hr]
  have Hl := Lib.hid hl; have Hln := Lib.hid hln; have Hr := Lib.hid hr; clear hl hln hr
  go_enter Tryz.func203, Tryz.ntmps203
  go_wp2_with fail
  go_loop [3] (fun i => ∃ k : Nat, k ≤ s.size ∧ i = .int .i64 k ∧ (l.take k).all isLet = true) (fun i => s.size - (RowKit.intOf i).toNat)
  case atStart => exact ⟨0, Nat.zero_le _, rfl, by simp⟩
  case round =>
    obtain ⟨k, hk, rfl, hall⟩ := hrel
    by_cases hlt : k < s.size
    · have hkl : k < l.length := by have := Hln.out; omega
      obtain ⟨n, hn⟩ : ∃ n, n = s[k].toNat := ⟨_, rfl⟩
      have hn256 : n < 256 := by rw [hn]; exact s[k].toNat_lt
      have hsk : s[k].toNat = n := hn.symm
      have e : l[k] = s[k] := by simp only [Hl.out]; rfl
      have hyes : 97 ≤ n → n ≤ 122 → (l.take (k + 1)).all isLet = true := fun h1 h2 => by
        rw [List.take_succ_eq_append_getElem hkl, List.all_append, hall]
        simp only [List.all_cons, List.all_nil, Bool.and_true, Bool.true_and]
        rw [isLet_iff, e, hsk]; exact ⟨h1, h2⟩
      have hno : ¬ (97 ≤ n ∧ n ≤ 122) → r = false := fun h => by
        rw [Hr.out, Bool.eq_false_iff]
        intro h2
        have := (letOk_all h2) l[k] (List.getElem_mem hkl)
        rw [isLet_iff, e, hsk] at this
        exact h this
      clear hn e hkl
      rcases Nat.lt_or_ge n 97 with h1 | h1
      · have hf := hno (by omega)
        have k1 : decide ((n : Int) < 97) = true := decide_eq_true (by omega)
        have Hall := Lib.hid hall; have Hyes := Lib.hid hyes; have Hno := Lib.hid hno; have Hf := Lib.hid hf; clear hall hyes hno hf
        go_wp2_with fail
        go_ret
        exact ⟨ret_bool Hf.out.symm, rfl⟩
      · have k1 : decide ((n : Int) < 97) = false := decide_eq_false (by omega)
        rcases Nat.lt_or_ge 122 n with h2 | h2
        · have hf := hno (by omega)
          have k2 : decide (122 < (n : Int)) = true := decide_eq_true (by omega)
          have Hall := Lib.hid hall; have Hyes := Lib.hid hyes; have Hno := Lib.hid hno; have Hf := Lib.hid hf; clear hall hyes hno hf
          go_wp2_with fail
          go_ret
          exact ⟨ret_bool Hf.out.symm, rfl⟩
        · have k2 : decide (122 < (n : Int)) = false := decide_eq_false (by omega)
          have hnext := hyes h1 h2
          have Hall := Lib.hid hall; have Hyes := Lib.hid hyes; have Hno := Lib.hid hno; have Hnext := Lib.hid hnext; clear hall hyes hno hnext
          go_wp2_with fail
          go_round
          case rel => exact ⟨k + 1, by omega, by go_num, Hnext.out⟩
          case measure => simp [RowKit.intOf]; omega
    · obtain rfl : k = s.size := by omega
      have hall2 : l.all isLet = true := by rw [List.take_of_length_le (by have := Hln.out; omega)] at hall; exact hall
      have hf : (!s.toList.isEmpty) = r := by
        rw [Hr.out, Txt.no_dec]
        have h0 := Hln.out
        unfold letOk
        rw [hall2]
        cases l with
        | nil => simp at h0; rw [decide_eq_true (by omega)]; rfl
        | cons x t => simp at h0; rw [decide_eq_false (by omega)]; rfl
      have Hall := Lib.hid hall; have Hall2 := Lib.hid hall2; have Hf := Lib.hid hf; clear hall hall2 hf
      go_wp2_with fail
      go_ret
      exact ⟨ret_bool Hf.out, rfl⟩
set_option maxRecDepth 10000 in
set_option maxHeartbeats 1000000 in
theorem digits1_any (s : ByteArray) (hs : s.size ≤ 9223372036854775807) (w : World) : Calls Tryz.prog 204 #[.string s] w fun e w' => e = .returned (.bool (digs s.data.toList)) ∧ w = w' := by
  obtain ⟨l, hl⟩ : ∃ l, l = s.data.toList := ⟨_, rfl⟩
  have hln : l.length = s.size := by rw [hl]; exact Txt.len s
  obtain ⟨r, hr⟩ : ∃ r, r = digs l := ⟨_, rfl⟩
  rw [← hl, ← hr]
  have Hl := Lib.hid hl; have Hln := Lib.hid hln; have Hr := Lib.hid hr; clear hl hln hr
  go_enter Tryz.func204, Tryz.ntmps204
  go_wp2_with fail
  go_loop [3] (fun i => ∃ k : Nat, k ≤ s.size ∧ i = .int .i64 k ∧ (l.take k).all isDig = true) (fun i => s.size - (RowKit.intOf i).toNat)
  case atStart => exact ⟨0, Nat.zero_le _, rfl, by simp⟩
  case round =>
    obtain ⟨k, hk, rfl, hall⟩ := hrel
    by_cases hlt : k < s.size
    · have hkl : k < l.length := by have := Hln.out; omega
      obtain ⟨n, hn⟩ : ∃ n, n = s[k].toNat := ⟨_, rfl⟩
      have hn256 : n < 256 := by rw [hn]; exact s[k].toNat_lt
      have hsk : s[k].toNat = n := hn.symm
      have e : l[k] = s[k] := by simp only [Hl.out]; rfl
      have hyes : 48 ≤ n → n ≤ 57 → (l.take (k + 1)).all isDig = true := fun h1 h2 => by
        rw [List.take_succ_eq_append_getElem hkl, List.all_append, hall]
        simp only [List.all_cons, List.all_nil, Bool.and_true, Bool.true_and]
        rw [isDig_iff, e, hsk]; exact ⟨h1, h2⟩
      have hno : ¬ (48 ≤ n ∧ n ≤ 57) → r = false := fun h => by
        rw [Hr.out, Bool.eq_false_iff]
        intro h2
        have := (digs_all h2) l[k] (List.getElem_mem hkl)
        rw [isDig_iff, e, hsk] at this
        exact h this
      clear hn e hkl
      rcases Nat.lt_or_ge n 48 with h1 | h1
      · have hf := hno (by omega)
        have k1 : decide ((n : Int) < 48) = true := decide_eq_true (by omega)
        have Hall := Lib.hid hall; have Hyes := Lib.hid hyes; have Hno := Lib.hid hno; have Hf := Lib.hid hf; clear hall hyes hno hf
        go_wp2_with fail
        go_ret
        exact ⟨ret_bool Hf.out.symm, rfl⟩
      · have k1 : decide ((n : Int) < 48) = false := decide_eq_false (by omega)
        rcases Nat.lt_or_ge 57 n with h2 | h2
        · have hf := hno (by omega)
          have k2 : decide (57 < (n : Int)) = true := decide_eq_true (by omega)
          have Hall := Lib.hid hall; have Hyes := Lib.hid hyes; have Hno := Lib.hid hno; have Hf := Lib.hid hf; clear hall hyes hno hf
          go_wp2_with fail
          go_ret
          exact ⟨ret_bool Hf.out.symm, rfl⟩
        · have k2 : decide (57 < (n : Int)) = false := decide_eq_false (by omega)
          have hnext := hyes h1 h2
          have Hall := Lib.hid hall; have Hyes := Lib.hid hyes; have Hno := Lib.hid hno; have Hnext := Lib.hid hnext; clear hall hyes hno hnext
          go_wp2_with fail
          go_round
          case rel => exact ⟨k + 1, by omega, by go_num, Hnext.out⟩
          case measure => simp [RowKit.intOf]; omega
    · obtain rfl : k = s.size := by omega
      have hall2 : l.all isDig = true := by rw [List.take_of_length_le (by have := Hln.out; omega)] at hall; exact hall
      have hf : (!s.toList.isEmpty) = r := by
        rw [Hr.out, Txt.no_dec]
        have h0 := Hln.out
        unfold digs
        rw [hall2]
        cases l with
        | nil => simp at h0; rw [decide_eq_true (by omega)]; rfl
        | cons x t => simp at h0; rw [decide_eq_false (by omega)]; rfl
      have Hall := Lib.hid hall; have Hall2 := Lib.hid hall2; have Hf := Lib.hid hf; clear hall hall2 hf
      go_wp2_with fail
      go_ret
      exact ⟨ret_bool Hf.out, rfl⟩
end Go.Proofs.YteailgjiifdgcaaGreatDoor

/- The walks of the document's part and before of versions. Condition: the text's reach. -/
namespace Go.Proofs.YteailgjiifdgcaaGreatDoor
open Go.RowKit Go.Lib VerN

theorem lead_is {l : List UInt8} (hne : l ≠ []) : lead l = (decide (l = [48]) || decide (l[0]'(List.length_pos_iff.2 hne) ≠ 48)) := by
  match l, hne with
  | x :: r, _ =>
    unfold lead
    simp
theorem part_split (l : List UInt8) : partL l = (letOk l || (digs l && (decide (l.length ≤ 9) && lead l))) := by
  unfold partL digOk digs
  cases l.isEmpty <;> cases l.all isDig <;> cases decide (l.length ≤ 9) <;> rfl
set_option maxRecDepth 10000 in
set_option maxHeartbeats 1000000 in
theorem part1_any (s : ByteArray) (hs : s.size ≤ 9223372036854775807) (w : World) : Calls Tryz.prog 171 #[.string s] w fun e w' => e = .returned (.bool (partL s.data.toList)) ∧ w = w' := by
  have hL := fun W => letters1_any s hs W
  have hD := fun W => digits1_any s hs W
  have hp := part_split s.data.toList
  have hlen := Txt.len s
  have hlead := fun h => lead_is (l := s.data.toList) h
  obtain ⟨r, hr⟩ : ∃ r, r = partL s.data.toList := ⟨_, rfl⟩
  obtain ⟨x, hx⟩ : ∃ r, r = letOk s.data.toList := ⟨_, rfl⟩
  obtain ⟨y, hy⟩ : ∃ r, r = digs s.data.toList := ⟨_, rfl⟩
  rw [← hr] at hp ⊢
  rw [← hx] at hL hp
  rw [← hy] at hD hp
  cases x with
  | true =>
    have h0 : r = true := by rw [hp]; rfl
    have HL := Lib.hid hL; have HD := Lib.hid hD; have Hp := Lib.hid hp; have Hlen := Lib.hid hlen; have Hlead := Lib.hid hlead; have Hr := Lib.hid hr; have Hx := Lib.hid hx; have Hy := Lib.hid hy; have H0 := Lib.hid h0; clear hL hD hp hlen hlead hr hx hy h0
    go_enter Tryz.func171, Tryz.ntmps171
    go_wp2_with fail
    refine (HL.out _).mono ?_
    rintro e w1 ⟨rfl, rfl⟩
    go_wp2_with fail
    go_ret
    exact ⟨ret_bool H0.out.symm, rfl⟩
  | false =>
    cases y with
    | false =>
      have h0 : r = false := by rw [hp]; rfl
      have HL := Lib.hid hL; have HD := Lib.hid hD; have Hp := Lib.hid hp; have Hlen := Lib.hid hlen; have Hlead := Lib.hid hlead; have Hr := Lib.hid hr; have Hx := Lib.hid hx; have Hy := Lib.hid hy; have H0 := Lib.hid h0; clear hL hD hp hlen hlead hr hx hy h0
      go_enter Tryz.func171, Tryz.ntmps171
      go_wp2_with fail
      refine (HL.out _).mono ?_
      rintro e w1 ⟨rfl, rfl⟩
      go_wp2_with fail
      refine (HD.out _).mono ?_
      rintro e w1 ⟨rfl, rfl⟩
      go_wp2_with fail
      go_ret
      exact ⟨ret_bool H0.out.symm, rfl⟩
    | true =>
      have hne : s.data.toList ≠ [] := fun e => by rw [e] at hy; cases hy
      have h1 : 0 < s.size := by rw [← hlen]; exact List.length_pos_iff.2 hne
      have hq : r = (decide (s.size ≤ 9) && (decide (s.data.toList = [48]) || decide (s[0] ≠ 48))) := by
        rw [hp, hlead hne, show decide (s.size ≤ 9) = decide (s.data.toList.length ≤ 9) by rw [hlen]]; rfl
      obtain ⟨n, hn⟩ : ∃ n, n = s[0].toNat := ⟨_, rfl⟩
      have hn256 : n < 256 := by rw [hn]; exact s[0].toNat_lt
      have hsk : s[0].toNat = n := hn.symm
      have hn48 : decide (s[0] ≠ 48) = decide (n ≠ 48) := by
        by_cases h : s[0] = 48
        · rw [decide_eq_false (by simpa using h), decide_eq_false]
          rw [hn, h]; decide
        · rw [decide_eq_true h, decide_eq_true]
          intro e
          exact h (UInt8.toNat_inj.1 (by rw [hsk, e]; rfl))
      have hone : (s.toList == [48]) = decide (s.data.toList = [48]) := by
        rw [toList_data]
        by_cases h : s.data.toList = [48]
        · rw [h]; rfl
        · rw [decide_eq_false h]; exact beq_eq_false_iff_ne.2 h
      rw [hn48] at hq
      by_cases h9 : s.size ≤ 9
      · have k1 : decide ((s.size : Int) ≤ 9) = true := decide_eq_true (by omega)
        obtain ⟨b, hb⟩ : ∃ b, b = decide (s.data.toList = [48]) := ⟨_, rfl⟩
        rw [← hb] at hone hq
        rw [decide_eq_true h9] at hq
        clear hn hn48 hb
        cases b with
        | true =>
          have h0 : r = true := by rw [hq]; rfl
          have HL := Lib.hid hL; have HD := Lib.hid hD; have Hp := Lib.hid hp; have Hlen := Lib.hid hlen; have Hlead := Lib.hid hlead; have Hr := Lib.hid hr; have Hx := Lib.hid hx; have Hy := Lib.hid hy; have H0 := Lib.hid h0; have Hq := Lib.hid hq; clear hL hD hp hlen hlead hr hx hy h0 hq
          go_enter Tryz.func171, Tryz.ntmps171
          go_wp2_with fail
          refine (HL.out _).mono ?_
          rintro e w1 ⟨rfl, rfl⟩
          go_wp2_with fail
          refine (HD.out _).mono ?_
          rintro e w1 ⟨rfl, rfl⟩
          go_wp2_with fail
          go_ret
          exact ⟨ret_bool H0.out.symm, rfl⟩
        | false =>
          have h0 : ((n : Int) != 48) = r := by
            rw [hq]
            by_cases h : n = 48
            · subst h; rfl
            · rw [decide_eq_true h]; simp; omega
          have HL := Lib.hid hL; have HD := Lib.hid hD; have Hp := Lib.hid hp; have Hlen := Lib.hid hlen; have Hlead := Lib.hid hlead; have Hr := Lib.hid hr; have Hx := Lib.hid hx; have Hy := Lib.hid hy; have H0 := Lib.hid h0; have Hq := Lib.hid hq; clear hL hD hp hlen hlead hr hx hy h0 hq
          go_enter Tryz.func171, Tryz.ntmps171
          go_wp2_with fail
          refine (HL.out _).mono ?_
          rintro e w1 ⟨rfl, rfl⟩
          go_wp2_with fail
          refine (HD.out _).mono ?_
          rintro e w1 ⟨rfl, rfl⟩
          go_wp2_with fail
          go_ret
          exact ⟨ret_bool H0.out, rfl⟩
      · have k1 : decide ((s.size : Int) ≤ 9) = false := decide_eq_false (by omega)
        have h0 : r = false := by rw [hq, decide_eq_false h9]; rfl
        clear hn hn48
        have HL := Lib.hid hL; have HD := Lib.hid hD; have Hp := Lib.hid hp; have Hlen := Lib.hid hlen; have Hlead := Lib.hid hlead; have Hr := Lib.hid hr; have Hx := Lib.hid hx; have Hy := Lib.hid hy; have H0 := Lib.hid h0; have Hq := Lib.hid hq; have Hone := Lib.hid hone; clear hL hD hp hlen hlead hr hx hy h0 hq hone
        go_enter Tryz.func171, Tryz.ntmps171
        go_wp2_with fail
        refine (HL.out _).mono ?_
        rintro e w1 ⟨rfl, rfl⟩
        go_wp2_with fail
        refine (HD.out _).mono ?_
        rintro e w1 ⟨rfl, rfl⟩
        go_wp2_with fail
        go_ret
        exact ⟨ret_bool H0.out.symm, rfl⟩
end Go.Proofs.YteailgjiifdgcaaGreatDoor

/- The walks of cmp.Compare and cmp.Or at numbers. No condition. -/
namespace Go.Proofs.YteailgjiifdgcaaGreatDoor
open Go.RowKit Go.Lib Go.Sort

def compareInt (x y : Int) : Int := if x < y then -1 else if y < x then 1 else 0
set_option maxRecDepth 10000 in
theorem compare_any (x y : Int) (w : World) : Calls Tryz.prog 199 #[.int .i64 x, .int .i64 y] w fun e w' => e = .returned (.int .i64 (compareInt x y)) ∧ w = w' := by
  by_cases h1 : x < y
  · have e : compareInt x y = -1 := by unfold compareInt; rw [if_pos h1]
    rw [e]
    clear e
    go_enter Tryz.func199, Tryz.ntmps199
    go_wp2
    go_ret
    exact ⟨rfl, rfl⟩
  · have h1' : y ≤ x := by omega
    by_cases h2 : y < x
    · have e : compareInt x y = 1 := by unfold compareInt; rw [if_neg h1, if_pos h2]
      rw [e]
      clear e h1
      go_enter Tryz.func199, Tryz.ntmps199
      go_wp2
      go_ret
      exact ⟨rfl, rfl⟩
    · have e : compareInt x y = 0 := by unfold compareInt; rw [if_neg h1, if_neg h2]
      obtain rfl : x = y := by omega
      rw [e]
      clear e h1 h2 h1'
      go_enter Tryz.func199, Tryz.ntmps199
      go_wp2
      go_ret
      exact ⟨rfl, rfl⟩
/-- the first of two that is not 0 -/
def orOf (l : List Int) : Int := match l with
  | [] => 0
  | x :: r => if x ≠ 0 then x else orOf r
theorem orOf_snoc (l : List Int) (k : Nat) (h : k < l.length) (h0 : orOf (l.take k) = 0) : orOf (l.take (k + 1)) = l[k] := by
  induction l generalizing k with
  | nil => simp at h
  | cons x r ih =>
    match k with
    | 0 => simp [orOf]; intro h; simp [h]
    | k + 1 =>
      have h1 : x = 0 := by
        rw [List.take_succ_cons, orOf] at h0
        split at h0
        · rename_i hx; exact absurd h0 hx
        · rename_i hx; simpa using hx
      subst h1
      have := ih k (by simpa using h) (by simpa [orOf] using h0)
      simpa [orOf] using this
theorem orOf_all (l : List Int) (k : Nat) (h : orOf (l.take k) ≠ 0) : orOf l = orOf (l.take k) := by
  induction l generalizing k with
  | nil => simp
  | cons x r ih =>
    match k with
    | 0 => simp [orOf] at h
    | k + 1 =>
      rw [List.take_succ_cons, orOf] at h ⊢
      rw [orOf]
      split
      · rfl
      · rename_i hx
        rw [if_neg hx] at h
        exact ih k h
set_option maxRecDepth 10000 in
set_option maxHeartbeats 400000 in
theorem or_any (b off cap : Nat) (l : List Int) (w : World) (hl : l.length ≤ 1000) (hc : ∀ i x, l[i]? = some x → w.cell? ⟨b, off + i, none⟩ = some (.int .i64 x)) :
    Calls Tryz.prog 198 #[.slice (some ⟨b, off, none⟩) l.length cap] w fun e w' => e = .returned (.int .i64 (orOf l)) ∧ w = w' := by
  obtain ⟨n, hn⟩ : ∃ n, n = l.length := ⟨_, rfl⟩
  rw [← hn] at hl ⊢
  have Hn := Lib.hid hn; have Hc := Lib.hid hc; clear hn hc
  go_enter Tryz.func198, Tryz.ntmps198
  go_wp2_with fail
  go_loop [8] (fun i => ∃ k : Nat, k ≤ n ∧ i = .int .i64 k ∧ orOf (l.take k) = 0) (fun i => n - (RowKit.intOf i).toNat)
  case atStart => exact ⟨0, Nat.zero_le _, rfl, by simp [orOf]⟩
  case round =>
    obtain ⟨k, hk, rfl, h0⟩ := hrel
    by_cases hlt : k < n
    · have hkl : k < l.length := by have := Hn.out; omega
      obtain ⟨x, hx⟩ : ∃ x, x = l[k]'hkl := ⟨_, rfl⟩
      have c := Hc.out k x (by rw [hx]; exact List.getElem?_eq_getElem hkl)
      have hs := orOf_snoc l k hkl h0
      rw [← hx] at hs
      by_cases hz : x = 0
      · have e1 : (x != 0) = false := by rw [hz]; rfl
        have h1 : orOf (l.take (k + 1)) = 0 := by rw [hs, hz]
        have Hx := Lib.hid hx; have Hs := Lib.hid hs; have H0 := Lib.hid h0; have Hz := Lib.hid hz; have H1 := Lib.hid h1; clear hx hs h0 hz h1
        go_wp2_with fail
        go_round
        case rel => exact ⟨k + 1, by omega, by go_num, H1.out⟩
        case measure => simp [RowKit.intOf]; omega
      · have e1 : (x != 0) = true := by simpa using hz
        have h1 : orOf l = x := by rw [orOf_all l (k + 1) (by rw [hs]; exact hz), hs]
        have Hx := Lib.hid hx; have Hs := Lib.hid hs; have H0 := Lib.hid h0; have Hz := Lib.hid hz; have H1 := Lib.hid h1; clear hx hs h0 hz h1
        go_wp2_with fail
        go_ret
        exact ⟨ret_int (by rw [H1.out]), rfl⟩
    · have h1 : orOf l = 0 := by
        rw [← h0, List.take_of_length_le (by have := Hn.out; omega)]
      have H0 := Lib.hid h0; have H1 := Lib.hid h1; clear h0 h1
      go_wp2_with fail
      go_ret
      exact ⟨ret_int (by rw [H1.out]), rfl⟩
end Go.Proofs.YteailgjiifdgcaaGreatDoor

/- The walk of cmp.Compare at texts, by their bytes. No condition. -/
namespace Go.Proofs.YteailgjiifdgcaaGreatDoor
open Go.RowKit Go.Lib VerN

theorem less_dec (x y : ByteArray) : Op.bytesLess x.toList y.toList = decide (x.data.toList < y.data.toList) := by
  rw [Go.Proofs.bytesLess_eq, toList_data, toList_data]
theorem compareInt_is (x y : Int) : compareInt x y = cmpI x y := rfl
set_option maxRecDepth 10000 in
theorem compareW_any (x y : ByteArray) (w : World) : Calls Tryz.prog 200 #[.string x, .string y] w fun e w' => e = .returned (.int .i64 (cmpW x.data.toList y.data.toList)) ∧ w = w' := by
  obtain ⟨p, hp⟩ : ∃ p, p = Op.bytesLess x.toList y.toList := ⟨_, rfl⟩
  obtain ⟨q, hq⟩ : ∃ q, q = (x.toList == y.toList) := ⟨_, rfl⟩
  have e : cmpW x.data.toList y.data.toList = if p = true then -1 else if q = true then 0 else 1 := by
    unfold cmpW
    rw [hp, hq, less_dec, Txt.eq_dec]
    by_cases h1 : x.data.toList < y.data.toList
    · rw [if_pos h1, decide_eq_true h1]; rfl
    · rw [if_neg h1, decide_eq_false h1]
      by_cases h2 : x = y
      · rw [decide_eq_true h2, if_neg (by rw [h2]; exact List.lt_irrefl _)]; rfl
      · rw [decide_eq_false h2, if_pos (dec_ne (fun e => h2 (Txt.ext e)) h1)]; rfl
  rw [e]
  have hpe := hp.symm
  have hqe := hq.symm
  clear e
  cases p with
  | true =>
    have Hp := Lib.hid hp; have Hq := Lib.hid hq; clear hp hq
    go_enter Tryz.func200, Tryz.ntmps200
    go_wp2
    go_ret
    exact ⟨rfl, rfl⟩
  | false =>
    cases q with
    | true =>
      have Hp := Lib.hid hp; have Hq := Lib.hid hq; clear hp hq
      go_enter Tryz.func200, Tryz.ntmps200
      go_wp2
      go_ret
      exact ⟨rfl, rfl⟩
    | false =>
      have Hp := Lib.hid hp; have Hq := Lib.hid hq; clear hp hq
      go_enter Tryz.func200, Tryz.ntmps200
      go_wp2
      go_ret
      exact ⟨rfl, rfl⟩
end Go.Proofs.YteailgjiifdgcaaGreatDoor

/- The walks of the document's before and at of versions. Condition: the texts' reach. -/
namespace Go.Proofs.YteailgjiifdgcaaGreatDoor
open Go.RowKit Go.Lib VerN

theorem ba_list {x y : ByteArray} : x = y ↔ x.data.toList = y.data.toList := ⟨fun h => by rw [h], Txt.ext⟩
theorem nil_size (s : ByteArray) : s.data.toList = [] ↔ s.size = 0 := by rw [← Txt.len]; exact List.length_eq_zero_iff.symm
set_option maxRecDepth 10000 in
set_option maxHeartbeats 1000000 in
theorem before_any (s t : ByteArray) (hs : s.size ≤ 9223372036854775807) (ht : t.size ≤ 9223372036854775807) (w : World) : Calls Tryz.prog 173 #[.string s, .string t] w fun e w' => e = .returned (.bool (before s.data.toList t.data.toList)) ∧ w = w' := by
  obtain ⟨r, hr⟩ : ∃ r, r = before s.data.toList t.data.toList := ⟨_, rfl⟩
  have hq := hr
  unfold before at hq
  rw [← hr]
  by_cases heq : s = t
  · have k1 : (s.toList == t.toList) = true := by rw [Txt.eq_dec]; exact decide_eq_true heq
    have h0 : r = false := by rw [hq, if_pos (ba_list.1 heq)]
    have Hr := Lib.hid hr; have Hq := Lib.hid hq; have H0 := Lib.hid h0; have Heq := Lib.hid heq; clear hr hq h0 heq
    go_enter Tryz.func173, Tryz.ntmps173
    go_wp2_with fail
    go_ret
    exact ⟨ret_bool H0.out.symm, rfl⟩
  · have k1 : (s.toList == t.toList) = false := by rw [Txt.eq_dec]; exact decide_eq_false heq
    rw [if_neg (fun h => heq (ba_list.2 h))] at hq
    by_cases hs0 : s.size = 0
    · have k2 : s.toList.isEmpty = true := by rw [Txt.no_dec]; exact decide_eq_true hs0
      have h0 : r = digs t.data.toList := by rw [hq, if_pos ((nil_size s).2 hs0)]
      have hD := digits1_any t ht w
      rw [← h0] at hD
      have Hr := Lib.hid hr; have Hq := Lib.hid hq; have H0 := Lib.hid h0; have Heq := Lib.hid heq; have HD := Lib.hid hD; clear hr hq h0 heq hD
      go_enter Tryz.func173, Tryz.ntmps173
      go_wp2_with fail
      refine HD.out.mono ?_
      rintro e w1 ⟨rfl, rfl⟩
      go_wp2_with fail
      go_ret
      exact ⟨rfl, rfl⟩
    · have k2 : s.toList.isEmpty = false := by rw [Txt.no_dec]; exact decide_eq_false hs0
      rw [if_neg (fun h => hs0 ((nil_size s).1 h))] at hq
      by_cases ht0 : t.size = 0
      · have k3 : t.toList.isEmpty = true := by rw [Txt.no_dec]; exact decide_eq_true ht0
        have h0 : r = letOk s.data.toList := by rw [hq, if_pos ((nil_size t).2 ht0)]
        have hD := letters1_any s hs w
        rw [← h0] at hD
        have Hr := Lib.hid hr; have Hq := Lib.hid hq; have H0 := Lib.hid h0; have Heq := Lib.hid heq; have HD := Lib.hid hD; clear hr hq h0 heq hD
        go_enter Tryz.func173, Tryz.ntmps173
        go_wp2_with fail
        refine HD.out.mono ?_
        rintro e w1 ⟨rfl, rfl⟩
        go_wp2_with fail
        go_ret
        exact ⟨rfl, rfl⟩
      · have k3 : t.toList.isEmpty = false := by rw [Txt.no_dec]; exact decide_eq_false ht0
        rw [if_neg (fun h => ht0 ((nil_size t).1 h))] at hq
        have hL := letters1_any s hs w
        have hM := letters1_any t ht w
        have hD := digits1_any s hs w
        obtain ⟨x, hx⟩ : ∃ x, x = letOk s.data.toList := ⟨_, rfl⟩
        obtain ⟨y, hy⟩ : ∃ x, x = letOk t.data.toList := ⟨_, rfl⟩
        obtain ⟨z, hz⟩ : ∃ x, x = digs s.data.toList := ⟨_, rfl⟩
        rw [← hx] at hL hq
        rw [← hy] at hM hq
        rw [← hz] at hD hq
        by_cases hxy : x = y
        · rw [if_neg (by simpa using hxy)] at hq
          have k4 : (x == y) = true := by rw [hxy]; simp
          have hl : decide (s.data.toList.length ≠ t.data.toList.length) = ((s.size : Int) != (t.size : Int)) := by
            rw [Txt.len, Txt.len]
            by_cases h : s.size = t.size
            · rw [h]; simp
            · rw [decide_eq_true h]; simp; omega
          rw [hl] at hq
          obtain ⟨b, hb⟩ : ∃ b, b = ((s.size : Int) != (t.size : Int)) := ⟨_, rfl⟩
          have k5 := hb.symm
          rw [← hb] at hq
          have hlt : decide (s.data.toList.length < t.data.toList.length) = decide (s.size < t.size) := by rw [Txt.len, Txt.len]
          rw [hlt] at hq
          have hby := less_dec s t
          rw [← hby] at hq
          clear hl hlt hby hb
          cases z with
          | true =>
            cases b with
            | true =>
              have h0 : r = decide (s.size < t.size) := by rw [hq]; rfl
              have Hr := Lib.hid hr; have Hq := Lib.hid hq; have H0 := Lib.hid h0; have Heq := Lib.hid heq; have HL := Lib.hid hL; have HM := Lib.hid hM; have HD := Lib.hid hD; have Hx := Lib.hid hx; have Hy := Lib.hid hy; have Hz := Lib.hid hz; have Hxy := Lib.hid hxy; clear hr hq h0 heq hL hM hD hx hy hz hxy
              go_enter Tryz.func173, Tryz.ntmps173
              go_wp2_with fail
              refine HL.out.mono ?_
              rintro e w1 ⟨rfl, rfl⟩
              go_wp2_with fail
              refine HM.out.mono ?_
              rintro e w1 ⟨rfl, rfl⟩
              go_wp2_with fail
              refine HD.out.mono ?_
              rintro e w1 ⟨rfl, rfl⟩
              go_wp2_with fail
              go_ret
              exact ⟨ret_bool H0.out.symm, rfl⟩
            | false =>
              have h0 : r = Op.bytesLess s.toList t.toList := by rw [hq]; rfl
              have Hr := Lib.hid hr; have Hq := Lib.hid hq; have H0 := Lib.hid h0; have Heq := Lib.hid heq; have HL := Lib.hid hL; have HM := Lib.hid hM; have HD := Lib.hid hD; have Hx := Lib.hid hx; have Hy := Lib.hid hy; have Hz := Lib.hid hz; have Hxy := Lib.hid hxy; clear hr hq h0 heq hL hM hD hx hy hz hxy
              go_enter Tryz.func173, Tryz.ntmps173
              go_wp2_with fail
              refine HL.out.mono ?_
              rintro e w1 ⟨rfl, rfl⟩
              go_wp2_with fail
              refine HM.out.mono ?_
              rintro e w1 ⟨rfl, rfl⟩
              go_wp2_with fail
              refine HD.out.mono ?_
              rintro e w1 ⟨rfl, rfl⟩
              go_wp2_with fail
              go_ret
              exact ⟨ret_bool H0.out.symm, rfl⟩
          | false =>
            have h0 : r = Op.bytesLess s.toList t.toList := by rw [hq]; rfl
            have Hr := Lib.hid hr; have Hq := Lib.hid hq; have H0 := Lib.hid h0; have Heq := Lib.hid heq; have HL := Lib.hid hL; have HM := Lib.hid hM; have HD := Lib.hid hD; have Hx := Lib.hid hx; have Hy := Lib.hid hy; have Hz := Lib.hid hz; have Hxy := Lib.hid hxy; have Hk5 := Lib.hid k5; clear hr hq h0 heq hL hM hD hx hy hz hxy k5
            go_enter Tryz.func173, Tryz.ntmps173
            go_wp2_with fail
            refine HL.out.mono ?_
            rintro e w1 ⟨rfl, rfl⟩
            go_wp2_with fail
            refine HM.out.mono ?_
            rintro e w1 ⟨rfl, rfl⟩
            go_wp2_with fail
            refine HD.out.mono ?_
            rintro e w1 ⟨rfl, rfl⟩
            go_wp2_with fail
            go_ret
            exact ⟨ret_bool H0.out.symm, rfl⟩
        · rw [if_pos (by simpa using hxy)] at hq
          have k4 : (x == y) = false := by simpa using hxy
          have Hr := Lib.hid hr; have Hq := Lib.hid hq; have Heq := Lib.hid heq; have HL := Lib.hid hL; have HM := Lib.hid hM; have HD := Lib.hid hD; have Hx := Lib.hid hx; have Hy := Lib.hid hy; have Hz := Lib.hid hz; have Hxy := Lib.hid hxy; clear hr hq heq hL hM hD hx hy hz hxy
          go_enter Tryz.func173, Tryz.ntmps173
          go_wp2_with fail
          refine HL.out.mono ?_
          rintro e w1 ⟨rfl, rfl⟩
          go_wp2_with fail
          refine HM.out.mono ?_
          rintro e w1 ⟨rfl, rfl⟩
          go_wp2_with fail
          refine HL.out.mono ?_
          rintro e w1 ⟨rfl, rfl⟩
          go_wp2_with fail
          go_ret
          exact ⟨ret_bool Hq.out.symm, rfl⟩
/-- a row of texts that a call owns -/
theorem texts_cell {w : World} {B : Nat} {v : Value} {n : Nat} {ps : List ByteArray} (h : w.ownsRow B 9 1 v n (ps.map Value.string)) (i : Nat) (hi : i < ps.length) :
    ∃ g cap, v = .slice (some ⟨g, 0, none⟩) n cap ∧ w.cell? ⟨g, i, none⟩ = some (.string ps[i]) := by
  have hl : n = ps.length := by have := h.1; rw [List.length_map] at this; omega
  obtain ⟨g, cap, rfl, _, _, _, _, h2⟩ := ownsRow_some h (by omega)
  exact ⟨g, cap, rfl, h2 i _ (by rw [List.getElem?_map, List.getElem?_eq_getElem hi]; rfl)⟩
def noTxt : ByteArray := ⟨#[]⟩
set_option maxRecDepth 10000 in
set_option maxHeartbeats 1000000 in
theorem at1_any {w : World} {B : Nat} {v : Value} {n : Nat} {ps : List ByteArray} (h : w.ownsRow B 9 1 v n (ps.map Value.string)) (hn : n ≤ 1000000) (i : Nat) (hi8 : i ≤ 1000000) :
    Calls Tryz.prog 174 #[v, .int .i64 i] w fun e w' => e = .returned (.string (ps.getD i noTxt)) ∧ w = w' := by
  have hl : n = ps.length := by have := h.1; rw [List.length_map] at this; omega
  by_cases hi : i < n
  · have hip : i < ps.length := by omega
    obtain ⟨g, cap, rfl, c0⟩ := texts_cell h i hip
    have e : ps.getD i noTxt = ps[i] := by rw [List.getD, List.getElem?_eq_getElem hip]; rfl
    rw [e]
    obtain ⟨x, hx⟩ : ∃ x, x = ps[i] := ⟨_, rfl⟩
    rw [← hx] at c0 ⊢
    have k1 : (i : Int) < (n : Int) := by omega
    have k2 : decide ((i : Int) < (n : Int)) = true := decide_eq_true k1
    clear e hl
    have Hh := Lib.hid h; have Hx := Lib.hid hx; clear h hx
    go_enter Tryz.func174, Tryz.ntmps174
    go_wp2_with fail
    go_ret
    exact ⟨rfl, rfl⟩
  · obtain ⟨a, cap, rfl⟩ := own_shape h
    have e : ps.getD i noTxt = noTxt := by rw [List.getD, List.getElem?_eq_none (by omega)]; rfl
    rw [e]
    have k2 : decide ((i : Int) < (n : Int)) = false := decide_eq_false (by omega)
    clear e hl
    have Hh := Lib.hid h; clear h
    go_enter Tryz.func174, Tryz.ntmps174
    go_wp2_with fail
    go_ret
    exact ⟨rfl, rfl⟩
end Go.Proofs.YteailgjiifdgcaaGreatDoor

/- The walk of the document's Cut: a text at a byte. Condition: a text of at most a million bytes. -/
namespace Go.Proofs.YteailgjiifdgcaaGreatDoor
open Go.RowKit Go.Lib VerN

theorem elem_str1 : Elem Tryz.prog 88 9 (.string ⟨#[]⟩) 1 16 := ⟨Tryz.underlying88, by kernel_rfl, rfl, by decide⟩
/-- how far the text is cut -/
def CutAt (c : UInt8) (l : List UInt8) (k f : Nat) (done : List (List UInt8)) : Prop := f ≤ k ∧ ((k ≤ l.length ∧ cutL c l = done ++ cutF c ((l.take k).drop f) (l.drop k)) ∨ (k = l.length + 1 ∧ cutL c l = done))
theorem CutAt.start (c : UInt8) (l : List UInt8) : CutAt c l 0 0 [] := ⟨Nat.le_refl _, .inl ⟨Nat.zero_le _, rfl⟩⟩
theorem CutAt.skip {c : UInt8} {l : List UInt8} {k f : Nat} {done : List (List UInt8)} (h : CutAt c l k f done) (hk : k < l.length) (hne : l[k] ≠ c) : CutAt c l (k + 1) f done := by
  obtain ⟨hf, ⟨_, h⟩ | ⟨h, _⟩⟩ := h
  · refine ⟨by omega, .inl ⟨by omega, ?_⟩⟩
    rw [h, List.drop_eq_getElem_cons hk, cutF_cons_ne _ _ hne, List.take_succ_eq_append_getElem hk, List.drop_append_of_le_length (by rw [List.length_take]; omega)]
  · omega
theorem CutAt.hit {c : UInt8} {l : List UInt8} {k f : Nat} {done : List (List UInt8)} (h : CutAt c l k f done) (hk : k < l.length) (he : l[k] = c) : CutAt c l (k + 1) (k + 1) (done ++ [(l.take k).drop f]) := by
  obtain ⟨hf, ⟨_, h⟩ | ⟨h, _⟩⟩ := h
  · refine ⟨Nat.le_refl _, .inl ⟨by omega, ?_⟩⟩
    have e : (l.take (k + 1)).drop (k + 1) = [] := List.drop_eq_nil_of_le (by rw [List.length_take]; omega)
    rw [h, List.drop_eq_getElem_cons hk, he, cutF_cons_eq, e]
    simp
  · omega
theorem CutAt.last {c : UInt8} {l : List UInt8} {k f : Nat} {done : List (List UInt8)} (h : CutAt c l k f done) (hk : k = l.length) : CutAt c l (k + 1) (k + 1) (done ++ [(l.take k).drop f]) := by
  obtain ⟨hf, ⟨_, h⟩ | ⟨h, _⟩⟩ := h
  · refine ⟨Nat.le_refl _, .inr ⟨by omega, ?_⟩⟩
    rw [h, hk, List.drop_eq_nil_of_le (Nat.le_refl _)]
    rfl
  · omega
theorem CutAt.len {c : UInt8} {l : List UInt8} {k f : Nat} {done : List (List UInt8)} (h : CutAt c l k f done) : done.length ≤ l.length + 1 := by
  have h1 := (cutL_len c l).2
  obtain ⟨hf, ⟨_, h⟩ | ⟨_, h⟩⟩ := h
  · rw [h, List.length_append] at h1; omega
  · rw [h] at h1; exact h1
abbrev strL (ps : List (List UInt8)) : List Value := ps.map fun l => .string ⟨l.toArray⟩
theorem cutS_vals (c : UInt8) (s : ByteArray) : (cutS c s).map Value.string = strL (cutL c s.data.toList) := by unfold cutS strL; rw [List.map_map]; rfl
set_option maxRecDepth 10000 in
set_option maxHeartbeats 2000000 in
theorem cut1_any (s : ByteArray) (hs : s.size ≤ 1000000) (c : Nat) (hc : c < 256) (w : World) : Calls Tryz.prog 54 #[.string s, .int .u8 c] w fun e w' => ∃ v, e = .returned v ∧ w'.ownsRow w.heap.size 9 1 v (cutS (UInt8.ofNat c) s).length ((cutS (UInt8.ofNat c) s).map Value.string) ∧ Below w.heap.size w w' := by
  obtain ⟨l, hl⟩ : ∃ l, l = s.data.toList := ⟨_, rfl⟩
  have hln : l.length = s.size := by rw [hl]; exact Txt.len s
  obtain ⟨d, hd⟩ : ∃ d, d = UInt8.ofNat c := ⟨_, rfl⟩
  have hdc : d.toNat = c := by rw [hd]; simp; omega
  rw [cutS_vals, cutS_len, ← hl, ← hd]
  have hl0 : (w.alloc (.cells #[] 9)).ownsRow w.heap.size 9 1 (.slice (some ⟨w.heap.size, 0, none⟩) 0 0) 0 [] := World.ownsRow_lit (base := w.heap.size) (e := 9) (size := 1) w #[] 0 (Nat.le_refl _) (by decide) rfl
  have hb0 : Below w.heap.size w (w.alloc (.cells #[] 9)) := below_alloc1 _ _
  have Hl := Lib.hid hl; have Hln := Lib.hid hln; have Hd := Lib.hid hd; have Hdc := Lib.hid hdc; have Hl0 := Lib.hid hl0; have Hb0 := Lib.hid hb0; clear hl hln hd hdc hl0 hb0
  go_enter Tryz.func54, Tryz.ntmps54
  go_wp2_with fail
  go_loopw [5, 6, 7] (fun o fr i wr => ∃ (k f : Nat) (done : List (List UInt8)) (a : Option Addr) (cap m : Nat), CutAt d l k f done ∧ k ≤ s.size + 1 ∧ m = done.length ∧ i = .int .i64 k ∧ fr = .int .i64 f ∧ o = .slice a m cap ∧ wr.ownsRow w.heap.size 9 1 o m (strL done) ∧ Below w.heap.size w wr) (fun _ _ i _ => s.size + 1 - (RowKit.intOf i).toNat)
  case atStart => exact ⟨0, 0, [], _, _, 0, CutAt.start d l, Nat.zero_le _, rfl, rfl, rfl, rfl, Hl0.out, Hb0.out⟩
  case round =>
    obtain ⟨k, f, done, a, cap, m, hat, hk, hm, rfl, rfl, rfl, hown, hbw⟩ := hrel
    have hlen := hat.len
    rw [Hln.out] at hlen
    have hfk := hat.1
    rw [← hm] at hlen
    have hone : ∀ p : ByteArray, ∀ u ∈ (#[Value.string p] : Array Value).toList, u.oneCell' = true := by simp [Value.oneCell']
    have g1 : (m + 1) * 16 ≤ 140737488355328 := by omega
    have g2 : m + 1 ≤ maxLen := by unfold maxLen; omega
    have g3 : w.heap.size ≤ wr.heap.size := hbw.size
    have piece : (s.extract f k) = ⟨((l.take k).drop f).toArray⟩ := Txt.ext (by
      rw [Lib.extract_data, ← Hl.out, ← List.drop_take])
    rcases Nat.lt_or_ge s.size k with h1 | h1
    · have k1 : decide ((k : Int) ≤ (s.size : Int)) = false := decide_eq_false (by omega)
      have hfin : cutL d l = done := by
        obtain ⟨_, ⟨h2, _⟩ | ⟨_, h2⟩⟩ := hat
        · have := Hln.out; omega
        · exact h2
      have Hat := Lib.hid hat; have Hown := Lib.hid hown; have Hbw := Lib.hid hbw; have Hm := Lib.hid hm; have Hone := Lib.hid hone; have Hpiece := Lib.hid piece; have Hfin := Lib.hid hfin; clear hat hown hbw hm hone piece hfin
      go_wp2_with fail
      go_ret
      exact ⟨_, rfl, by rw [Hfin.out, ← Hm.out]; exact Hown.out, Hbw.out⟩
    · have k1 : decide ((k : Int) ≤ (s.size : Int)) = true := decide_eq_true (by omega)
      have k3 : (f : Int) ≤ (k : Int) := by omega
      have k4 : (k : Int) ≤ (s.size : Int) := by omega
      rcases Nat.eq_or_lt_of_le h1 with h2 | h2
      · have k2 : ((k : Int) == (s.size : Int)) = true := by rw [h2]; simp
        have hnx := hat.last (by rw [Hln.out]; exact h2)
        have Hat := Lib.hid hat; have Hown := Lib.hid hown; have Hbw := Lib.hid hbw; have Hm := Lib.hid hm; have Hone := Lib.hid hone; have Hpiece := Lib.hid piece; have Hnx := Lib.hid hnx; have H2 := Lib.hid h2; clear hat hown hbw hm hone piece hnx h2
        go_wp2_with (at_builtin; (refine wpList_append_some elem_str1 rfl (.tmp 26) (.tmp 31) rfl w.heap.size (.slice a m cap) m (strL done) rfl Hown.out 1 (by decide) #[.string (s.extract f k)] rfl rfl (Hone.out _) g1 g2 g3 ?_; intro g8 c8 w8 hown8 hg8 hm8; have hb8 := bel_own Hbw.out Hown.out (Nat.le_refl _) hg8 Hbw.out.size; have Hown8 := Lib.hid hown8; have Hb8 := Lib.hid hb8; clear hown8 hb8 hg8 hm8))
        go_roundw
        case rel =>
          refine ⟨k + 1, k + 1, done ++ [(l.take k).drop f], _, _, m + 1, Hnx.out, by omega, by rw [List.length_append, List.length_singleton, ← Hm.out], by go_num, by go_num, rfl, ?_, Hb8.out⟩
          have h := Hown8.out
          rw [Hpiece.out] at h
          rw [show strL (done ++ [(l.take k).drop f]) = strL done ++ [.string ⟨((l.take k).drop f).toArray⟩] by simp [strL]]
          exact h
        case measure => simp [RowKit.intOf]; omega
      · have k2 : ((k : Int) == (s.size : Int)) = false := by rw [beq_eq_false_iff_ne]; omega
        have hkl : k < l.length := by rw [Hln.out]; exact h2
        obtain ⟨n, hn⟩ : ∃ n, n = s[k].toNat := ⟨_, rfl⟩
        have hn256 : n < 256 := by rw [hn]; exact s[k].toNat_lt
        have hsk : s[k].toNat = n := hn.symm
        have e : l[k] = s[k] := by simp only [Hl.out]; rfl
        have hlk : l[k] = d ↔ n = c := by
          rw [e]
          constructor
          · intro h; rw [← hsk, h]; exact Hdc.out
          · intro h; exact UInt8.toNat_inj.1 (by rw [hsk, h, Hdc.out])
        clear hn e
        by_cases hnc : n = c
        · have k5 : ((n : Int) == (c : Int)) = true := by rw [hnc]; simp
          have hnx := hat.hit hkl (hlk.2 hnc)
          have Hat := Lib.hid hat; have Hown := Lib.hid hown; have Hbw := Lib.hid hbw; have Hm := Lib.hid hm; have Hone := Lib.hid hone; have Hpiece := Lib.hid piece; have Hnx := Lib.hid hnx; have Hnc := Lib.hid hnc; have Hlk := Lib.hid hlk; clear hat hown hbw hm hone piece hnx hnc hlk
          go_wp2_with (at_builtin; (refine wpList_append_some elem_str1 rfl (.tmp 26) (.tmp 31) rfl w.heap.size (.slice a m cap) m (strL done) rfl Hown.out 1 (by decide) #[.string (s.extract f k)] rfl rfl (Hone.out _) g1 g2 g3 ?_; intro g8 c8 w8 hown8 hg8 hm8; have hb8 := bel_own Hbw.out Hown.out (Nat.le_refl _) hg8 Hbw.out.size; have Hown8 := Lib.hid hown8; have Hb8 := Lib.hid hb8; clear hown8 hb8 hg8 hm8))
          go_roundw
          case rel =>
            refine ⟨k + 1, k + 1, done ++ [(l.take k).drop f], _, _, m + 1, Hnx.out, by omega, by rw [List.length_append, List.length_singleton, ← Hm.out], by go_num, by go_num, rfl, ?_, Hb8.out⟩
            have h := Hown8.out
            rw [Hpiece.out] at h
            rw [show strL (done ++ [(l.take k).drop f]) = strL done ++ [.string ⟨((l.take k).drop f).toArray⟩] by simp [strL]]
            exact h
          case measure => simp [RowKit.intOf]; omega
        · have k5 : ((n : Int) == (c : Int)) = false := by rw [beq_eq_false_iff_ne]; omega
          have hnx := hat.skip hkl (fun h => hnc (hlk.1 h))
          have Hat := Lib.hid hat; have Hown := Lib.hid hown; have Hbw := Lib.hid hbw; have Hm := Lib.hid hm; have Hone := Lib.hid hone; have Hpiece := Lib.hid piece; have Hnx := Lib.hid hnx; have Hnc := Lib.hid hnc; have Hlk := Lib.hid hlk; clear hat hown hbw hm hone piece hnx hnc hlk
          go_wp2_with fail
          go_roundw
          case rel => exact ⟨k + 1, f, done, a, cap, m, Hnx.out, by omega, Hm.out, by go_num, by go_num, rfl, Hown.out, Hbw.out⟩
          case measure => simp [RowKit.intOf]; omega
end Go.Proofs.YteailgjiifdgcaaGreatDoor

/- The walks of the document's May, Less and Compare of versions. Condition: texts of at most a million bytes. -/
namespace Go.Proofs.YteailgjiifdgcaaGreatDoor
open Go.RowKit Go.Lib VerN

theorem may_parts (s : ByteArray) : mayL s.data.toList = (decide (s.size ≠ 0) && decide (s.size ≤ 40) && (cutS 46 s).all (fun p => partL p.data.toList) && decide ((cutS 46 s).length ≤ 8)) := by
  unfold mayL
  rw [← cutS_data, List.all_map, Txt.len, List.length_map]
  have e : decide (s.data.toList ≠ []) = decide (s.size ≠ 0) := decide_eq_decide.2 (not_congr (nil_size s))
  rw [e]
  rfl
set_option maxRecDepth 10000 in
set_option maxHeartbeats 2000000 in
theorem may1_any (s : ByteArray) (hs : s.size ≤ 1000000) (w : World) : Calls Tryz.prog 113 #[.string s] w fun e w' => e = .returned (.bool (mayL s.data.toList)) ∧ Below w.heap.size w w' := by
  have hm := may_parts s
  obtain ⟨r, hr⟩ : ∃ r, r = mayL s.data.toList := ⟨_, rfl⟩
  rw [← hr] at hm ⊢
  by_cases h0 : s.size = 0
  · have k1 : s.toList.isEmpty = true := by rw [Txt.no_dec, decide_eq_true h0]
    have hf : r = false := by rw [hm, decide_eq_false (p := s.size ≠ 0) (by simpa using h0)]; rfl
    have Hm := Lib.hid hm; have Hr := Lib.hid hr; have Hf := Lib.hid hf; clear hm hr hf
    go_enter Tryz.func113, Tryz.ntmps113
    go_wp2_with fail
    go_ret
    exact ⟨ret_bool Hf.out.symm, Below.refl _ _⟩
  · have k1 : s.toList.isEmpty = false := by rw [Txt.no_dec, decide_eq_false h0]
    by_cases h40 : 40 < s.size
    · have k2 : decide ((40 : Int) < (s.size : Int)) = true := decide_eq_true (by omega)
      have hf : r = false := by rw [hm, decide_eq_false (p := s.size ≤ 40) (by omega)]; simp
      have Hm := Lib.hid hm; have Hr := Lib.hid hr; have Hf := Lib.hid hf; clear hm hr hf
      go_enter Tryz.func113, Tryz.ntmps113
      go_wp2_with fail
      go_ret
      exact ⟨ret_bool Hf.out.symm, Below.refl _ _⟩
    · have k2 : decide ((40 : Int) < (s.size : Int)) = false := decide_eq_false (by omega)
      have hC := cut1_any s hs 46 (by omega) w
      rw [show UInt8.ofNat 46 = (46 : UInt8) from rfl] at hC
      obtain ⟨ps, hps⟩ : ∃ ps, ps = cutS 46 s := ⟨_, rfl⟩
      have hv : r = (ps.all (fun p => partL p.data.toList) && decide (ps.length ≤ 8)) := by rw [hm, decide_eq_true h0, decide_eq_true (by omega : s.size ≤ 40), hps]; rfl
      have hpz : ∀ p ∈ ps, p.size ≤ 1000000 := fun p hp => by
        rw [hps] at hp
        have := cutS_piece hp
        omega
      have hl41 : ps.length ≤ 41 := by
        rw [hps, cutS_len]
        have := (cutL_len 46 s.data.toList).2
        rw [Txt.len] at this
        omega
      rw [← hps] at hC
      have Hm := Lib.hid hm; have Hr := Lib.hid hr; have HC := Lib.hid hC; have Hps := Lib.hid hps; have Hv := Lib.hid hv; have Hpz := Lib.hid hpz; clear hm hr hC hps hv hpz
      go_enter Tryz.func113, Tryz.ntmps113
      go_wp2_with fail
      refine HC.out.mono ?_
      rintro e w1 ⟨v, rfl, hown, hb⟩
      obtain ⟨a, cap, rfl⟩ := own_shape hown
      obtain ⟨n, hn⟩ : ∃ n, n = ps.length := ⟨_, rfl⟩
      rw [← hn] at hown hl41 ⊢
      have Hown := Lib.hid hown; have Hb := Lib.hid hb; have Hn := Lib.hid hn; clear hown hb hn
      go_wp2_with fail
      go_loop [4, 16] (fun _ i => ∃ k : Nat, k ≤ n ∧ i = .int .i64 k ∧ (ps.take k).all (fun p => partL p.data.toList) = true) (fun _ i => n - (RowKit.intOf i).toNat)
      case atStart => exact ⟨0, Nat.zero_le _, rfl, by simp⟩
      case round =>
        obtain ⟨k, hk, rfl, hall⟩ := hrel
        by_cases hlt : k < n
        · have hkp : k < ps.length := by rw [← Hn.out]; exact hlt
          obtain ⟨g, cap', hv0, c0⟩ := texts_cell Hown.out k hkp
          simp only [Value.slice.injEq] at hv0
          obtain ⟨ha, hrest⟩ := hv0
          subst ha
          clear hrest
          obtain ⟨x, hx⟩ : ∃ x, x = ps[k] := ⟨_, rfl⟩
          rw [← hx] at c0
          have hP := part1_any x (by have := Hpz.out x (by rw [hx]; exact List.getElem_mem hkp); omega) w1
          obtain ⟨q, hq⟩ : ∃ q, q = partL x.data.toList := ⟨_, rfl⟩
          rw [← hq] at hP
          have k3 : (k : Int) < (n : Int) := by omega
          have hyes : q = true → (ps.take (k + 1)).all (fun p => partL p.data.toList) = true := fun h => by
            rw [List.take_succ_eq_append_getElem hkp, List.all_append, hall, ← hx]
            simp only [List.all_cons, List.all_nil, Bool.and_true, Bool.true_and]
            rw [← hq]; exact h
          have hno : q = false → r = false := fun h => by
            rw [Hv.out, Bool.eq_false_iff]
            intro h2
            rw [Bool.and_eq_true] at h2
            have := List.all_eq_true.1 h2.1 ps[k] (List.getElem_mem hkp)
            rw [← hx, ← hq, h] at this
            cases this
          have Hx := Lib.hid hx; have HP := Lib.hid hP; have Hq := Lib.hid hq; have Hall := Lib.hid hall; have Hyes := Lib.hid hyes; have Hno := Lib.hid hno; clear hx hP hq hall hyes hno
          go_wp2_with fail
          refine HP.out.mono ?_
          rintro e w2 ⟨rfl, rfl⟩
          cases q with
          | true =>
            have hnx := Hyes.out rfl
            have Hnx := Lib.hid hnx; clear hnx
            go_wp2_with fail
            go_round
            case rel => exact ⟨k + 1, by omega, by go_num, Hnx.out⟩
            case measure => simp [RowKit.intOf]; omega
          | false =>
            have hf := Hno.out rfl
            have Hf := Lib.hid hf; clear hf
            go_wp2_with fail
            go_ret
            exact ⟨ret_bool Hf.out.symm, Hb.out⟩
        · obtain rfl : k = n := by omega
          have hf : decide ((k : Int) ≤ 8) = r := by
            rw [Hv.out, ← Hn.out]
            rw [List.take_of_length_le (by rw [← Hn.out]; exact Nat.le_refl _)] at hall
            rw [hall, Bool.true_and]
            by_cases h : k ≤ 8
            · rw [decide_eq_true h, decide_eq_true]; omega
            · rw [decide_eq_false h, decide_eq_false]; omega
          have Hall := Lib.hid hall; have Hf := Lib.hid hf; clear hall hf
          go_wp2_with fail
          go_ret
          exact ⟨ret_bool Hf.out, Hb.out⟩
end Go.Proofs.YteailgjiifdgcaaGreatDoor

/- The walks of the document's Less and Compare of versions. Condition: texts of at most a million bytes. -/
namespace Go.Proofs.YteailgjiifdgcaaGreatDoor
open Go.RowKit Go.Lib VerN

theorem getD_data (c : UInt8) (s : ByteArray) (i : Nat) : ((cutS c s).getD i noTxt).data.toList = (cutL c s.data.toList).getD i [] := by
  rw [← cutS_data]
  by_cases h : i < (cutS c s).length
  · rw [getD_lt (by rw [List.length_map]; exact h), List.getElem_map, List.getD, List.getElem?_eq_getElem h]; rfl
  · rw [getD_ge (by rw [List.length_map]; omega), List.getD, List.getElem?_eq_none (by omega)]; rfl
theorem getD_size (c : UInt8) (s : ByteArray) (hs : s.size ≤ 1000000) (i : Nat) : ((cutS c s).getD i noTxt).size ≤ 1000000 := by
  by_cases h : i < (cutS c s).length
  · rw [List.getD, List.getElem?_eq_getElem h]
    have := cutS_piece (List.getElem_mem h)
    show (cutS c s)[i].size ≤ 1000000
    omega
  · rw [List.getD, List.getElem?_eq_none (by omega)]; decide
set_option maxRecDepth 10000 in
set_option maxHeartbeats 4000000 in
theorem less1_any (a b : ByteArray) (ha : a.size ≤ 1000000) (hb : b.size ≤ 1000000) (w : World) : Calls Tryz.prog 117 #[.string a, .string b] w fun e w' => e = .returned (.bool (lessL a.data.toList b.data.toList)) ∧ Below w.heap.size w w' := by
  obtain ⟨r, hr⟩ : ∃ r, r = lessL a.data.toList b.data.toList := ⟨_, rfl⟩
  have hP := fun W => may1_any a ha W
  have hQ := fun W => may1_any b hb W
  obtain ⟨p, hp⟩ : ∃ x, x = mayL a.data.toList := ⟨_, rfl⟩
  obtain ⟨q, hq⟩ : ∃ x, x = mayL b.data.toList := ⟨_, rfl⟩
  have hv : r = if p = false ∨ q = false then !p && q else lessFrom (cutL 46 a.data.toList) (cutL 46 b.data.toList) 0 (max (cutL 46 a.data.toList).length (cutL 46 b.data.toList).length) := by rw [hr, hp, hq]; rfl
  rw [← hr]
  rw [← hp] at hP
  rw [← hq] at hQ
  cases p with
  | false =>
    have h0 : q = r := by rw [hv]; simp
    have Hr := Lib.hid hr; have HP := Lib.hid hP; have HQ := Lib.hid hQ; have Hp := Lib.hid hp; have Hq := Lib.hid hq; have Hv := Lib.hid hv; have H0 := Lib.hid h0; clear hr hP hQ hp hq hv h0
    go_enter Tryz.func117, Tryz.ntmps117
    go_wp2_with fail
    refine (HP.out _).mono ?_
    rintro e w1 ⟨rfl, hb1⟩
    have hP2 := HP.out w1
    have Hb1 := Lib.hid hb1; have HP2 := Lib.hid hP2; clear hb1 hP2
    go_wp2_with fail
    refine HP2.out.mono ?_
    rintro e w2 ⟨rfl, hb2⟩
    have hb3 := Hb1.out.trans (hb2.mono Hb1.out.size)
    have hQ2 := HQ.out w2
    have Hb2 := Lib.hid hb2; have Hb3 := Lib.hid hb3; have HQ2 := Lib.hid hQ2; clear hb2 hb3 hQ2
    go_wp2_with fail
    refine HQ2.out.mono ?_
    rintro e w3 ⟨rfl, hb4⟩
    have hb5 := Hb3.out.trans (hb4.mono Hb3.out.size)
    have Hb4 := Lib.hid hb4; have Hb5 := Lib.hid hb5; clear hb4 hb5
    go_wp2_with fail
    go_ret
    exact ⟨ret_bool H0.out, Hb5.out⟩
  | true =>
    cases q with
    | false =>
      have h0 : r = false := by rw [hv]; rfl
      have Hr := Lib.hid hr; have HP := Lib.hid hP; have HQ := Lib.hid hQ; have Hp := Lib.hid hp; have Hq := Lib.hid hq; have Hv := Lib.hid hv; have H0 := Lib.hid h0; clear hr hP hQ hp hq hv h0
      go_enter Tryz.func117, Tryz.ntmps117
      go_wp2_with fail
      refine (HP.out _).mono ?_
      rintro e w1 ⟨rfl, hb1⟩
      have hQ2 := HQ.out w1
      have Hb1 := Lib.hid hb1; have HQ2 := Lib.hid hQ2; clear hb1 hQ2
      go_wp2_with fail
      refine HQ2.out.mono ?_
      rintro e w2 ⟨rfl, hb2⟩
      have hb3 := Hb1.out.trans (hb2.mono Hb1.out.size)
      have hP2 := HP.out w2
      have Hb2 := Lib.hid hb2; have Hb3 := Lib.hid hb3; have HP2 := Lib.hid hP2; clear hb2 hb3 hP2
      go_wp2_with fail
      refine HP2.out.mono ?_
      rintro e w3 ⟨rfl, hb4⟩
      have hb5 := Hb3.out.trans (hb4.mono Hb3.out.size)
      have Hb4 := Lib.hid hb4; have Hb5 := Lib.hid hb5; clear hb4 hb5
      go_wp2_with fail
      go_ret
      exact ⟨ret_bool H0.out.symm, Hb5.out⟩
    | true =>
      obtain ⟨ps, hps⟩ : ∃ x, x = cutS 46 a := ⟨_, rfl⟩
      obtain ⟨qs, hqs⟩ : ∃ x, x = cutS 46 b := ⟨_, rfl⟩
      obtain ⟨xs, hxs⟩ : ∃ x, x = cutL 46 a.data.toList := ⟨_, rfl⟩
      obtain ⟨ys, hys⟩ : ∃ x, x = cutL 46 b.data.toList := ⟨_, rfl⟩
      have h0 : r = lessFrom xs ys 0 (max xs.length ys.length) := by rw [hv, hxs, hys]; rfl
      obtain ⟨m, hm⟩ : ∃ m, m = xs.length := ⟨_, rfl⟩
      obtain ⟨n, hn⟩ : ∃ m, m = ys.length := ⟨_, rfl⟩
      have hm8 : m ≤ 8 := by rw [hm, hxs]; exact ((may_iff _).1 hp.symm).2.2.2
      have hn8 : n ≤ 8 := by rw [hn, hys]; exact ((may_iff _).1 hq.symm).2.2.2
      have hC := fun W => cut1_any a ha 46 (by omega) W
      have hC2 := fun W => cut1_any b hb 46 (by omega) W
      rw [show UInt8.ofNat 46 = (46 : UInt8) from rfl, cutS_len, ← hxs, ← hm, ← hps] at hC
      rw [show UInt8.ofNat 46 = (46 : UInt8) from rfl, cutS_len, ← hys, ← hn, ← hqs] at hC2
      rw [← hm, ← hn] at h0
      obtain ⟨N, hN⟩ : ∃ N, N = max m n := ⟨_, rfl⟩
      rw [← hN] at h0
      have gx : ∀ i, (ps.getD i noTxt).data.toList = xs.getD i [] := fun i => by rw [hps, hxs]; exact getD_data 46 a i
      have gy : ∀ i, (qs.getD i noTxt).data.toList = ys.getD i [] := fun i => by rw [hqs, hys]; exact getD_data 46 b i
      have zx : ∀ i, (ps.getD i noTxt).size ≤ 1000000 := fun i => by rw [hps]; exact getD_size 46 a ha i
      have zy : ∀ i, (qs.getD i noTxt).size ≤ 1000000 := fun i => by rw [hqs]; exact getD_size 46 b hb i
      have Hr := Lib.hid hr; have HP := Lib.hid hP; have HQ := Lib.hid hQ; have Hp := Lib.hid hp; have Hq := Lib.hid hq; have Hv := Lib.hid hv; have H0 := Lib.hid h0; have Hps := Lib.hid hps; have Hqs := Lib.hid hqs; have Hxs := Lib.hid hxs; have Hys := Lib.hid hys; have Hm := Lib.hid hm; have Hn := Lib.hid hn; have HC := Lib.hid hC; have HC2 := Lib.hid hC2; have Hgx := Lib.hid gx; have Hgy := Lib.hid gy; have Hzx := Lib.hid zx; have Hzy := Lib.hid zy; have HN := Lib.hid hN; clear hr hP hQ hp hq hv h0 hps hqs hxs hys hm hn hC hC2 gx gy zx zy hN
      go_enter Tryz.func117, Tryz.ntmps117
      go_wp2_with fail
      refine (HP.out _).mono ?_
      rintro e w1 ⟨rfl, hb1⟩
      have hQ2 := HQ.out w1
      have Hb1 := Lib.hid hb1; have HQ2 := Lib.hid hQ2; clear hb1 hQ2
      go_wp2_with fail
      refine HQ2.out.mono ?_
      rintro e w2 ⟨rfl, hb2⟩
      have hb3 := Hb1.out.trans (hb2.mono Hb1.out.size)
      have hC3 := HC.out w2
      have Hb2 := Lib.hid hb2; have Hb3 := Lib.hid hb3; have HC3 := Lib.hid hC3; clear hb2 hb3 hC3
      go_wp2_with fail
      refine HC3.out.mono ?_
      rintro e w3 ⟨v1, rfl, o1, hb4⟩
      have hb5 := Hb3.out.trans (hb4.mono Hb3.out.size)
      have hC4 := HC2.out w3
      obtain ⟨a1, cap1, rfl⟩ := own_shape o1
      have Hb4 := Lib.hid hb4; have Hb5 := Lib.hid hb5; have HC4 := Lib.hid hC4; have Ho1 := Lib.hid o1; clear hb4 hb5 hC4 o1
      go_wp2_with fail
      refine HC4.out.mono ?_
      rintro e w4 ⟨v2, rfl, o2, hb6⟩
      have hb7 := Hb5.out.trans (hb6.mono Hb5.out.size)
      have o3 := ownsRow_below Ho1.out hb6
      obtain ⟨a2, cap2, rfl⟩ := own_shape o2
      have Hb6 := Lib.hid hb6; have Hb7 := Lib.hid hb7; have Ho2 := Lib.hid o2; have Ho3 := Lib.hid o3; clear hb6 hb7 o2 o3
      clear Ho1 HC HC2 HC3 HC4 HQ2 HP HQ Hb1 Hb2 Hb3 Hb4 Hb5 Hb6
      go_wp2_with fail
      go_loop [7] (fun i => ∃ k : Nat, k ≤ N ∧ i = .int .i64 k ∧ r = lessFrom xs ys k (N - k)) (fun i => N - (RowKit.intOf i).toNat)
      case atStart => exact ⟨0, Nat.zero_le _, rfl, H0.out⟩
      case round =>
        obtain ⟨k, hk, rfl, hrk⟩ := hrel
        by_cases hlt : k < N
        · obtain ⟨x, hx⟩ : ∃ x, x = ps.getD k noTxt := ⟨_, rfl⟩
          obtain ⟨y, hy⟩ : ∃ x, x = qs.getD k noTxt := ⟨_, rfl⟩
          have hX := at1_any Ho3.out (by omega) k (by have := HN.out; omega)
          have hY := at1_any Ho2.out (by omega) k (by have := HN.out; omega)
          rw [← hx] at hX
          rw [← hy] at hY
          have hB1 := before_any x y (by rw [hx]; have := Hzx.out k; omega) (by rw [hy]; have := Hzy.out k; omega) w4
          have hB2 := before_any y x (by rw [hy]; have := Hzy.out k; omega) (by rw [hx]; have := Hzx.out k; omega) w4
          obtain ⟨u, hu⟩ : ∃ u, u = before x.data.toList y.data.toList := ⟨_, rfl⟩
          obtain ⟨v, hv⟩ : ∃ u, u = before y.data.toList x.data.toList := ⟨_, rfl⟩
          rw [← hu] at hB1
          rw [← hv] at hB2
          have hr2 : r = if u = true then true else if v = true then false else lessFrom xs ys (k + 1) (N - (k + 1)) := by
            rw [hrk, show N - k = (N - (k + 1)) + 1 by omega, lessFrom, hu, hv, hx, hy, Hgx.out, Hgy.out]
          have hor : (k < m) ∨ (¬ k < m ∧ k < n) := by have := HN.out; omega
          have Hx := Lib.hid hx; have Hy := Lib.hid hy; have HX := Lib.hid hX; have HY := Lib.hid hY; have HB1 := Lib.hid hB1; have HB2 := Lib.hid hB2; have Hu := Lib.hid hu; have Hv := Lib.hid hv; have Hrk := Lib.hid hrk; have Hr2 := Lib.hid hr2; clear hx hy hX hY hB1 hB2 hu hv hrk hr2
          rcases hor with h1 | ⟨h1, h2⟩
          · have k1 : decide ((k : Int) < (m : Int)) = true := decide_eq_true (by omega)
            cases u with
            | true =>
              have hf : r = true := by rw [Hr2.out]; rfl
              have Hf := Lib.hid hf; clear hf
              go_wp2_with fail
              refine HX.out.mono ?_
              rintro e w5 ⟨rfl, rfl⟩
              go_wp2_with fail
              refine HY.out.mono ?_
              rintro e w5 ⟨rfl, rfl⟩
              go_wp2_with fail
              refine HB1.out.mono ?_
              rintro e w5 ⟨rfl, rfl⟩
              go_wp2_with fail
              go_ret
              exact ⟨ret_bool Hf.out.symm, Hb7.out⟩
            | false =>
              cases v with
              | true =>
                have hf : r = false := by rw [Hr2.out]; rfl
                have Hf := Lib.hid hf; clear hf
                go_wp2_with fail
                refine HX.out.mono ?_
                rintro e w5 ⟨rfl, rfl⟩
                go_wp2_with fail
                refine HY.out.mono ?_
                rintro e w5 ⟨rfl, rfl⟩
                go_wp2_with fail
                refine HB1.out.mono ?_
                rintro e w5 ⟨rfl, rfl⟩
                go_wp2_with fail
                refine HY.out.mono ?_
                rintro e w5 ⟨rfl, rfl⟩
                go_wp2_with fail
                refine HX.out.mono ?_
                rintro e w5 ⟨rfl, rfl⟩
                go_wp2_with fail
                refine HB2.out.mono ?_
                rintro e w5 ⟨rfl, rfl⟩
                go_wp2_with fail
                go_ret
                exact ⟨ret_bool Hf.out.symm, Hb7.out⟩
              | false =>
                have hf : r = lessFrom xs ys (k + 1) (N - (k + 1)) := by rw [Hr2.out]; rfl
                have Hf := Lib.hid hf; clear hf
                go_wp2_with fail
                refine HX.out.mono ?_
                rintro e w5 ⟨rfl, rfl⟩
                go_wp2_with fail
                refine HY.out.mono ?_
                rintro e w5 ⟨rfl, rfl⟩
                go_wp2_with fail
                refine HB1.out.mono ?_
                rintro e w5 ⟨rfl, rfl⟩
                go_wp2_with fail
                refine HY.out.mono ?_
                rintro e w5 ⟨rfl, rfl⟩
                go_wp2_with fail
                refine HX.out.mono ?_
                rintro e w5 ⟨rfl, rfl⟩
                go_wp2_with fail
                refine HB2.out.mono ?_
                rintro e w5 ⟨rfl, rfl⟩
                go_wp2_with fail
                go_round
                case rel => exact ⟨k + 1, by omega, by go_num, Hf.out⟩
                case measure => simp [RowKit.intOf]; omega
          · have k1 : decide ((k : Int) < (m : Int)) = false := decide_eq_false (by omega)
            have k2 : decide ((k : Int) < (n : Int)) = true := decide_eq_true (by omega)
            cases u with
            | true =>
              have hf : r = true := by rw [Hr2.out]; rfl
              have Hf := Lib.hid hf; clear hf
              go_wp2_with fail
              refine HX.out.mono ?_
              rintro e w5 ⟨rfl, rfl⟩
              go_wp2_with fail
              refine HY.out.mono ?_
              rintro e w5 ⟨rfl, rfl⟩
              go_wp2_with fail
              refine HB1.out.mono ?_
              rintro e w5 ⟨rfl, rfl⟩
              go_wp2_with fail
              go_ret
              exact ⟨ret_bool Hf.out.symm, Hb7.out⟩
            | false =>
              cases v with
              | true =>
                have hf : r = false := by rw [Hr2.out]; rfl
                have Hf := Lib.hid hf; clear hf
                go_wp2_with fail
                refine HX.out.mono ?_
                rintro e w5 ⟨rfl, rfl⟩
                go_wp2_with fail
                refine HY.out.mono ?_
                rintro e w5 ⟨rfl, rfl⟩
                go_wp2_with fail
                refine HB1.out.mono ?_
                rintro e w5 ⟨rfl, rfl⟩
                go_wp2_with fail
                refine HY.out.mono ?_
                rintro e w5 ⟨rfl, rfl⟩
                go_wp2_with fail
                refine HX.out.mono ?_
                rintro e w5 ⟨rfl, rfl⟩
                go_wp2_with fail
                refine HB2.out.mono ?_
                rintro e w5 ⟨rfl, rfl⟩
                go_wp2_with fail
                go_ret
                exact ⟨ret_bool Hf.out.symm, Hb7.out⟩
              | false =>
                have hf : r = lessFrom xs ys (k + 1) (N - (k + 1)) := by rw [Hr2.out]; rfl
                have Hf := Lib.hid hf; clear hf
                go_wp2_with fail
                refine HX.out.mono ?_
                rintro e w5 ⟨rfl, rfl⟩
                go_wp2_with fail
                refine HY.out.mono ?_
                rintro e w5 ⟨rfl, rfl⟩
                go_wp2_with fail
                refine HB1.out.mono ?_
                rintro e w5 ⟨rfl, rfl⟩
                go_wp2_with fail
                refine HY.out.mono ?_
                rintro e w5 ⟨rfl, rfl⟩
                go_wp2_with fail
                refine HX.out.mono ?_
                rintro e w5 ⟨rfl, rfl⟩
                go_wp2_with fail
                refine HB2.out.mono ?_
                rintro e w5 ⟨rfl, rfl⟩
                go_wp2_with fail
                go_round
                case rel => exact ⟨k + 1, by omega, by go_num, Hf.out⟩
                case measure => simp [RowKit.intOf]; omega
        · obtain rfl : k = N := by omega
          have k1 : decide (k < m) = false := decide_eq_false (by have := HN.out; omega)
          have k2 : decide (k < n) = false := decide_eq_false (by have := HN.out; omega)
          have hf : r = false := by rw [hrk, Nat.sub_self]; rfl
          have Hrk := Lib.hid hrk; have Hf := Lib.hid hf; clear hrk hf
          go_wp2_with fail
          go_ret
          exact ⟨ret_bool Hf.out.symm, Hb7.out⟩
end Go.Proofs.YteailgjiifdgcaaGreatDoor
