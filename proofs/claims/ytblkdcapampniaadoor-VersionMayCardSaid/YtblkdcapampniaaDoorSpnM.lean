/- Spans as plain pairs of texts: what lies in one, what two have in common. Conditions: as each says. -/
import Derived.Test.YtblkdcapampniaaDoorVerT
set_option linter.unusedVariables false
set_option linter.unusedSimpArgs false
/- Plain facts on spans: bounds, what is in one, what two have in common, the least of two; the program's way and the document's. -/
namespace Go.Proofs.YtblkdcapampniaaDoor.VerN
open Go.Lib

abbrev Sp := List UInt8 × List UInt8
def boundB (l : List UInt8) : Bool := decide (l = []) || mayL l
def aheadB (a b : List UInt8) : Bool := decide (a ≠ []) && decide (b ≠ []) && decide (compareL a b < 0)
def mayS (s : Sp) : Bool := boundB s.1 && boundB s.2 && !aheadB s.2 s.1
def hasS (s : Sp) (v : List UInt8) : Bool := mayS s && mayL v && !aheadB v s.1 && !aheadB s.2 v
def laterB (a b : List UInt8) : List UInt8 := if a = [] ∨ aheadB a b = true then b else a
def soonerB (a b : List UInt8) : List UInt8 := if a = [] ∨ aheadB b a = true then b else a
def meetO (a b : Sp) : Sp := (laterB a.1 b.1, soonerB a.2 b.2)
def meetOk (a b : Sp) : Bool := mayS a && mayS b && mayS (meetO a b)
def meetS (a b : Sp) : Sp := if meetOk a b = true then meetO a b else ([], [])
def joinS (a b : Sp) : Sp := if mayS a = true ∧ mayS b = true then (if a.1 ≠ [] ∧ b.1 ≠ [] then soonerB a.1 b.1 else [], if a.2 ≠ [] ∧ b.2 ≠ [] then laterB a.2 b.2 else []) else ([], [])
def textR (s : Sp) : List UInt8 := if s.1 = s.2 ∧ s.1 ≠ [] then s.1 else s.1 ++ 58 :: s.2
def textS (s : Sp) : List UInt8 := if mayS s = true then textR s else []
def withinB (a b : Sp) : Bool := mayS a && mayS b && (decide (b.1 = []) || (decide (a.1 ≠ []) && !aheadB a.1 b.1)) && (decide (b.2 = []) || (decide (a.2 ≠ []) && !aheadB b.2 a.2))

/-! the row of all texts, by ≤ -/
def le (a b : List UInt8) : Prop := compareL a b ≤ 0
theorem le_refl (a : List UInt8) : le a a := by
  have := row_compare.neg a a
  unfold le; omega
theorem le_trans {a b c : List UInt8} (h1 : le a b) (h2 : le b c) : le a c := row_compare.trans a b c h1 h2
theorem not_le {a b : List UInt8} : ¬ le a b ↔ compareL b a < 0 := by
  have := row_compare.neg a b
  unfold le; omega
theorem le_total (a b : List UInt8) : le a b ∨ le b a := by
  have := row_compare.neg a b
  unfold le; omega
theorem ahead_no {a b : List UInt8} : aheadB a b = false ↔ a = [] ∨ b = [] ∨ le b a := by
  have h : ¬ compareL a b < 0 ↔ le b a := by
    have := row_compare.neg a b
    unfold le
    omega
  unfold aheadB
  simp only [Bool.and_eq_false_iff, decide_eq_false_iff_not, ne_eq, Decidable.not_not, h]
  exact or_assoc
theorem ahead_yes {a b : List UInt8} : aheadB a b = true ↔ a ≠ [] ∧ b ≠ [] ∧ ¬ le b a := by
  unfold aheadB
  simp only [Bool.and_eq_true, decide_eq_true_eq, not_le, and_assoc]
theorem ahead_less (a b : List UInt8) : aheadB a b = (decide (a ≠ []) && decide (b ≠ []) && lessL a b) := by
  have ht := row_compare.tri a b
  unfold aheadB
  rw [less_is]
  congr 1
  exact decide_eq_decide.2 ⟨fun h => by omega, fun h => by omega⟩
theorem bound_iff {l : List UInt8} : boundB l = true ↔ l = [] ∨ mayL l = true := by unfold boundB; simp
theorem may_ne {l : List UInt8} (h : mayL l = true) : l ≠ [] := ((may_iff l).1 h).1
theorem mayS_iff {s : Sp} : mayS s = true ↔ boundB s.1 = true ∧ boundB s.2 = true ∧ (s.1 = [] ∨ s.2 = [] ∨ le s.1 s.2) := by
  unfold mayS
  simp only [Bool.and_eq_true, Bool.not_eq_true', and_assoc, ahead_no]
  constructor
  · rintro ⟨h1, h2, h3⟩
    refine ⟨h1, h2, ?_⟩
    rcases h3 with h | h | h
    · exact .inr (.inl h)
    · exact .inl h
    · exact .inr (.inr h)
  · rintro ⟨h1, h2, h3⟩
    refine ⟨h1, h2, ?_⟩
    rcases h3 with h | h | h
    · exact .inr (.inl h)
    · exact .inl h
    · exact .inr (.inr h)
/-- v is between the bounds -/
def lower (lo v : List UInt8) : Prop := lo = [] ∨ le lo v
def upper (hi v : List UInt8) : Prop := hi = [] ∨ le v hi
theorem hasS_iff {s : Sp} {v : List UInt8} : hasS s v = true ↔ mayS s = true ∧ mayL v = true ∧ lower s.1 v ∧ upper s.2 v := by
  unfold hasS lower upper
  simp only [Bool.and_eq_true, Bool.not_eq_true', and_assoc, ahead_no]
  constructor
  · rintro ⟨h1, h2, h3, h4⟩
    have hv := may_ne h2
    refine ⟨h1, h2, ?_, ?_⟩
    · rcases h3 with h | h | h
      · exact absurd h hv
      · exact .inl h
      · exact .inr h
    · rcases h4 with h | h | h
      · exact .inl h
      · exact absurd h hv
      · exact .inr h
  · rintro ⟨h1, h2, h3, h4⟩
    refine ⟨h1, h2, ?_, ?_⟩
    · rcases h3 with h | h
      · exact .inr (.inl h)
      · exact .inr (.inr h)
    · rcases h4 with h | h
      · exact .inl h
      · exact .inr (.inr h)
theorem later_cases (a b : List UInt8) : laterB a b = a ∨ laterB a b = b := by unfold laterB; split; exact .inr rfl; exact .inl rfl
theorem sooner_cases (a b : List UInt8) : soonerB a b = a ∨ soonerB a b = b := by unfold soonerB; split; exact .inr rfl; exact .inl rfl
theorem bound_of {x a b : List UInt8} (h : x = a ∨ x = b) (ha : boundB a = true) (hb : boundB b = true) : boundB x = true := by rcases h with rfl | rfl <;> assumption
/-- what is above the later bound is above both -/
theorem lower_later {a b v : List UInt8} : lower (laterB a b) v ↔ lower a v ∧ lower b v := by
  unfold laterB
  by_cases h : a = [] ∨ aheadB a b = true
  · rw [if_pos h]
    refine ⟨fun hb => ⟨?_, hb⟩, fun h => h.2⟩
    rcases h with h | h
    · exact .inl h
    · obtain ⟨h1, h2, h3⟩ := ahead_yes.1 h
      rcases hb with hb | hb
      · exact absurd hb h2
      · exact .inr (le_trans ((le_total a b).resolve_right h3) hb)
  · rw [if_neg h]
    refine ⟨fun ha => ⟨ha, ?_⟩, fun h => h.1⟩
    have h1 : a ≠ [] := fun e => h (.inl e)
    have h2 : aheadB a b = false := Bool.eq_false_iff.2 fun e => h (.inr e)
    rcases ahead_no.1 h2 with h2 | h2 | h2
    · exact absurd h2 h1
    · exact .inl h2
    · rcases ha with ha | ha
      · exact absurd ha h1
      · exact .inr (le_trans h2 ha)
theorem upper_sooner {a b v : List UInt8} : upper (soonerB a b) v ↔ upper a v ∧ upper b v := by
  unfold soonerB
  by_cases h : a = [] ∨ aheadB b a = true
  · rw [if_pos h]
    refine ⟨fun hb => ⟨?_, hb⟩, fun h => h.2⟩
    rcases h with h | h
    · exact .inl h
    · obtain ⟨h1, h2, h3⟩ := ahead_yes.1 h
      rcases hb with hb | hb
      · exact absurd hb h1
      · exact .inr (le_trans hb ((le_total b a).resolve_right h3))
  · rw [if_neg h]
    refine ⟨fun ha => ⟨ha, ?_⟩, fun h => h.1⟩
    have h1 : a ≠ [] := fun e => h (.inl e)
    have h2 : aheadB b a = false := Bool.eq_false_iff.2 fun e => h (.inr e)
    rcases ahead_no.1 h2 with h2 | h2 | h2
    · exact .inl h2
    · exact absurd h2 h1
    · rcases ha with ha | ha
      · exact absurd ha h1
      · exact .inr (le_trans ha h2)
theorem meet_bounds {a b : Sp} (ha : mayS a = true) (hb : mayS b = true) : boundB (meetO a b).1 = true ∧ boundB (meetO a b).2 = true :=
  ⟨bound_of (later_cases _ _) (mayS_iff.1 ha).1 (mayS_iff.1 hb).1, bound_of (sooner_cases _ _) (mayS_iff.1 ha).2.1 (mayS_iff.1 hb).2.1⟩
/-- a version is in what two spans have in common just if it is in both -/
theorem meet_has (a b : Sp) (v : List UInt8) : (meetOk a b && hasS (meetS a b) v) = (hasS a v && hasS b v) := by
  refine Bool.eq_iff_iff.2 ?_
  rw [Bool.and_eq_true, Bool.and_eq_true]
  constructor
  · rintro ⟨h1, h2⟩
    unfold meetS at h2
    rw [if_pos h1] at h2
    unfold meetOk at h1
    simp only [Bool.and_eq_true] at h1
    obtain ⟨_, hv, hl, hu⟩ := hasS_iff.1 h2
    have l := lower_later.1 hl
    have u := upper_sooner.1 hu
    exact ⟨hasS_iff.2 ⟨h1.1.1, hv, l.1, u.1⟩, hasS_iff.2 ⟨h1.1.2, hv, l.2, u.2⟩⟩
  · rintro ⟨h1, h2⟩
    obtain ⟨ha, hv, la, ua⟩ := hasS_iff.1 h1
    obtain ⟨hb, _, lb, ub⟩ := hasS_iff.1 h2
    have l : lower (meetO a b).1 v := lower_later.2 ⟨la, lb⟩
    have u : upper (meetO a b).2 v := upper_sooner.2 ⟨ua, ub⟩
    have hm : mayS (meetO a b) = true := by
      have hB := meet_bounds ha hb
      refine mayS_iff.2 ⟨hB.1, hB.2, ?_⟩
      rcases l with l | l
      · exact .inl l
      · rcases u with u | u
        · exact .inr (.inl u)
        · exact .inr (.inr (le_trans l u))
    have hok : meetOk a b = true := by unfold meetOk; rw [ha, hb, hm]; rfl
    refine ⟨hok, ?_⟩
    unfold meetS
    rw [if_pos hok]
    exact hasS_iff.2 ⟨hm, hv, l, u⟩

/-! the document's way -/
def refMayS (s : Sp) : Bool := boundB s.1 && boundB s.2 && (decide (s.1 = []) || decide (s.2 = []) || !lessL s.2 s.1)
theorem refMay_is (s : Sp) : refMayS s = mayS s := by
  unfold refMayS mayS
  rw [ahead_less]
  by_cases h1 : s.1 = [] <;> by_cases h2 : s.2 = [] <;> simp [h1, h2]
def refHasS (s : Sp) (v : List UInt8) : Bool := if refMayS s = false ∨ mayL v = false then false else (decide (s.1 = []) || !lessL v s.1) && (decide (s.2 = []) || !lessL s.2 v)
theorem refHas_is (s : Sp) (v : List UInt8) : refHasS s v = hasS s v := by
  unfold refHasS hasS
  rw [refMay_is, ahead_less, ahead_less]
  cases hm : mayS s
  · simp
  · cases hv : mayL v
    · simp
    · have := may_ne hv
      by_cases h1 : s.1 = [] <;> by_cases h2 : s.2 = [] <;> simp [h1, h2, this]
def refMeetO (a b : Sp) : Sp := (if b.1 ≠ [] ∧ (a.1 = [] ∨ lessL a.1 b.1 = true) then b.1 else a.1, if b.2 ≠ [] ∧ (a.2 = [] ∨ lessL b.2 a.2 = true) then b.2 else a.2)
theorem refMeet_is (a b : Sp) : refMeetO a b = meetO a b := by
  unfold refMeetO meetO laterB soonerB
  rw [ahead_less, ahead_less]
  refine Prod.ext ?_ ?_
  · by_cases h1 : b.1 = [] <;> by_cases h2 : a.1 = [] <;> simp [h1, h2]
  · by_cases h1 : b.2 = [] <;> by_cases h2 : a.2 = [] <;> simp [h1, h2]
/-! the least span of two -/
theorem join_bounds {a b : Sp} (ha : mayS a = true) (hb : mayS b = true) : boundB (joinS a b).1 = true ∧ boundB (joinS a b).2 = true := by
  unfold joinS
  rw [if_pos ⟨ha, hb⟩]
  refine ⟨?_, ?_⟩
  · show boundB (if a.1 ≠ [] ∧ b.1 ≠ [] then soonerB a.1 b.1 else []) = true
    split
    · exact bound_of (sooner_cases _ _) (mayS_iff.1 ha).1 (mayS_iff.1 hb).1
    · rfl
  · show boundB (if a.2 ≠ [] ∧ b.2 ≠ [] then laterB a.2 b.2 else []) = true
    split
    · exact bound_of (later_cases _ _) (mayS_iff.1 ha).2.1 (mayS_iff.1 hb).2.1
    · rfl
theorem sooner_le {a b : List UInt8} (ha : a ≠ []) (hb : b ≠ []) : le (soonerB a b) a ∧ le (soonerB a b) b ∧ soonerB a b ≠ [] := by
  unfold soonerB
  by_cases h : aheadB b a = true
  · rw [if_pos (.inr h)]
    obtain ⟨_, _, h3⟩ := ahead_yes.1 h
    exact ⟨(le_total b a).resolve_right h3, le_refl b, hb⟩
  · rw [if_neg (by rintro (e | e); exact ha e; exact h e)]
    rcases ahead_no.1 (Bool.eq_false_iff.2 h) with h2 | h2 | h2
    · exact absurd h2 hb
    · exact absurd h2 ha
    · exact ⟨le_refl a, h2, ha⟩
theorem later_ge {a b : List UInt8} (ha : a ≠ []) (hb : b ≠ []) : le a (laterB a b) ∧ le b (laterB a b) ∧ laterB a b ≠ [] := by
  unfold laterB
  by_cases h : aheadB a b = true
  · rw [if_pos (.inr h)]
    obtain ⟨_, _, h3⟩ := ahead_yes.1 h
    exact ⟨(le_total a b).resolve_right h3, le_refl b, hb⟩
  · rw [if_neg (by rintro (e | e); exact ha e; exact h e)]
    rcases ahead_no.1 (Bool.eq_false_iff.2 h) with h2 | h2 | h2
    · exact absurd h2 ha
    · exact absurd h2 hb
    · exact ⟨le_refl a, h2, ha⟩
theorem join_lo {a b : Sp} (ha : mayS a = true) (hb : mayS b = true) : (joinS a b).1 = [] ∨ (a.1 ≠ [] ∧ b.1 ≠ [] ∧ (joinS a b).1 = soonerB a.1 b.1) := by
  unfold joinS
  rw [if_pos ⟨ha, hb⟩]
  by_cases h : a.1 ≠ [] ∧ b.1 ≠ []
  · exact .inr ⟨h.1, h.2, if_pos h⟩
  · exact .inl (if_neg h)
theorem join_hi {a b : Sp} (ha : mayS a = true) (hb : mayS b = true) : (joinS a b).2 = [] ∨ (a.2 ≠ [] ∧ b.2 ≠ [] ∧ (joinS a b).2 = laterB a.2 b.2) := by
  unfold joinS
  rw [if_pos ⟨ha, hb⟩]
  by_cases h : a.2 ≠ [] ∧ b.2 ≠ []
  · exact .inr ⟨h.1, h.2, if_pos h⟩
  · exact .inl (if_neg h)
theorem join_may {a b : Sp} (ha : mayS a = true) (hb : mayS b = true) : mayS (joinS a b) = true := by
  have hB := join_bounds ha hb
  refine mayS_iff.2 ⟨hB.1, hB.2, ?_⟩
  rcases join_lo ha hb with h | ⟨h1, h2, h3⟩
  · exact .inl h
  · rcases join_hi ha hb with h | ⟨g1, g2, g3⟩
    · exact .inr (.inl h)
    · refine .inr (.inr ?_)
      rw [h3, g3]
      have hm := (mayS_iff.1 ha).2.2.resolve_left h1 |>.resolve_left g1
      exact le_trans (sooner_le h1 h2).1 (le_trans hm (later_ge g1 g2).1)
theorem within_iff {a b : Sp} : withinB a b = true ↔ mayS a = true ∧ mayS b = true ∧ (b.1 = [] ∨ a.1 ≠ [] ∧ le b.1 a.1) ∧ (b.2 = [] ∨ a.2 ≠ [] ∧ le a.2 b.2) := by
  unfold withinB
  simp only [Bool.and_eq_true, Bool.or_eq_true, Bool.not_eq_true', decide_eq_true_eq, and_assoc, ahead_no]
  constructor
  · rintro ⟨h1, h2, h3, h4⟩
    refine ⟨h1, h2, ?_, ?_⟩
    · rcases h3 with h | ⟨h, k⟩
      · exact .inl h
      · rcases k with k | k | k
        · exact absurd k h
        · exact .inl k
        · exact .inr ⟨h, k⟩
    · rcases h4 with h | ⟨h, k⟩
      · exact .inl h
      · rcases k with k | k | k
        · exact .inl k
        · exact absurd k h
        · exact .inr ⟨h, k⟩
  · rintro ⟨h1, h2, h3, h4⟩
    refine ⟨h1, h2, ?_, ?_⟩
    · rcases h3 with h | ⟨h, k⟩
      · exact .inl h
      · exact .inr ⟨h, .inr (.inr k)⟩
    · rcases h4 with h | ⟨h, k⟩
      · exact .inl h
      · exact .inr ⟨h, .inr (.inr k)⟩
theorem within_left {a b : Sp} (ha : mayS a = true) (hb : mayS b = true) : withinB a (joinS a b) = true ∧ withinB b (joinS a b) = true := by
  have hj := join_may ha hb
  refine ⟨within_iff.2 ⟨ha, hj, ?_, ?_⟩, within_iff.2 ⟨hb, hj, ?_, ?_⟩⟩
  · rcases join_lo ha hb with h | ⟨h1, h2, h3⟩
    · exact .inl h
    · exact .inr ⟨h1, by rw [h3]; exact (sooner_le h1 h2).1⟩
  · rcases join_hi ha hb with h | ⟨h1, h2, h3⟩
    · exact .inl h
    · exact .inr ⟨h1, by rw [h3]; exact (later_ge h1 h2).1⟩
  · rcases join_lo ha hb with h | ⟨h1, h2, h3⟩
    · exact .inl h
    · exact .inr ⟨h2, by rw [h3]; exact (sooner_le h1 h2).2.1⟩
  · rcases join_hi ha hb with h | ⟨h1, h2, h3⟩
    · exact .inl h
    · exact .inr ⟨h2, by rw [h3]; exact (later_ge h1 h2).2.1⟩
theorem within_has {a b : Sp} {v : List UInt8} (h : withinB a b = true) (hv : hasS a v = true) : hasS b v = true := by
  obtain ⟨_, hb, hl, hu⟩ := within_iff.1 h
  obtain ⟨_, h2, h3, h4⟩ := hasS_iff.1 hv
  refine hasS_iff.2 ⟨hb, h2, ?_, ?_⟩
  · rcases hl with hl | ⟨g, hl⟩
    · exact .inl hl
    · rcases h3 with h3 | h3
      · exact absurd h3 g
      · exact .inr (le_trans hl h3)
  · rcases hu with hu | ⟨g, hu⟩
    · exact .inl hu
    · rcases h4 with h4 | h4
      · exact absurd h4 g
      · exact .inr (le_trans h4 hu)
theorem join_least {a b c : Sp} (h1 : withinB a c = true) (h2 : withinB b c = true) : withinB (joinS a b) c = true := by
  obtain ⟨ha, hc, la, ua⟩ := within_iff.1 h1
  obtain ⟨hb, _, lb, ub⟩ := within_iff.1 h2
  refine within_iff.2 ⟨join_may ha hb, hc, ?_, ?_⟩
  · rcases la with la | ⟨g1, la⟩
    · exact .inl la
    · rcases lb with lb | ⟨g2, lb⟩
      · exact .inl lb
      · rcases join_lo ha hb with h | ⟨_, _, h3⟩
        · unfold joinS at h
          rw [if_pos ⟨ha, hb⟩] at h
          have h' : (if a.1 ≠ [] ∧ b.1 ≠ [] then soonerB a.1 b.1 else []) = [] := h
          rw [if_pos ⟨g1, g2⟩] at h'
          exact absurd h' (sooner_le g1 g2).2.2
        · refine .inr ⟨by rw [h3]; exact (sooner_le g1 g2).2.2, ?_⟩
          rw [h3]
          rcases sooner_cases a.1 b.1 with e | e <;> rw [e] <;> assumption
  · rcases ua with ua | ⟨g1, ua⟩
    · exact .inl ua
    · rcases ub with ub | ⟨g2, ub⟩
      · exact .inl ub
      · rcases join_hi ha hb with h | ⟨_, _, h3⟩
        · unfold joinS at h
          rw [if_pos ⟨ha, hb⟩] at h
          have h' : (if a.2 ≠ [] ∧ b.2 ≠ [] then laterB a.2 b.2 else []) = [] := h
          rw [if_pos ⟨g1, g2⟩] at h'
          exact absurd h' (later_ge g1 g2).2.2
        · refine .inr ⟨by rw [h3]; exact (later_ge g1 g2).2.2, ?_⟩
          rw [h3]
          rcases later_cases a.2 b.2 with e | e <;> rw [e] <;> assumption
/-! spans of one version, and without bounds -/
theorem one_has {v w : List UInt8} (hm : mayS (v, v) = true) (hv : v ≠ []) : hasS (v, v) w = decide (v = w) := by
  have hb : mayL v = true := by
    rcases bound_iff.1 (mayS_iff.1 hm).1 with h | h
    · exact absurd h hv
    · exact h
  refine Bool.eq_iff_iff.2 ?_
  rw [hasS_iff, decide_eq_true_eq]
  constructor
  · rintro ⟨_, h2, h3, h4⟩
    have h3 := h3.resolve_left hv
    have h4 := h4.resolve_left hv
    have hn := row_compare.neg v w
    have e : compareL v w = 0 := by unfold le at h3 h4; show compareL v w = 0; have : compareL v w ≤ 0 := h3; have : compareL w v ≤ 0 := h4; omega
    rcases compare_zero e with e | ⟨e, _⟩
    · exact e
    · rw [hb] at e; cases e
  · rintro rfl
    exact ⟨hm, hb, .inr (le_refl _), .inr (le_refl _)⟩
theorem may_none : mayS ([], []) = true := rfl
theorem within_all {a : Sp} (h : mayS a = true) : withinB a ([], []) = true := within_iff.2 ⟨h, may_none, .inl rfl, .inl rfl⟩
theorem within_self {a : Sp} (h : mayS a = true) : withinB a a = true := within_iff.2 ⟨h, h, by
  by_cases e : a.1 = []
  · exact .inl e
  · exact .inr ⟨e, le_refl _⟩, by
  by_cases e : a.2 = []
  · exact .inl e
  · exact .inr ⟨e, le_refl _⟩⟩
end Go.Proofs.YtblkdcapampniaaDoor.VerN
