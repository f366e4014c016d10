/- How two parts of a version stand to each other, as plain functions on bytes. Conditions: as each says. -/
import Derived.Test.YtblkdcapampniaaDoorVerO
set_option linter.unusedVariables false
set_option linter.unusedSimpArgs false
/- Plain facts: how two parts stand to each other, by ranks, numbers and words, is the document's. -/
namespace Go.Proofs.YtblkdcapampniaaDoor.VerN
open Go.Lib

/-- a part, or the end: what is empty -/
def Part (l : List UInt8) : Prop := l = [] ∨ letOk l = true ∨ digOk l = true
def rankOf (l : List UInt8) : Int := if l = [] then 1 else if letOk l = true then 0 else 2
def numOf (l : List UInt8) : Int := if letOk l = true then 0 else (valFrom 0 l : Nat)
def wordOf (l : List UInt8) : List UInt8 := if letOk l = true then l else []
def cmpI (x y : Int) : Int := if x < y then -1 else if x > y then 1 else 0
def cmpW (x y : List UInt8) : Int := if x < y then -1 else if y < x then 1 else 0
/-- the program's way -/
def pcmp (a b : List UInt8) : Int := if cmpI (rankOf a) (rankOf b) ≠ 0 then cmpI (rankOf a) (rankOf b) else if cmpI (numOf a) (numOf b) ≠ 0 then cmpI (numOf a) (numOf b) else cmpW (wordOf a) (wordOf b)
def digs (l : List UInt8) : Bool := l.all isDig && !l.isEmpty
/-- the document's way -/
def before (a b : List UInt8) : Bool :=
  if a = b then false else if a = [] then digs b else if b = [] then letOk a else if letOk a ≠ letOk b then letOk a else if digs a && decide (a.length ≠ b.length) then decide (a.length < b.length) else decide (a < b)
theorem not_both {l : List UInt8} (h : letOk l = true) : digs l = false ∧ digOk l = false := by
  match l with
  | [] => exact ⟨rfl, rfl⟩
  | c :: r =>
    unfold letOk at h
    simp only [List.all_cons, Bool.and_eq_true] at h
    have hc := (isLet_iff c).1 h.2.1
    have hd : isDig c = false := by unfold isDig; rw [decide_eq_true (by omega), decide_eq_false (by omega)]; rfl
    unfold digs digOk
    simp [hd]
theorem digs_of {l : List UInt8} (h : digOk l = true) : digs l = true ∧ letOk l = false ∧ l ≠ [] := by
  have hl : letOk l = false := by
    cases e : letOk l
    · rfl
    · rw [(not_both e).2] at h; cases h
  unfold digOk at h
  simp only [Bool.and_eq_true] at h
  refine ⟨by unfold digs; rw [h.1.1.2, h.1.1.1]; rfl, hl, fun e => by subst e; simp at h⟩
theorem let_ne {l : List UInt8} (h : letOk l = true) : l ≠ [] := fun e => by subst e; simp [letOk] at h
theorem cmpI_self (x : Int) : cmpI x x = 0 := by unfold cmpI; rw [if_neg (by omega), if_neg (by omega)]
theorem cmpW_self (x : List UInt8) : cmpW x x = 0 := by unfold cmpW; rw [if_neg (List.lt_irrefl _), if_neg (List.lt_irrefl _)]
theorem dec_ne {a b : List UInt8} (h : a ≠ b) (h1 : ¬ a < b) : b < a := by
  rcases List.le_total a b with h2 | h2
  · by_cases h3 : b < a
    · exact h3
    · exact absurd (List.le_antisymm h2 (List.not_lt.1 h1)) h
  · by_cases h3 : b < a
    · exact h3
    · exact absurd (List.le_antisymm (List.not_lt.1 h3) (List.not_lt.1 h1)) h
theorem rk_end : rankOf [] = 1 := rfl
theorem rk_let {l : List UInt8} (h : letOk l = true) : rankOf l = 0 := by unfold rankOf; rw [if_neg (let_ne h), if_pos h]
theorem rk_dig {l : List UInt8} (h : digOk l = true) : rankOf l = 2 := by unfold rankOf; rw [if_neg (digs_of h).2.2, if_neg (by rw [(digs_of h).2.1]; simp)]
theorem pcmp_rank {a b : List UInt8} {x y : Int} (ha : rankOf a = x) (hb : rankOf b = y) (h : cmpI x y ≠ 0) : pcmp a b = cmpI x y := by unfold pcmp; rw [ha, hb, if_pos h]
theorem pcmp_is {a b : List UInt8} (ha : Part a) (hb : Part b) : pcmp a b = if before a b = true then -1 else if before b a = true then 1 else 0 := by
  by_cases hab : a = b
  · subst hab
    unfold pcmp before
    rw [cmpI_self, cmpI_self, cmpW_self]
    simp
  · have hba : ¬ b = a := fun e => hab e.symm
    rcases ha with ha | ha | ha
    · subst ha
      rcases hb with hb | hb | hb
      · subst hb; exact absurd rfl hab
      · have hn := let_ne hb
        have hd := (not_both hb).1
        have e1 : before [] b = false := by unfold before; rw [if_neg hab, if_pos rfl]; exact hd
        have e2 : before b [] = true := by unfold before; rw [if_neg hba, if_neg hn, if_pos rfl]; exact hb
        rw [e1, e2, pcmp_rank rk_end (rk_let hb) (by decide)]
        rfl
      · obtain ⟨h1, h2, h3⟩ := digs_of hb
        have e1 : before [] b = true := by unfold before; rw [if_neg hab, if_pos rfl]; exact h1
        rw [e1, pcmp_rank rk_end (rk_dig hb) (by decide)]
        rfl
    · have hna := let_ne ha
      rcases hb with hb | hb | hb
      · subst hb
        have e1 : before a [] = true := by unfold before; rw [if_neg hab, if_neg hna, if_pos rfl]; exact ha
        rw [e1, pcmp_rank (rk_let ha) rk_end (by decide)]
        rfl
      · have hnb := let_ne hb
        have hda := (not_both ha).1
        have hdb := (not_both hb).1
        have e1 : before a b = decide (a < b) := by unfold before; rw [if_neg hab, if_neg hna, if_neg hnb, if_neg (by rw [ha, hb]; simp), hda]; rfl
        have e2 : before b a = decide (b < a) := by unfold before; rw [if_neg hba, if_neg hnb, if_neg hna, if_neg (by rw [ha, hb]; simp), hdb]; rfl
        rw [e1, e2]
        unfold pcmp rankOf numOf wordOf cmpW
        simp only [if_neg hna, if_neg hnb, if_pos ha, if_pos hb, cmpI_self, ne_eq, not_true_eq_false, if_false, decide_eq_true_eq]
      · obtain ⟨h1, h2, h3⟩ := digs_of hb
        have e1 : before a b = true := by unfold before; rw [if_neg hab, if_neg hna, if_neg h3, if_pos (by rw [ha, h2]; simp)]; exact ha
        rw [e1, pcmp_rank (rk_let ha) (rk_dig hb) (by decide)]
        rfl
    · obtain ⟨g1, g2, g3⟩ := digs_of ha
      rcases hb with hb | hb | hb
      · subst hb
        have e1 : before a [] = false := by unfold before; rw [if_neg hab, if_neg g3, if_pos rfl]; exact g2
        have e2 : before [] a = true := by unfold before; rw [if_neg hba, if_pos rfl]; exact g1
        rw [e1, e2, pcmp_rank (rk_dig ha) rk_end (by decide)]
        rfl
      · have hnb := let_ne hb
        have e1 : before a b = false := by unfold before; rw [if_neg hab, if_neg g3, if_neg hnb, if_pos (by rw [g2, hb]; simp)]; exact g2
        have e2 : before b a = true := by unfold before; rw [if_neg hba, if_neg hnb, if_neg g3, if_pos (by rw [g2, hb]; simp)]; exact hb
        rw [e1, e2, pcmp_rank (rk_dig ha) (rk_let hb) (by decide)]
        rfl
      · obtain ⟨h1, h2, h3⟩ := digs_of hb
        have l1 := dig_lt ha hb
        have l2 := dig_lt hb ha
        have e1 : before a b = true ↔ valFrom 0 a < valFrom 0 b := by
          unfold before
          rw [if_neg hab, if_neg g3, if_neg h3, if_neg (by rw [g2, h2]; simp), g1, l1]
          by_cases hl : a.length = b.length
          · simp [hl]
          · simp [hl]
        have e2 : before b a = true ↔ valFrom 0 b < valFrom 0 a := by
          unfold before
          rw [if_neg hba, if_neg h3, if_neg g3, if_neg (by rw [g2, h2]; simp), h1, l2]
          by_cases hl : b.length = a.length
          · simp [hl]
          · simp [hl]
        have hne : valFrom 0 a ≠ valFrom 0 b := fun e => by
          have n1 : ¬ (a.length < b.length ∨ (a.length = b.length ∧ a < b)) := fun h => by have := l1.2 h; omega
          have n2 : ¬ (b.length < a.length ∨ (b.length = a.length ∧ b < a)) := fun h => by have := l2.2 h; omega
          have hl : a.length = b.length := by omega
          exact n2 (.inr ⟨hl.symm, dec_ne hab fun h => n1 (.inr ⟨hl, h⟩)⟩)
        have na : numOf a = (valFrom 0 a : Int) := by unfold numOf; rw [if_neg (by rw [g2]; simp)]
        have nb : numOf b = (valFrom 0 b : Int) := by unfold numOf; rw [if_neg (by rw [h2]; simp)]
        have hp : ∀ z, cmpI (valFrom 0 a : Int) (valFrom 0 b : Int) = z → z ≠ 0 → pcmp a b = z := fun z hz h0 => by
          unfold pcmp
          rw [rk_dig ha, rk_dig hb, cmpI_self, if_neg (by simp), na, nb, hz, if_pos h0]
        rcases Nat.lt_or_gt_of_ne hne with h | h
        · rw [if_pos (e1.2 h)]
          exact hp (-1) (by unfold cmpI; rw [if_pos (by omega)]) (by decide)
        · rw [if_neg (fun h' => by have := e1.1 h'; omega), if_pos (e2.2 h)]
          exact hp 1 (by unfold cmpI; rw [if_neg (by omega), if_pos (by omega)]) (by decide)
end Go.Proofs.YtblkdcapampniaaDoor.VerN
