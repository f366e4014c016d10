/- Plain facts of clauses' forms: what sorting, and leaving out what stands twice, gives. No condition. -/
import Derived.Lib.SlicesCompact
import Derived.Sort.LotA
import Derived.Lib.Small
import Derived.RowKit
set_option linter.unusedVariables false
set_option linter.unusedSimpArgs false
namespace Go.Proofs.YtalliggdfoeahaaGreatDoor.CnfM
open Go.Lib Go.Sort Go.RowKit

/-- the least number -/
def low : Int := -9223372036854775808
def neg (x : Int) : Int := wrap64 (-x)
def ab (x : Int) : Int := max x (neg x)
def wrong (n : Int) : Bool := n == 0 || n == low
/-- how two literals stand to each other -/
def cf (a b : Int) : Int := if compareInt (ab a) (ab b) ≠ 0 then compareInt (ab a) (ab b) else compareInt a b
def lt (a b : Int) : Bool := decide (cf a b < 0)
theorem lt_iff (a b : Int) : lt a b = true ↔ ab a < ab b ∨ (ab a = ab b ∧ a < b) := by
  unfold lt cf compareInt
  rw [decide_eq_true_iff]
  repeat' split
  all_goals omega
theorem swo : SWO lt where
  irrefl x := by
    rw [Bool.eq_false_iff]; intro h; rw [lt_iff] at h; omega
  trans x y z h1 h2 := by rw [lt_iff] at *; omega
  ntrans x y z h1 h2 := by
    rw [Bool.eq_false_iff] at *
    simp only [ne_eq, lt_iff] at *
    omega
theorem total (x y : Int) (h1 : lt x y = false) (h2 : lt y x = false) : x = y := by
  rw [Bool.eq_false_iff] at *
  simp only [ne_eq, lt_iff] at *
  omega

/-- strictly rising -/
abbrev Up (l : List Int) : Prop := l.Pairwise fun a b => lt a b = true
theorem up_unique : ∀ (a b : List Int), Up a → Up b → (∀ x, x ∈ a ↔ x ∈ b) → a = b
  | [], [], _, _, _ => rfl
  | [], y :: b, _, _, h => by have := (h y).2 (by simp); simp at this
  | x :: a, [], _, _, h => by have := (h x).1 (by simp); simp at this
  | x :: a, y :: b, ha, hb, h => by
    have h1 := List.pairwise_cons.1 ha
    have h2 := List.pairwise_cons.1 hb
    have e : x = y := by
      have hx := (h x).1 (by simp)
      have hy := (h y).2 (by simp)
      rcases List.mem_cons.1 hx with e | hx
      · exact e
      · rcases List.mem_cons.1 hy with e | hy
        · exact e.symm
        · have q1 := h1.1 y hy
          have q2 := h2.1 x hx
          rw [lt_iff] at q1 q2
          omega
    subst e
    congr 1
    refine up_unique a b h1.2 h2.2 fun z => ⟨fun hz => ?_, fun hz => ?_⟩
    · rcases List.mem_cons.1 ((h z).1 (by simp [hz])) with e | q
      · subst e
        have := h1.1 z hz
        rw [lt_iff] at this; omega
      · exact q
    · rcases List.mem_cons.1 ((h z).2 (by simp [hz])) with e | q
      · subst e
        have := h2.1 z hz
        rw [lt_iff] at this; omega
      · exact q

def srt (l : List Int) : List Int := l.mergeSort fun x y => !lt y x
theorem srt_perm (l : List Int) : (srt l).Perm l := List.mergeSort_perm _ _
theorem srt_sorted (l : List Int) : (srt l).Pairwise fun x y => lt y x = false := by
  have := List.pairwise_mergeSort (le := fun x y => !lt y x) (fun a b c h1 h2 => by
    simp only [Bool.not_eq_true', Bool.eq_false_iff, ne_eq, lt_iff] at *; omega) (fun a b => by
    simp only [Bool.or_eq_true, Bool.not_eq_true', Bool.eq_false_iff, ne_eq, lt_iff]; omega) l
  exact this.imp fun h => by simpa using h
/-- without what stands twice -/
def cpt (l : List Int) : List Int := compactUpTo l.toArray l.length

theorem cpt_mem_upto (d : Array Int) : ∀ m, (∀ i, i < m → d[i]! ∈ compactUpTo d m) ∧ (∀ x ∈ compactUpTo d m, ∃ j, j < m ∧ x = d[j]!)
  | 0 => ⟨fun i h => by omega, fun x h => by simp [compactUpTo] at h⟩
  | m + 1 => by
    obtain ⟨h1, h2⟩ := cpt_mem_upto d m
    rw [compactUpTo_succ]
    refine ⟨fun i hi => ?_, fun x hx => ?_⟩
    · by_cases e : i = m
      · subst e
        by_cases hk : keeps d i = true
        · simp [hk]
        · have hi0 : i ≠ 0 := by
            intro h0; subst h0; simp [keeps] at hk
          have hd : d[i]! = d[i - 1]! := by
            simp [keeps, hi0] at hk
            exact hk
          rw [hd]
          exact List.mem_append_left _ (h1 (i - 1) (by omega))
      · exact List.mem_append_left _ (h1 i (by omega))
    · rcases List.mem_append.1 hx with hx | hx
      · obtain ⟨j, hj, e⟩ := h2 x hx
        exact ⟨j, by omega, e⟩
      · split at hx
        · simp at hx
          exact ⟨m, by omega, hx⟩
        · simp at hx
theorem cpt_mem (l : List Int) (x : Int) : x ∈ cpt l ↔ x ∈ l := by
  obtain ⟨h1, h2⟩ := cpt_mem_upto l.toArray l.length
  unfold cpt
  constructor
  · intro h
    obtain ⟨j, hj, e⟩ := h2 x h
    rw [e, getElem!_pos _ _ (by simpa using hj)]
    simp
  · intro h
    obtain ⟨j, hj, e⟩ := List.mem_iff_getElem.1 h
    have := h1 j hj
    rw [getElem!_pos _ _ (by simpa using hj)] at this
    simp only [List.getElem_toArray] at this
    rw [← e]; exact this
theorem cpt_up_upto (d : Array Int) (hs : ∀ i j, i < j → j < d.size → lt d[j]! d[i]! = false) : ∀ m, m ≤ d.size → Up (compactUpTo d m)
  | 0, _ => by simp [compactUpTo]
  | m + 1, hm => by
    have ih := cpt_up_upto d hs m (by omega)
    rw [compactUpTo_succ]
    split
    · rename_i hk
      refine List.pairwise_append.2 ⟨ih, by simp, fun a ha b hb => ?_⟩
      simp at hb
      subst hb
      obtain ⟨j, hj, e⟩ := (cpt_mem_upto d m).2 a ha
      subst e
      by_cases h0 : m = 0
      · omega
      · have hne : d[m]! ≠ d[m - 1]! := by
          unfold keeps at hk
          simp [h0] at hk
          exact hk
        have q1 := hs (m - 1) m (by omega) (by omega)
        have q3 : lt d[m - 1]! d[m]! = true := by
          cases hq : lt d[m - 1]! d[m]! with
          | true => rfl
          | false => exact absurd (total _ _ q1 hq) hne
        by_cases e : j = m - 1
        · rw [e]; exact q3
        · have q2 := hs j (m - 1) (by omega) (by omega)
          rw [Bool.eq_false_iff, ne_eq, lt_iff] at q2
          rw [lt_iff] at q3 ⊢
          omega
    · simpa using ih
theorem cpt_up (l : List Int) (hs : l.Pairwise fun x y => lt y x = false) : Up (cpt l) := by
  refine cpt_up_upto l.toArray (fun i j hij hj => ?_) _ (by simp)
  have hj' : j < l.length := by simpa using hj
  have e1 : l.toArray[j]! = l[j] := by rw [getElem!_pos l.toArray j hj]; simp
  have e2 : l.toArray[i]! = l[i] := by rw [getElem!_pos l.toArray i (by simp; omega)]; simp
  rw [e1, e2]
  exact List.pairwise_iff_getElem.1 hs i j (by omega) hj' hij

/-- two neighbours are opposite -/
def bad : List Int → Bool
  | a :: b :: l => b == neg a || bad (b :: l)
  | _ => false
/-- a clause's form -/
def form (l : List Int) : List Int × Bool := if l.any wrong then ([], false) else if bad (cpt (srt l)) then ([], false) else (cpt (srt l), true)
theorem row_up (l : List Int) : Up (cpt (srt l)) := cpt_up _ (srt_sorted l)
theorem row_mem (l : List Int) (x : Int) : x ∈ cpt (srt l) ↔ x ∈ l := by rw [cpt_mem]; exact (srt_perm l).mem_iff
theorem row_is (l r : List Int) (h1 : Up r) (h2 : ∀ x, x ∈ r ↔ x ∈ l) : cpt (srt l) = r := up_unique _ _ (row_up l) h1 fun x => (row_mem l x).trans (h2 x).symm
theorem form_same (l r : List Int) (h : ∀ x, x ∈ r ↔ x ∈ l) : form r = form l := by
  have e : cpt (srt r) = cpt (srt l) := up_unique _ _ (row_up r) (row_up l) fun x => (row_mem r x).trans ((h x).trans (row_mem l x).symm)
  have e2 : r.any wrong = l.any wrong := by
    rw [Bool.eq_iff_iff, List.any_eq_true, List.any_eq_true]
    exact ⟨fun ⟨x, h1, h2⟩ => ⟨x, (h x).1 h1, h2⟩, fun ⟨x, h1, h2⟩ => ⟨x, (h x).2 h1, h2⟩⟩
  unfold form
  rw [e, e2]
theorem srt_len (l : List Int) : (srt l).length = l.length := (srt_perm l).length_eq
theorem cptUpTo_len (d : Array Int) (m : Nat) : (compactUpTo d m).length ≤ m := by
  unfold compactUpTo
  rw [List.length_map]
  exact Nat.le_trans (List.length_filter_le _ _) (by simp)
theorem row_len (l : List Int) : (cpt (srt l)).length ≤ l.length := by rw [← srt_len l]; exact cptUpTo_len _ _
theorem form_len (l : List Int) : (form l).1.length ≤ l.length := by
  unfold form
  split
  · simp
  · split
    · simp
    · exact row_len l
theorem form_mem (l : List Int) (x : Int) (h : x ∈ (form l).1) : x ∈ l := by
  unfold form at h
  split at h
  · simp at h
  · split at h
    · simp at h
    · exact (row_mem l x).1 h
theorem form_ok (l : List Int) (h : (form l).2 = true) : (form l).1 = cpt (srt l) ∧ l.any wrong = false ∧ bad (cpt (srt l)) = false := by
  unfold form at h ⊢
  split at h
  · simp at h
  · rename_i hw
    split at h
    · simp at h
    · rename_i hb
      rw [if_neg hw, if_neg hb]
      exact ⟨rfl, by simpa using hw, by simpa using hb⟩
theorem form_no (l : List Int) (h : (form l).2 = false) : (form l).1 = [] := by
  unfold form at h ⊢
  split
  · rfl
  · rename_i hw
    split
    · rfl
    · rename_i hb
      rw [if_neg hw, if_neg hb] at h
      simp at h
theorem form_of_up (l r : List Int) (h1 : Up r) (h2 : ∀ x, x ∈ r ↔ x ∈ l) (hw : l.any wrong = false) (hb : bad r = false) : form l = (r, true) := by
  unfold form
  rw [row_is l r h1 h2, hw, hb]
  rfl
end Go.Proofs.YtalliggdfoeahaaGreatDoor.CnfM
