/- Versions with the same parts ahead compare as what is behind does. Conditions: as each says. -/
import Derived.Test.YtblkdcapampniaaDoorVerQ
set_option linter.unusedVariables false
set_option linter.unusedSimpArgs false
/- Plain facts: how versions with the same parts ahead stand to each other, and a version to what is longer. -/
namespace Go.Proofs.YtblkdcapampniaaDoor.VerN
open Go.Lib

theorem pcmp_self (a : List UInt8) : pcmp a a = 0 := by
  unfold pcmp
  rw [cmpI_self, cmpI_self, cmpW_self]
  rfl
theorem getD_app_lt {H A : List (List UInt8)} {i : Nat} (h : i < H.length) : (H ++ A).getD i [] = H.getD i [] := by
  rw [List.getD, List.getD, List.getElem?_append_left h]
theorem getD_app_ge {H A : List (List UInt8)} (i : Nat) : (H ++ A).getD (H.length + i) [] = A.getD i [] := by
  rw [List.getD, List.getD, List.getElem?_append_right (by omega), Nat.add_sub_cancel_left]
theorem from_behind (H A B : List (List UInt8)) : ∀ (n i : Nat), cmpFrom (H ++ A) (H ++ B) (H.length + i) n = cmpFrom A B i n
  | 0, _ => rfl
  | n + 1, i => by
    have e1 : cmpFrom (H ++ A) (H ++ B) (H.length + i) (n + 1) = if pcmp ((H ++ A).getD (H.length + i) []) ((H ++ B).getD (H.length + i) []) ≠ 0 then pcmp ((H ++ A).getD (H.length + i) []) ((H ++ B).getD (H.length + i) []) else cmpFrom (H ++ A) (H ++ B) (H.length + (i + 1)) n := rfl
    rw [e1, getD_app_ge, getD_app_ge, from_behind H A B n (i + 1)]
    rfl
theorem from_ahead (H A B : List (List UInt8)) (n : Nat) : ∀ (m i : Nat), i + m = H.length → cmpFrom (H ++ A) (H ++ B) i (m + n) = cmpFrom A B 0 n
  | 0, i, h => by
    have := from_behind H A B n 0
    rw [Nat.zero_add, show i = H.length + 0 by omega]
    exact this
  | m + 1, i, h => by
    rw [show m + 1 + n = (m + n) + 1 by omega]
    have e1 : cmpFrom (H ++ A) (H ++ B) i (m + n + 1) = if pcmp ((H ++ A).getD i []) ((H ++ B).getD i []) ≠ 0 then pcmp ((H ++ A).getD i []) ((H ++ B).getD i []) else cmpFrom (H ++ A) (H ++ B) (i + 1) (m + n) := rfl
    rw [e1, getD_app_lt (by omega), getD_app_lt (by omega), pcmp_self, if_neg (by simp), from_ahead H A B n m (i + 1) (by omega)]
theorem from_prefix (H A B : List (List UInt8)) (n : Nat) : cmpFrom (H ++ A) (H ++ B) 0 (H.length + n) = cmpFrom A B 0 n := from_ahead H A B n H.length 0 (by omega)
theorem cut_nil (c : UInt8) : cutL c [] = [[]] := rfl
theorem tail_may {h a : List UInt8} (hm : mayL (h ++ 46 :: a) = true) : mayL a = true := by
  obtain ⟨_, h2, h3, h4⟩ := (may_iff _).1 hm
  rw [cutL_join] at h3 h4
  refine (may_iff _).2 ⟨?_, ?_, fun p hp => h3 p (List.mem_append.2 (.inr hp)), ?_⟩
  · rintro rfl
    exact part_ne (h3 [] (List.mem_append.2 (.inr (by rw [cut_nil]; simp)))) rfl
  · rw [List.length_append, List.length_cons] at h2; omega
  · rw [List.length_append] at h4; omega
theorem compare_may {a b : List UInt8} (ha : mayL a = true) (hb : mayL b = true) {N : Nat} (h1 : (cutL 46 a).length ≤ N) (h2 : (cutL 46 b).length ≤ N) : compareL a b = cmpFrom (cutL 46 a) (cutL 46 b) 0 N := by
  unfold compareL
  rw [ha, hb]
  simp only [Bool.true_eq_false, and_self, if_false]
  exact from_any h1 h2
theorem compare_tail {h a b : List UInt8} (ha : mayL (h ++ 46 :: a) = true) (hb : mayL (h ++ 46 :: b) = true) : compareL (h ++ 46 :: a) (h ++ 46 :: b) = compareL a b := by
  have l1 := ((may_iff _).1 (tail_may ha)).2.2.2
  have l2 := ((may_iff _).1 (tail_may hb)).2.2.2
  rw [compare_may (tail_may ha) (tail_may hb) l1 l2, compare_may ha hb (N := (cutL 46 h).length + 8) (by rw [cutL_join, List.length_append]; omega) (by rw [cutL_join, List.length_append]; omega), cutL_join, cutL_join, from_prefix]
/-- the first part -/
def first (l : List UInt8) : List UInt8 := (cutL 46 l).getD 0 []
theorem first_part {a wd : List UInt8} (h : mayL (a ++ 46 :: wd) = true) : partL (first wd) = true := by
  have hl := (cutL_len 46 wd).1
  unfold first
  rw [getD_lt (by omega)]
  obtain ⟨_, _, h3, _⟩ := (may_iff _).1 h
  rw [cutL_join] at h3
  exact h3 _ (List.mem_append.2 (.inr (List.getElem_mem _)))
theorem compare_longer {a wd : List UInt8} (ha : mayL a = true) (hw : mayL (a ++ 46 :: wd) = true) : compareL (a ++ 46 :: wd) a = if letOk (first wd) = true then -1 else 1 := by
  have hl := (cutL_len 46 wd).1
  have l1 := ((may_iff _).1 hw).2.2.2
  rw [cutL_join, List.length_append] at l1
  have hp := first_part hw
  have hpf : pcmp (first wd) [] = if letOk (first wd) = true then -1 else 1 := by
    rcases Bool.or_eq_true _ _ ▸ (show (letOk (first wd) || digOk (first wd)) = true from hp) with h | h
    · rw [if_pos h, pcmp_rank (rk_let h) rk_end (by decide)]; rfl
    · rw [if_neg (by rw [(digs_of h).2.1]; simp), pcmp_rank (rk_dig h) rk_end (by decide)]; rfl
  rw [compare_may hw ha (N := (cutL 46 a).length + 8) (by rw [cutL_join, List.length_append]; omega) (by omega), cutL_join]
  have e : cmpFrom (cutL 46 a ++ cutL 46 wd) (cutL 46 a) 0 ((cutL 46 a).length + 8) = cmpFrom (cutL 46 wd) [] 0 8 := by
    have := from_prefix (cutL 46 a) (cutL 46 wd) [] 8
    rwa [List.append_nil] at this
  rw [e]
  have e2 : cmpFrom (cutL 46 wd) [] 0 8 = if pcmp (first wd) [] ≠ 0 then pcmp (first wd) [] else cmpFrom (cutL 46 wd) [] 1 7 := rfl
  rw [e2, hpf]
  split <;> rfl
/-- a number's digits are one part -/
theorem first_dec (u : Nat) : first (decDigits u) = decDigits u := by
  unfold first cutL
  rw [cutF_none 46 (decDigits u) [] (fun x hx e => by
    have := List.all_eq_true.1 (dec_dig u).1 x hx
    rw [e] at this
    exact absurd this (by decide))]
  rfl
theorem dec_no_let (u : Nat) : letOk (decDigits u) = false := by
  rw [Bool.eq_false_iff]
  intro h
  have := (not_both h).1
  unfold digs at this
  rw [(dec_dig u).1, Bool.true_and] at this
  have h2 := (dec_dig u).2.1
  cases hd : decDigits u with
  | nil => exact h2 hd
  | cons x r => rw [hd] at this; simp at this
theorem not_let_digs {l : List UInt8} (hp : partL l = true) (h : letOk l = false) : digs l = true := by
  unfold partL at hp
  rw [h, Bool.false_or] at hp
  exact (digs_of hp).1
end Go.Proofs.YtblkdcapampniaaDoor.VerN
