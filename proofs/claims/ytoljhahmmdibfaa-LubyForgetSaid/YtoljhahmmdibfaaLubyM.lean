/- Plain facts of Luby's row over natural numbers: its value at a number, that it is a power of two, its bound, its sums. No condition. -/
import Derived.Lib.BitFns
set_option linter.unusedVariables false
set_option linter.unusedSimpArgs false
namespace Go.Proofs.Ytoljhahmmdibfaa.LubyM
open Go

/-- the greatest power of two that is at most n -/
def half (n : Nat) : Nat := 2 ^ Nat.log2 n

theorem half_pos (n : Nat) : 1 ≤ half n := Nat.one_le_two_pow
theorem half_le (n : Nat) (h : 1 ≤ n) : half n ≤ n := Nat.log2_self_le (by omega)
theorem half_lt (n : Nat) : n < 2 * half n := by
  unfold half; rw [← Nat.pow_succ']; exact Nat.lt_log2_self

theorem aux_bounds : ∀ (f x : Nat), x < 2 ^ f → x ≠ 0 → 1 ≤ Lib.bitLenAux f x ∧ 2 ^ (Lib.bitLenAux f x - 1) ≤ x ∧ x < 2 ^ Lib.bitLenAux f x
  | 0, x, h, h0 => by simp at h; omega
  | f + 1, x, h, h0 => by
    show 1 ≤ (if x = 0 then 0 else 1 + Lib.bitLenAux f (x / 2)) ∧ 2 ^ ((if x = 0 then 0 else 1 + Lib.bitLenAux f (x / 2)) - 1) ≤ x ∧ x < 2 ^ (if x = 0 then 0 else 1 + Lib.bitLenAux f (x / 2))
    rw [if_neg h0]
    have e : 2 ^ (f + 1) = 2 * 2 ^ f := Nat.pow_succ'
    by_cases h1 : x / 2 = 0
    · have : x = 1 := by omega
      subst this
      have z : Lib.bitLenAux f 0 = 0 := by cases f <;> simp [Lib.bitLenAux]
      rw [show 1 / 2 = 0 from rfl, z]
      decide
    · obtain ⟨a, b, c⟩ := aux_bounds f (x / 2) (by omega) h1
      have e2 : 2 ^ (1 + Lib.bitLenAux f (x / 2)) = 2 * 2 ^ Lib.bitLenAux f (x / 2) := by rw [Nat.add_comm]; exact Nat.pow_succ'
      have e3 : 2 ^ (1 + Lib.bitLenAux f (x / 2) - 1) = 2 * 2 ^ (Lib.bitLenAux f (x / 2) - 1) := by
        rw [show 1 + Lib.bitLenAux f (x / 2) - 1 = (Lib.bitLenAux f (x / 2) - 1) + 1 from by omega]; exact Nat.pow_succ'
      rw [e2, e3]
      omega

theorem bitLen_log2 (n : Nat) (h : 1 ≤ n) (h2 : n < 2 ^ 64) : Lib.bitLen n = Nat.log2 n + 1 := by
  have hb := aux_bounds 64 n h2 (by omega)
  obtain ⟨h1, h3, h4⟩ := hb
  show Lib.bitLenAux 64 n = _
  have : n.log2 = Lib.bitLenAux 64 n - 1 := by
    rw [Nat.log2_eq_iff (by omega)]
    refine ⟨h3, ?_⟩
    rwa [Nat.sub_add_cancel h1]
  omega

theorem half_gt1 (n : Nat) (h : 1 ≤ n) (hn : n ≠ 2 * half n - 1) : 2 ≤ half n := by
  have := half_pos n; have := half_lt n; have := half_le n h
  omega

def luby (n : Nat) : Nat :=
  if h : n = 0 then 0 else if h2 : n = 2 * half n - 1 then half n else luby (n - (half n - 1))
termination_by n
decreasing_by have := half_gt1 n (by omega) h2; omega

theorem luby_zero : luby 0 = 0 := by rw [luby]; simp
theorem luby_hit (n : Nat) (h : 1 ≤ n) (h2 : n = 2 * half n - 1) : luby n = half n := by
  rw [luby, dif_neg (by omega), dif_pos h2]
theorem luby_step (n : Nat) (h : 1 ≤ n) (h2 : n ≠ 2 * half n - 1) : luby n = luby (n - (half n - 1)) := by
  rw [luby, dif_neg (by omega), dif_neg h2]

theorem luby_pow (n : Nat) (h : 1 ≤ n) : ∃ j, luby n = 2 ^ j ∧ 2 ^ j ≤ n / 2 + 1 := by
  induction n using Nat.strongRecOn with
  | _ n ih =>
    by_cases h2 : n = 2 * half n - 1
    · rw [luby_hit n h h2]
      refine ⟨n.log2, rfl, ?_⟩
      have := half_pos n
      show half n ≤ _
      omega
    · rw [luby_step n h h2]
      have g := half_gt1 n h h2
      have g2 := half_le n h
      obtain ⟨j, hj, hl⟩ := ih (n - (half n - 1)) (by omega) (by omega)
      exact ⟨j, hj, by omega⟩

theorem luby_pos (n : Nat) (h : 1 ≤ n) : 1 ≤ luby n := by
  obtain ⟨j, hj, _⟩ := luby_pow n h
  rw [hj]; exact Nat.one_le_two_pow
theorem luby_le (n : Nat) : luby n ≤ n := by
  by_cases h : n = 0
  · subst h; rw [luby_zero]; omega
  · obtain ⟨j, hj, hl⟩ := luby_pow n (by omega)
    rw [hj]
    by_cases h1 : n = 1
    · subst h1; omega
    · omega

theorem half_of (n k : Nat) (h1 : 2 ^ k ≤ n) (h2 : n < 2 ^ (k + 1)) : half n = 2 ^ k := by
  have hn : n ≠ 0 := by have := @Nat.one_le_two_pow k; omega
  unfold half
  rw [(Nat.log2_eq_iff hn).2 ⟨h1, h2⟩]

/-- the sum of the first n of the row, and how many of them are 1 -/
def sum : Nat → Nat
  | 0 => 0
  | n + 1 => sum n + luby (n + 1)
def ones : Nat → Nat
  | 0 => 0
  | n + 1 => ones n + if luby (n + 1) = 1 then 1 else 0

/-- behind the first 2^k - 1 the row begins anew, up to its next power -/
theorem luby_again (k j : Nat) (h : j < 2 ^ k) (h0 : 1 ≤ j) : luby (2 ^ k - 1 + j) = luby j := by
  by_cases hk : k = 0
  · subst hk; simp at h; omega
  have e : 2 ^ (k + 1) = 2 * 2 ^ k := Nat.pow_succ'
  by_cases hj : j = 0
  · omega
  · have hh : half (2 ^ k - 1 + j) = 2 ^ k := half_of _ k (by omega) (by omega)
    rw [luby_step _ (by omega) (by rw [hh]; omega), hh]
    congr 1
    omega

theorem luby_top (k : Nat) : luby (2 ^ (k + 1) - 1) = 2 ^ k := by
  have e : 2 ^ (k + 1) = 2 * 2 ^ k := Nat.pow_succ'
  have p := @Nat.one_le_two_pow k
  have hh : half (2 ^ (k + 1) - 1) = 2 ^ k := half_of _ k (by omega) (by omega)
  rw [luby_hit _ (by omega) (by rw [hh]; omega), hh]

theorem sum_again (k j : Nat) (h : j < 2 ^ k) : sum (2 ^ k - 1 + j) = sum (2 ^ k - 1) + sum j := by
  induction j with
  | zero => rfl
  | succ j ih =>
    show sum (2 ^ k - 1 + j) + luby (2 ^ k - 1 + j + 1) = _
    have e : 2 ^ k - 1 + j + 1 = 2 ^ k - 1 + (j + 1) := by omega
    rw [ih (by omega), e, luby_again k (j + 1) h (by omega)]
    show _ = _ + (sum j + luby (j + 1))
    omega
theorem ones_again (k j : Nat) (h : j < 2 ^ k) : ones (2 ^ k - 1 + j) = ones (2 ^ k - 1) + ones j := by
  induction j with
  | zero => rfl
  | succ j ih =>
    show ones (2 ^ k - 1 + j) + (if luby (2 ^ k - 1 + j + 1) = 1 then 1 else 0) = _
    have e : 2 ^ k - 1 + j + 1 = 2 ^ k - 1 + (j + 1) := by omega
    rw [ih (by omega), e, luby_again k (j + 1) h (by omega)]
    show _ = _ + (ones j + if luby (j + 1) = 1 then 1 else 0)
    omega

theorem sum_top (k : Nat) : sum (2 ^ k - 1) = k * 2 ^ (k - 1) := by
  induction k with
  | zero => rfl
  | succ k ih =>
    have e : 2 ^ (k + 1) = 2 * 2 ^ k := Nat.pow_succ'
    have p := @Nat.one_le_two_pow k
    have h1 : 2 ^ (k + 1) - 1 = 2 ^ k - 1 + (2 ^ k - 1) + 1 := by omega
    have h2 : sum (2 ^ (k + 1) - 1) = sum (2 ^ k - 1 + (2 ^ k - 1)) + luby (2 ^ (k + 1) - 1) := by
      rw [h1]; rfl
    rw [h2, luby_top, sum_again k _ (by omega), ih]
    cases k with
    | zero => rfl
    | succ m =>
      have e2 : 2 ^ (m + 1) = 2 * 2 ^ m := Nat.pow_succ'
      simp only [Nat.add_sub_cancel]
      rw [e2]
      generalize 2 ^ m = q
      have : (m + 1 + 1) * (2 * q) = (m + 1) * q + (m + 1) * q + 2 * q := by
        rw [Nat.add_mul (m + 1) 1, Nat.one_mul, Nat.mul_left_comm]; omega
      omega
theorem ones_top (k : Nat) (h : 1 ≤ k) : ones (2 ^ k - 1) = 2 ^ (k - 1) := by
  induction k with
  | zero => omega
  | succ k ih =>
    have e : 2 ^ (k + 1) = 2 * 2 ^ k := Nat.pow_succ'
    have p := @Nat.one_le_two_pow k
    have h1 : 2 ^ (k + 1) - 1 = 2 ^ k - 1 + (2 ^ k - 1) + 1 := by omega
    have h2 : ones (2 ^ (k + 1) - 1) = ones (2 ^ k - 1 + (2 ^ k - 1)) + if luby (2 ^ (k + 1) - 1) = 1 then 1 else 0 := by
      rw [h1]; rfl
    rw [h2, luby_top, ones_again k _ (by omega)]
    cases k with
    | zero => rfl
    | succ m =>
      rw [ih (by omega)]
      have e2 : 2 ^ (m + 1) = 2 * 2 ^ m := Nat.pow_succ'
      have p2 := @Nat.one_le_two_pow m
      simp only [Nat.add_sub_cancel]
      rw [if_neg (by omega)]
      omega
end Go.Proofs.Ytoljhahmmdibfaa.LubyM
