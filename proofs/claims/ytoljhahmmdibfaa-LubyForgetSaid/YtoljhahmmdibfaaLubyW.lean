/- The walk of luby.Row: it returns Luby's row at its argument, and leaves the world alone. No condition. -/
import Derived.Test.YtoljhahmmdibfaaRows
import Derived.Test.YtoljhahmmdibfaaShelf
import Derived.Test.YtoljhahmmdibfaaLubyM
import Derived.Test.YtoljhahmmdibfaaKit
set_option linter.unusedVariables false
set_option linter.unusedSimpArgs false
namespace Go.Proofs.Ytoljhahmmdibfaa
open Go.RowKit LubyM
theorem pow63 (j : Nat) (h : j < 63) : (2 : Int) ^ j ≤ 4611686018427387904 ∧ 1 ≤ (2 : Int) ^ j := by
  have h1 : 2 ^ j ≤ 2 ^ 62 := Nat.pow_le_pow_right (by omega) (by omega)
  have h2 : 1 ≤ 2 ^ j := Nat.one_le_two_pow
  have e : (2 : Int) ^ j = ((2 ^ j : Nat) : Int) := by simp
  rw [e]
  omega
theorem cast_half (m : Nat) : (2 : Int) ^ m.log2 = (half m : Int) := by unfold half; simp
theorem wrap64_half (m : Nat) (h : m.log2 < 63) : wrap64 (2 ^ m.log2) = (half m : Int) := by
  have := pow63 _ h
  rw [IntWalk.wrap64_in _ (by omega), cast_half]
theorem u64_half (m : Nat) (h : m.log2 < 63) : IntKind.u64.wrap (IntKind.u64.wrap (2 ^ (m.log2 + 1)) - 1) = 2 * (half m : Int) - 1 := by
  have := pow63 _ h
  have e : (2 : Int) ^ (m.log2 + 1) = 2 * 2 ^ m.log2 := by rw [Int.pow_succ]; omega
  rw [e, IntWalk.u64_in (2 * 2 ^ m.log2) (by omega), IntWalk.u64_in _ (by omega), cast_half]
theorem log2_63 (m : Nat) (h1 : 1 ≤ m) (h : m ≤ 9223372036854775807) : m.log2 < 63 := by
  have := half_le m h1
  refine (Nat.pow_lt_pow_iff_right (a := 2) (by omega)).1 ?_
  exact Nat.lt_of_le_of_lt this (by omega)
theorem step_val (m : Nat) (h1 : 1 ≤ m) (h : m ≤ 9223372036854775807) :
    wrap64 ((m : Int) - wrap64 (wrap64 (2 ^ m.log2) - 1)) = ((m - (half m - 1) : Nat) : Int) := by
  have g1 := half_le m h1
  have g2 := half_pos m
  rw [wrap64_half m (log2_63 m h1 h), IntWalk.wrap64_in ((half m : Int) - 1) (by omega), IntWalk.wrap64_in _ (by omega)]
  omega

set_option maxHeartbeats 400000 in
theorem row_neg (a : Int) (w : World) (h : a < 1) :
    Calls Try.prog 26 #[.int .i64 a] w fun e w' => e = .returned (.int .i64 0) ∧ w' = w := by
  go_enter Try.func26, Try.ntmps26
  go_wp2
  go_ret
  exact ⟨rfl, rfl⟩

set_option maxHeartbeats 400000 in
theorem row_pos (n : Nat) (w : World) (h : 1 ≤ n) (h2 : n ≤ 9223372036854775807) :
    Calls Try.prog 26 #[.int .i64 n] w fun e w' => e = .returned (.int .i64 (luby n)) ∧ w' = w := by
  have h1 : ¬ ((n : Int) < 1) := by omega
  go_enter Try.func26, Try.ntmps26
  go_wp2_with fail
  go_loop [0] (fun t => ∃ m : Nat, 1 ≤ m ∧ m ≤ n ∧ t = .int .i64 m ∧ Hid (luby m = luby n)) (fun t => (intOf t).toNat)
  case atStart => exact ⟨n, h, Nat.le_refl _, rfl, rfl⟩
  case round =>
    obtain ⟨m, hm1, hm2, rfl, hl⟩ := hrel
    have hb := bitLen_log2 m hm1 (by omega)
    have hlog : m.log2 < 63 := log2_63 m hm1 (by omega)
    go_wp2_with (go_at_call 44; refine (Try.bits_Len _ _ (by omega) (by omega)).mono ?_; rintro e w' ⟨rfl, rfl⟩)
    · go_ret
      have ht : ((m : Int) == IntKind.u64.wrap (IntKind.u64.wrap (2 ^ (m.log2 + 1)) - 1)) = true := by assumption
      rw [u64_half m hlog, beq_iff_eq] at ht
      have := half_pos m
      exact ⟨ret_int (by rw [wrap64_half m hlog, ← hl.out, luby_hit m hm1 (by omega)]), rfl⟩
    · have ht : ((m : Int) == IntKind.u64.wrap (IntKind.u64.wrap (2 ^ (m.log2 + 1)) - 1)) = false := by assumption
      rw [u64_half m hlog, beq_eq_false_iff_ne] at ht
      have g0 := half_pos m
      have hne : m ≠ 2 * half m - 1 := by omega
      have g1 := half_le m hm1
      have g2 := half_gt1 m hm1 hne
      have hs := step_val m hm1 (by omega)
      refine ⟨⟨m - (half m - 1), by omega, by omega, by rw [hs], ?_⟩, ?_⟩
      · show luby _ = luby n
        rw [← hl.out, luby_step m hm1 hne]
      · show (intOf _).toNat < (intOf _).toNat
        rw [hs]
        simp only [intOf]
        omega

/-- luby.Row at whatever number -/
def rowOf (a : Int) : Int := if a < 1 then 0 else (luby a.toNat : Int)
theorem row_any (a : Int) (w : World) (h : a ≤ 9223372036854775807) :
    Calls Try.prog 26 #[.int .i64 a] w fun e w' => e = .returned (.int .i64 (rowOf a)) ∧ w = w' := by
  by_cases h1 : a < 1
  · refine (row_neg a w h1).mono ?_
    rintro e w' ⟨rfl, rfl⟩
    exact ⟨ret_int (by unfold rowOf; rw [if_pos h1]), rfl⟩
  · obtain ⟨n, rfl⟩ := Int.eq_ofNat_of_zero_le (show 0 ≤ a by omega)
    refine (row_pos n w (by omega) (by omega)).mono ?_
    rintro e w' ⟨rfl, rfl⟩
    exact ⟨ret_int (by unfold rowOf; rw [if_neg h1]; rfl), rfl⟩
end Go.Proofs.Ytoljhahmmdibfaa
