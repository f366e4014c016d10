/- The walk of LubySums: it returns true. No condition. -/
import Derived.Test.YtoljhahmmdibfaaLubyF
namespace Go.Proofs.Ytoljhahmmdibfaa
open Go.RowKit LubyM
theorem sum_le (n : Nat) : sum n ≤ n * n := by
  induction n with
  | zero => simp [sum]
  | succ n ih =>
    show sum n + luby (n + 1) ≤ _
    have := luby_le (n + 1)
    rw [Nat.add_mul, Nat.mul_add]
    omega
theorem ones_le (n : Nat) : ones n ≤ n := by
  induction n with
  | zero => simp [ones]
  | succ n ih => show ones n + (if luby (n + 1) = 1 then 1 else 0) ≤ _; split <;> omega
set_option maxHeartbeats 800000 in
theorem lubySums_true (k : Int) (h0 : 0 ≤ k) (h1 : k ≤ 255) (w : World) : Calls Try.prog 7 #[.int .u8 k] w fun e w' => e = .returned (.bool true) ∧ Below w.heap.size w w' := by
  obtain ⟨q, rfl⟩ := Int.eq_ofNat_of_zero_le h0
  obtain ⟨n, hn⟩ : ∃ n : Nat, n = q % 12 + 1 := ⟨_, rfl⟩
  have hn1 : 1 ≤ n ∧ n ≤ 12 := by omega
  have hsum := Lib.hid (sum_top n)
  have hones := Lib.hid (ones_top n hn1.1)
  have hni : (1 + (q : Int) % 12) = (n : Int) := by omega
  have hN := Lib.hid hn
  have hp : 2 ^ n ≤ 4096 ∧ 2 ≤ 2 ^ n := ⟨Nat.pow_le_pow_right (n := 2) (j := 12) (by omega) hn1.2, Nat.pow_le_pow_right (n := 2) (i := 1) (by omega) hn1.1⟩
  clear hn
  go_enter Try.func7, Try.ntmps7
  go_wp2_with fail
  clear hni
  go_loop [4, 5, 6, 7] (fun s o i _ => ∃ k : Nat, 1 ≤ k ∧ k ≤ 2 ^ n ∧ i = .int .i64 k ∧ s = .int .i64 (sum (k - 1)) ∧ o = .int .i64 (ones (k - 1))) (fun _ _ i _ => (4096 - (intOf i)).toNat)
  case atStart => exact ⟨1, by omega, by omega, rfl, rfl, rfl⟩
  case round =>
    obtain ⟨k, hk1, hk2, rfl, rfl, rfl⟩ := hrel
    have hk : rowOf (k : Int) = (luby k : Int) := by unfold rowOf; rw [if_neg (by omega)]; rfl
    have hkl : luby k ≤ 4096 := Nat.le_trans (luby_le k) (by omega)
    have e0 : k - 1 + 1 = k := by omega
    have hs1 : sum k = sum (k - 1) + luby k := by
      have h : sum (k - 1 + 1) = sum (k - 1) + luby (k - 1 + 1) := rfl
      rwa [e0] at h
    have ho1 : ones k = ones (k - 1) + if luby k = 1 then 1 else 0 := by
      have h : ones (k - 1 + 1) = ones (k - 1) + if luby (k - 1 + 1) = 1 then 1 else 0 := rfl
      rwa [e0] at h
    have hs2 : sum (k - 1) ≤ 16777216 := Nat.le_trans (sum_le _) (Nat.le_trans (Nat.mul_le_mul (show k - 1 ≤ 4096 by omega) (show k - 1 ≤ 4096 by omega)) (by decide))
    have ho2 : ones (k - 1) ≤ 4096 := Nat.le_trans (ones_le _) (by omega)
    have HK := Lib.hid hk; have HS := Lib.hid hs1; have HO := Lib.hid ho1; clear hk hs1 ho1 e0
    have hw64 : wrap64 (2 ^ n) = ((2 ^ n : Nat) : Int) := by
      rw [show ((2 : Int) ^ n) = ((2 ^ n : Nat) : Int) by simp]
      exact IntWalk.wrap64_in _ (by omega)
    have HW := Lib.hid hw64; clear hw64
    by_cases hlt : k < 2 ^ n
    · have hltw : (k : Int) < wrap64 (2 ^ n) := by rw [HW.out]; omega
      go_wp2_with (go_at_call 26; refine (row_any _ _ (by omega)).mono ?_; rintro e w' ⟨rfl, rfl⟩)
      · have ht : (rowOf (k : Int) == 1) = true := by assumption
        rw [HK.out, beq_iff_eq] at ht
        have ht' : luby k = 1 := by omega
        go_round
        case rel =>
          refine ⟨k + 1, by omega, by omega, by go_num, ?_, ?_⟩
          · rw [HK.out, IntWalk.wrap64_in _ (by omega), Nat.add_sub_cancel, HS.out]; go_num
          · rw [Nat.add_sub_cancel, HO.out, if_pos ht']; go_num
        case measure => simp [intOf]; omega
      · have ht : (rowOf (k : Int) == 1) = false := by assumption
        rw [HK.out, beq_eq_false_iff_ne] at ht
        have ht' : luby k ≠ 1 := by omega
        go_round
        case rel =>
          refine ⟨k + 1, by omega, by omega, by go_num, ?_, ?_⟩
          · rw [HK.out, IntWalk.wrap64_in _ (by omega), Nat.add_sub_cancel, HS.out]; go_num
          · rw [Nat.add_sub_cancel, HO.out, if_neg ht']; rfl
        case measure => simp [intOf]; omega
    · have hltw : ¬ (k : Int) < wrap64 (2 ^ n) := by rw [HW.out]; omega
      have hke : k = 2 ^ n := by omega
      have HE := Lib.hid hke; clear hke
      have hT1 : (((sum (k - 1) : Nat) : Int) == wrap64 ((n : Int) * 2 ^ (n - 1))) = true := by
        rw [HE.out, hsum.out, show ((n : Int) * 2 ^ (n - 1)) = ((n * 2 ^ (n - 1) : Nat) : Int) by simp, wrap64_nat _ (by rw [HE.out, hsum.out] at hs2; exact Nat.le_trans hs2 (by decide))]
        exact beq_self_eq_true _
      have hT2 : (((ones (k - 1) : Nat) : Int) == wrap64 (2 ^ (n - 1))) = true := by
        rw [HE.out, hones.out, show ((2 : Int) ^ (n - 1)) = ((2 ^ (n - 1) : Nat) : Int) by simp, wrap64_nat _ (by rw [HE.out, hones.out] at ho2; exact Nat.le_trans ho2 (by decide))]
        exact beq_self_eq_true _
      go_wp2_with fail
      refine (fixed20 _).mono ?_
      rintro e w' ⟨rfl, hbel⟩
      go_wp2_with fail
      go_ret
      exact ⟨rfl, hbel⟩
end Go.Proofs.Ytoljhahmmdibfaa
