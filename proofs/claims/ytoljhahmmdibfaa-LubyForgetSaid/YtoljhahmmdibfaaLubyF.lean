/- The walk of cooperlaw20's fixed: it returns true, and writes to nothing that was there. No condition. -/
import Derived.Test.YtoljhahmmdibfaaLubyW
set_option linter.unusedVariables false
set_option linter.unusedSimpArgs false
namespace Go.Proofs.Ytoljhahmmdibfaa
open Go.RowKit LubyM
theorem luby_1 : luby 1 = 1 := by rw [luby_hit 1 (by omega) (by decide +kernel)]; decide +kernel
theorem luby_2 : luby 2 = 1 := by rw [luby_step 2 (by omega) (by decide +kernel), show 2 - (half 2 - 1) = 1 by decide +kernel, luby_1]
theorem luby_3 : luby 3 = 2 := by rw [luby_hit 3 (by omega) (by decide +kernel)]; decide +kernel
theorem luby_4 : luby 4 = 1 := by rw [luby_step 4 (by omega) (by decide +kernel), show 4 - (half 4 - 1) = 1 by decide +kernel, luby_1]
theorem luby_5 : luby 5 = 1 := by rw [luby_step 5 (by omega) (by decide +kernel), show 5 - (half 5 - 1) = 2 by decide +kernel, luby_2]
theorem luby_6 : luby 6 = 2 := by rw [luby_step 6 (by omega) (by decide +kernel), show 6 - (half 6 - 1) = 3 by decide +kernel, luby_3]
theorem luby_7 : luby 7 = 4 := by rw [luby_hit 7 (by omega) (by decide +kernel)]; decide +kernel
def wants : List Nat := [1, 1, 2, 1, 1, 2, 4]
theorem rowOf_want : ∀ k : Nat, k < 7 → rowOf ((k : Int) + 1) = ((wants.getD k 0 : Nat) : Int) := by
  intro k hk
  have : k = 0 ∨ k = 1 ∨ k = 2 ∨ k = 3 ∨ k = 4 ∨ k = 5 ∨ k = 6 := by omega
  rcases this with rfl | rfl | rfl | rfl | rfl | rfl | rfl <;>
    (unfold rowOf; rw [if_neg (by omega)]; simp [wants, luby_1, luby_2, luby_3, luby_4, luby_5, luby_6, luby_7])
theorem cell_want (w : World) (k : Nat) (hk : k < 7) :
   (w.alloc (.cells #[.int .i64 1, .int .i64 1, .int .i64 2, .int .i64 1, .int .i64 1, .int .i64 2, .int .i64 4] 3)).cell? ⟨w.heap.size, k, none⟩ = some (.int .i64 ((wants.getD k 0 : Nat) : Int)) := by
  have : k = 0 ∨ k = 1 ∨ k = 2 ∨ k = 3 ∨ k = 4 ∨ k = 5 ∨ k = 6 := by omega
  rcases this with rfl | rfl | rfl | rfl | rfl | rfl | rfl <;> simp [wants]
set_option maxHeartbeats 400000 in
theorem fixed20 (w : World) : Calls Try.prog 27 #[] w fun e w' => e = .returned (.bool true) ∧ Below w.heap.size w w' := by
  have hz : rowOf 0 = 0 := rfl
  go_enter Try.func27, Try.ntmps27
  go_wp2_with fail
  go_loop [5] (fun t => ∃ k : Nat, k ≤ 7 ∧ t = .int .i64 k) (fun t => (7 - (intOf t)).toNat)
  case atStart => exact ⟨0, by omega, rfl⟩
  case round =>
    obtain ⟨k, hk, rfl⟩ := hrel
    by_cases h7 : k < 7
    · have hc := cell_want w k h7
      have hr := rowOf_want k h7
      go_wp2_with (go_at_call 26; refine (row_any _ _ (by omega)).mono ?_; rintro e w' ⟨rfl, rfl⟩)
      go_round
      case rel => exact ⟨k + 1, by omega, by go_num⟩
      case measure => simp [intOf]; omega
    · go_wp2_with (go_at_call 26; refine (row_any _ _ (by omega)).mono ?_; rintro e w' ⟨rfl, rfl⟩)
      go_ret
      exact ⟨rfl, (Below.refl _ _).alloc (Nat.le_refl _) _⟩
end Go.Proofs.Ytoljhahmmdibfaa
