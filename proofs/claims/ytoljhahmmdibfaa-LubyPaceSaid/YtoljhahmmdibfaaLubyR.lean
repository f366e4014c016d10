/- The walk of cooperref20's Row: it makes the row of the first numbers. Condition: the number is at most 3000. -/
import Derived.Test.YtoljhahmmdibfaaLubyW
namespace Go.Proofs.Ytoljhahmmdibfaa
open Go.RowKit LubyM
def rowVals (k : Nat) : List Value := (List.range k).map fun i => .int .i64 (luby i : Int)
theorem rowVals_len (k : Nat) : (rowVals k).length = k := by simp [rowVals]
theorem rowVals_succ (k : Nat) : rowVals (k + 1) = rowVals k ++ [.int .i64 (luby k : Int)] := by simp [rowVals, List.range_succ]
theorem rowVals_get (k i : Nat) (h : i < k) : (rowVals k)[i]? = some (.int .i64 (luby i : Int)) := by simp [rowVals, h]
theorem elem_ints : Elem Try.prog 35 3 (.int .i64 0) 1 8 := ⟨Try.underlying35, by kernel_rfl, rfl, by decide⟩
theorem half_eq (k h : Nat) (j : Nat) (hj : h = 2 ^ j) (h1 : h ≤ k) (h2 : k < 2 * h) : h = half k := by
  subst hj
  exact (half_of k j h1 (by rw [Nat.pow_succ']; exact h2)).symm
set_option maxHeartbeats 800000 in
theorem refRow (m : Nat) (w : World) (h : m ≤ 3000) :
    Calls Try.prog 25 #[.int .i64 m] w fun e w' => ∃ v, e = .returned v ∧ w'.ownsRow w.heap.size 3 1 v (m + 1) (rowVals (m + 1)) ∧ Below w.heap.size w w' := by
  obtain ⟨B, hB⟩ : ∃ B, B = w.heap.size := ⟨_, rfl⟩
  have h0 : luby 0 = 0 := luby_zero
  have hst : (w.alloc (.cells #[.int .i64 0] 3)).ownsRow B 3 1 (.slice (some ⟨w.heap.size, 0, none⟩) 1 1) 1 (rowVals 1) := by
    have := World.ownsRow_lit (base := B) (e := 3) (size := 1) w #[.int .i64 0] 1 (by omega) (by decide) rfl
    simpa [rowVals, h0] using this
  rw [← hB]
  have HB := Lib.hid hB; clear hB h0
  go_enter Try.func25, Try.ntmps25
  go_wp2_with fail
  go_loopw [3, 4] (fun v i wr => ∃ k : Nat, 1 ≤ k ∧ k ≤ m + 1 ∧ i = .int .i64 k ∧ wr.ownsRow B 3 1 v k (rowVals k) ∧ Below B w wr ∧ B ≤ wr.heap.size) (fun _ i _ => (m + 1 - (intOf i)).toNat)
  case atStart => exact ⟨1, by omega, by omega, rfl, hst, (Below.refl _ _).alloc (by rw [HB.out]; omega) _, by rw [HB.out]; simp⟩
  case round =>
    obtain ⟨k, hk1, hk2, rfl, hown, hbel, hsz⟩ := hrel
    obtain ⟨g, cap, rfl, hg, hgs, hcap, hcm, hcell⟩ := ownsRow_some hown (by omega)
    by_cases hk : k ≤ m
    · go_wp2_with fail
      go_loop [5] (fun t => ∃ j : Nat, ∃ h : Nat, 1 ≤ h ∧ h ≤ k ∧ Hid (h = 2 ^ j) ∧ t = .int .i64 h) (fun t => k - (intOf t).toNat)
      case atStart => exact ⟨0, 1, by omega, by omega, rfl, rfl⟩
      case round =>
        obtain ⟨j, h, hh1, hh2, hj, rfl⟩ := hrel
        by_cases hlt : 2 * h ≤ k
        · go_wp2_with fail
          go_round
          case rel => exact ⟨j + 1, 2 * h, by omega, by omega, by show _ = _; rw [Nat.pow_succ', ← hj.out], by go_num⟩
          case measure => simp [intOf]; omega
        · have hhe := Lib.hid (half_eq k h j hj.out hh2 (by omega))
          by_cases hit : k = 2 * h - 1
          · have ht : ((k : Int) == 2 * (h : Int) - 1) = true := by rw [beq_iff_eq]; omega
            have HT := Lib.hid hit; clear hit
            go_wp2_with (at_builtin; refine wpList_append_lit elem_ints rfl _ _ rfl B _ k (rowVals k) rfl hown 1 #[.int .i64 h] rfl rfl (by simp [Value.oneCell']) (by omega) (by unfold maxLen; omega) hsz ?_)
            intro v' w1 hown1 hgrow _
            have hl : luby k = h := by rw [luby_hit k hk1 (by rw [← hhe.out]; exact HT.out), ← hhe.out]
            have hown2 : w1.ownsRow B 3 1 v' (k + 1) (rowVals (k + 1)) := by rw [rowVals_succ, hl]; exact hown1
            have hbel2 := bel_own hbel hown (Nat.le_refl _) hgrow hsz
            have hsz2 : B ≤ w1.heap.size := Nat.le_trans hsz hgrow.size
            clear hown1 hown hgrow hcell
            go_wp2_with fail
            go_roundw
            case rel => exact ⟨k + 1, by omega, by omega, by go_num, hown2, hbel2, hsz2⟩
            case measure => simp [intOf]; omega
          · have ht : ((k : Int) == 2 * (h : Int) - 1) = false := by rw [beq_eq_false_iff_ne]; omega
            have h2 : 2 ≤ h := by omega
            have hc : wr.cell? ⟨g, k - h + 1, none⟩ = some (.int .i64 (luby (k - h + 1) : Int)) := hcell _ _ (rowVals_get k _ (by omega))
            have hb1 : luby (k - h + 1) ≤ 3000 := Nat.le_trans (luby_le _) (by omega)
            have HT := Lib.hid hit; clear hit
            go_wp2_with (at_builtin; refine wpList_append_lit elem_ints rfl _ _ rfl B _ k (rowVals k) rfl hown 1 #[.int .i64 (luby (k - h + 1) : Int)] rfl rfl (by simp [Value.oneCell']) (by omega) (by unfold maxLen; omega) hsz ?_)
            intro v' w1 hown1 hgrow _
            have hl : luby k = luby (k - h + 1) := by rw [luby_step k hk1 (by rw [← hhe.out]; exact HT.out), ← hhe.out]; congr 1; omega
            have hown2 : w1.ownsRow B 3 1 v' (k + 1) (rowVals (k + 1)) := by rw [rowVals_succ, hl]; exact hown1
            have hbel2 := bel_own hbel hown (Nat.le_refl _) hgrow hsz
            have hsz2 : B ≤ w1.heap.size := Nat.le_trans hsz hgrow.size
            clear hown1 hown hgrow hcell hc
            go_wp2_with fail
            go_roundw
            case rel => exact ⟨k + 1, by omega, by omega, by go_num, hown2, hbel2, hsz2⟩
            case measure => simp [intOf]; omega
    · obtain rfl : k = m + 1 := by omega
      go_wp2_with fail
      go_ret
      exact ⟨_, rfl, hown, hbel⟩
end Go.Proofs.Ytoljhahmmdibfaa
