/- The walk of LubyRow: it returns true. No condition. -/
import Derived.Test.YtoljhahmmdibfaaLubyR
import Derived.Test.YtoljhahmmdibfaaLubyF
namespace Go.Proofs.Ytoljhahmmdibfaa
open Go.RowKit LubyM
theorem and_pow : ∀ j : Fin 63, (bits BinOp.and IntKind.i64 (2 ^ j.val) (2 ^ j.val - 1) == 0) = true := by decide +kernel
set_option maxHeartbeats 800000 in
theorem lubyRow_true (n great : Int) (h0 : 0 ≤ n) (h1 : n ≤ 65535) (hg0 : -9223372036854775808 ≤ great) (hg : great ≤ 9223372036854775807) (w : World) :
    Calls Try.prog 6 #[.int .u16 n, .int .i64 great] w fun e w' => e = .returned (.bool true) ∧ Below w.heap.size w w' := by
  obtain ⟨q, rfl⟩ := Int.eq_ofNat_of_zero_le h0
  obtain ⟨k, hk⟩ : ∃ k : Nat, k = q % 3001 := ⟨_, rfl⟩
  have hk3 : k ≤ 3000 := by omega
  have hki : (q : Int) % 3001 = (k : Int) := by omega
  have HK := Lib.hid hk; clear hk
  go_enter Try.func6, Try.ntmps6
  go_wp2_with fail
  rw [hki]
  clear hki
  refine (refRow k w hk3).mono ?_
  rintro e w1 ⟨v, rfl, hown, hbel⟩
  obtain ⟨g, cap, rfl, hgb, hgs, hcap, hcm, hcell⟩ := ownsRow_some hown (by omega)
  have hc := hcell _ _ (rowVals_get (k + 1) k (by omega))
  go_wp2_with fail
  go_quiet ((go_at_call 26; exact quiet_same (row_any _ _ (by omega))))
  have hrk : rowOf (k : Int) = (luby k : Int) := by
    unfold rowOf
    by_cases h : k = 0
    · subst h; rw [if_pos (by decide), luby_zero]; rfl
    · rw [if_neg (by omega)]; rfl
  rw [hrk]
  have HR := Lib.hid hrk; clear hrk
  by_cases hgr : great < 1
  · have hr0 : rowOf great = 0 := by unfold rowOf; rw [if_pos hgr]
    go_wp2_with (first | (go_at_call 26; refine (row_any _ _ (by omega)).mono ?_; rintro e w' ⟨rfl, rfl⟩) | (go_at_call 27; refine (fixed20 _).mono ?_; rintro e w2 ⟨rfl, hb2⟩))
    go_ret
    exact ⟨rfl, (bel_drewN hbel _).trans (hb2.mono (by simpa using hbel.size))⟩
  · obtain ⟨p, rfl⟩ := Int.eq_ofNat_of_zero_le (show 0 ≤ great by omega)
    obtain ⟨j, hj, hjl⟩ := luby_pow p (by omega)
    have hjlt : j < 63 := (Nat.pow_lt_pow_iff_right (a := 2) (by omega)).1 (Nat.lt_of_le_of_lt hjl (by omega))
    have hb := and_pow ⟨j, hjlt⟩
    obtain ⟨x, hx⟩ : ∃ x : Int, x = rowOf (p : Int) := ⟨_, rfl⟩
    have hxj : x = 2 ^ j := by rw [hx]; unfold rowOf; rw [if_neg hgr]; show ((luby p : Nat) : Int) = _; rw [hj]; simp
    have hx1 : 1 ≤ x ∧ x ≤ (p : Int) / 2 + 1 := by
      have h1 : 1 ≤ 2 ^ j := Nat.one_le_two_pow
      have h2 : x = ((2 ^ j : Nat) : Int) := by rw [hxj]; simp
      omega
    have hbx : (bits BinOp.and IntKind.i64 x (x - 1) == 0) = true := by rw [hxj]; exact hb
    clear hb hxj hjl hj hjlt
    have hx2 : 0 < x := by omega
    have hcall : ∀ w : World, Calls Try.prog 26 #[.int .i64 p] w fun e w' => e = .returned (.int .i64 x) ∧ w = w' := by rw [hx]; exact fun w => row_any _ _ hg
    have HC := Lib.hid hcall; clear hcall hx
    go_wp2_with (first | (go_at_call 26; refine (HC.out _).mono ?_; rintro e w' ⟨rfl, rfl⟩) | (go_at_call 27; refine (fixed20 _).mono ?_; rintro e w2 ⟨rfl, hb2⟩))
    go_ret
    exact ⟨rfl, (bel_drewN hbel _).trans (hb2.mono (by simpa using hbel.size))⟩
end Go.Proofs.Ytoljhahmmdibfaa
