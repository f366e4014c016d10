/- The walks of cmp.Compare and cmp.Or at numbers. No condition. -/
import Derived.Test.YtoljhahmmdibfaaKit
import Derived.Sort.Grow
import Derived.Test.YtoljhahmmdibfaaRows
set_option linter.unusedVariables false
set_option linter.unusedSimpArgs false
namespace Go.Proofs.Ytoljhahmmdibfaa
open Go.RowKit Go.Lib Go.Sort

def compareInt (x y : Int) : Int := if x < y then -1 else if y < x then 1 else 0
set_option maxRecDepth 10000 in
theorem compare_any (x y : Int) (w : World) : Calls Try.prog 71 #[.int .i64 x, .int .i64 y] w fun e w' => e = .returned (.int .i64 (compareInt x y)) ∧ w = w' := by
  by_cases h1 : x < y
  · have e : compareInt x y = -1 := by unfold compareInt; rw [if_pos h1]
    rw [e]
    clear e
    go_enter Try.func71, Try.ntmps71
    go_wp2
    go_ret
    exact ⟨rfl, rfl⟩
  · have h1' : y ≤ x := by omega
    by_cases h2 : y < x
    · have e : compareInt x y = 1 := by unfold compareInt; rw [if_neg h1, if_pos h2]
      rw [e]
      clear e h1
      go_enter Try.func71, Try.ntmps71
      go_wp2
      go_ret
      exact ⟨rfl, rfl⟩
    · have e : compareInt x y = 0 := by unfold compareInt; rw [if_neg h1, if_neg h2]
      obtain rfl : x = y := by omega
      rw [e]
      clear e h1 h2 h1'
      go_enter Try.func71, Try.ntmps71
      go_wp2
      go_ret
      exact ⟨rfl, rfl⟩
/-- the first of two that is not 0 -/
def orOf (l : List Int) : Int := match l with
  | [] => 0
  | x :: r => if x ≠ 0 then x else orOf r
theorem orOf_snoc (l : List Int) (k : Nat) (h : k < l.length) (h0 : orOf (l.take k) = 0) : orOf (l.take (k + 1)) = l[k] := by
  induction l generalizing k with
  | nil => simp at h
  | cons x r ih =>
    match k with
    | 0 => simp [orOf]; intro h; simp [h]
    | k + 1 =>
      have h1 : x = 0 := by
        rw [List.take_succ_cons, orOf] at h0
        split at h0
        · rename_i hx; exact absurd h0 hx
        · rename_i hx; simpa using hx
      subst h1
      have := ih k (by simpa using h) (by simpa [orOf] using h0)
      simpa [orOf] using this
theorem orOf_all (l : List Int) (k : Nat) (h : orOf (l.take k) ≠ 0) : orOf l = orOf (l.take k) := by
  induction l generalizing k with
  | nil => simp
  | cons x r ih =>
    match k with
    | 0 => simp [orOf] at h
    | k + 1 =>
      rw [List.take_succ_cons, orOf] at h ⊢
      rw [orOf]
      split
      · rfl
      · rename_i hx
        rw [if_neg hx] at h
        exact ih k h
set_option maxRecDepth 10000 in
set_option maxHeartbeats 400000 in
theorem or_any (b off cap : Nat) (l : List Int) (w : World) (hl : l.length ≤ 1000) (hc : ∀ i x, l[i]? = some x → w.cell? ⟨b, off + i, none⟩ = some (.int .i64 x)) :
    Calls Try.prog 70 #[.slice (some ⟨b, off, none⟩) l.length cap] w fun e w' => e = .returned (.int .i64 (orOf l)) ∧ w = w' := by
  obtain ⟨n, hn⟩ : ∃ n, n = l.length := ⟨_, rfl⟩
  rw [← hn] at hl ⊢
  have Hn := Lib.hid hn; have Hc := Lib.hid hc; clear hn hc
  go_enter Try.func70, Try.ntmps70
  go_wp2_with fail
  go_loop [8] (fun i => ∃ k : Nat, k ≤ n ∧ i = .int .i64 k ∧ orOf (l.take k) = 0) (fun i => n - (intOf i).toNat)
  case atStart => exact ⟨0, Nat.zero_le _, rfl, by simp [orOf]⟩
  case round =>
    obtain ⟨k, hk, rfl, h0⟩ := hrel
    by_cases hlt : k < n
    · have hkl : k < l.length := by have := Hn.out; omega
      obtain ⟨x, hx⟩ : ∃ x, x = l[k]'hkl := ⟨_, rfl⟩
      have c := Hc.out k x (by rw [hx]; exact List.getElem?_eq_getElem hkl)
      have hs := orOf_snoc l k hkl h0
      rw [← hx] at hs
      by_cases hz : x = 0
      · have e1 : (x != 0) = false := by rw [hz]; rfl
        have h1 : orOf (l.take (k + 1)) = 0 := by rw [hs, hz]
        have Hx := Lib.hid hx; have Hs := Lib.hid hs; have H0 := Lib.hid h0; have Hz := Lib.hid hz; have H1 := Lib.hid h1; clear hx hs h0 hz h1
        go_wp2_with fail
        go_round
        case rel => exact ⟨k + 1, by omega, by go_num, H1.out⟩
        case measure => simp [intOf]; omega
      · have e1 : (x != 0) = true := by simpa using hz
        have h1 : orOf l = x := by rw [orOf_all l (k + 1) (by rw [hs]; exact hz), hs]
        have Hx := Lib.hid hx; have Hs := Lib.hid hs; have H0 := Lib.hid h0; have Hz := Lib.hid hz; have H1 := Lib.hid h1; clear hx hs h0 hz h1
        go_wp2_with fail
        go_ret
        exact ⟨ret_int (by rw [H1.out]), rfl⟩
    · have h1 : orOf l = 0 := by
        rw [← h0, List.take_of_length_le (by have := Hn.out; omega)]
      have H0 := Lib.hid h0; have H1 := Lib.hid h1; clear h0 h1
      go_wp2_with fail
      go_ret
      exact ⟨ret_int (by rw [H1.out]), rfl⟩
end Go.Proofs.Ytoljhahmmdibfaa
