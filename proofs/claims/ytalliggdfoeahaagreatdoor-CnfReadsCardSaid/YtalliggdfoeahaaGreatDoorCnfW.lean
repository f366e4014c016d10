/- The walks of cnf: abs, wrong, the comparison of two literals. No condition. -/
import Derived.Test.YtalliggdfoeahaaGreatDoorKit
import Derived.Test.YtalliggdfoeahaaGreatDoorCnfM
import Derived.Sort.Grow
import Derived.Test.YtalliggdfoeahaaGreatDoorRows
set_option linter.unusedVariables false
set_option linter.unusedSimpArgs false
namespace Go.Proofs.YtalliggdfoeahaaGreatDoor
open Go.RowKit Go.Lib Go.Sort

theorem max_is (x y : Int) : (if x < y then y else x) = max x y := by omega
set_option maxRecDepth 10000 in
theorem abs_any (x : Int) (w : World) : Calls Tryz.prog 23 #[.int .i64 x] w fun e w' => e = .returned (.int .i64 (CnfM.ab x)) ∧ w = w' := by
  by_cases h : x < wrap64 (-x)
  · have e : CnfM.ab x = wrap64 (-x) := by unfold CnfM.ab CnfM.neg; omega
    have He := Lib.hid e; clear e
    go_enter Tryz.func23, Tryz.ntmps23
    go_wp2_with fail
    go_ret
    exact ⟨ret_int (by rw [He.out]), rfl⟩
  · have e : CnfM.ab x = x := by unfold CnfM.ab CnfM.neg; omega
    have h : wrap64 (-x) ≤ x := by omega
    have He := Lib.hid e; clear e
    go_enter Tryz.func23, Tryz.ntmps23
    go_wp2_with fail
    go_ret
    exact ⟨ret_int (by rw [He.out]), rfl⟩
set_option maxRecDepth 10000 in
theorem wrong_any (x : Int) (w : World) : Calls Tryz.prog 19 #[.int .i64 x] w fun e w' => e = .returned (.bool (CnfM.wrong x)) ∧ w = w' := by
  by_cases h0 : x = 0
  · have e1 : (x == 0) = true := by rw [h0]; rfl
    have e2 : CnfM.wrong x = true := by unfold CnfM.wrong; rw [e1]; rfl
    have He2 := Lib.hid e2; clear e2
    clear h0
    go_enter Tryz.func19, Tryz.ntmps19
    go_wp2_with fail
    go_ret
    exact ⟨ret_bool (by rw [He2.out]), rfl⟩
  · have e1 : (x == 0) = false := by simpa using h0
    have e2 : CnfM.wrong x = (x == -9223372036854775808) := by unfold CnfM.wrong; rw [e1]; rfl
    have He2 := Lib.hid e2; clear e2
    clear h0
    go_enter Tryz.func19, Tryz.ntmps19
    go_wp2_with fail
    go_ret
    exact ⟨ret_bool (by rw [He2.out]), rfl⟩
set_option maxRecDepth 10000 in
theorem compare_any (x y : Int) (w : World) : Calls Tryz.prog 47 #[.int .i64 x, .int .i64 y] w fun e w' => e = .returned (.int .i64 (compareInt x y)) ∧ w = w' := by
  by_cases h1 : x < y
  · have e : compareInt x y = -1 := by unfold compareInt; rw [if_pos h1]
    rw [e]
    clear e
    go_enter Tryz.func47, Tryz.ntmps47
    go_wp2
    go_ret
    exact ⟨rfl, rfl⟩
  · have h1' : y ≤ x := by omega
    by_cases h2 : y < x
    · have e : compareInt x y = 1 := by unfold compareInt; rw [if_neg h1, if_pos h2]
      rw [e]
      clear e h1
      go_enter Tryz.func47, Tryz.ntmps47
      go_wp2
      go_ret
      exact ⟨rfl, rfl⟩
    · have e : compareInt x y = 0 := by unfold compareInt; rw [if_neg h1, if_neg h2]
      obtain rfl : x = y := by omega
      rw [e]
      clear e h1 h2 h1'
      go_enter Tryz.func47, Tryz.ntmps47
      go_wp2
      go_ret
      exact ⟨rfl, rfl⟩
/-- the first of two that is not 0 -/
def orOf (l : List Int) : Int := match l with
  | [] => 0
  | x :: r => if x ≠ 0 then x else orOf r
theorem orOf_snoc (l : List Int) (k : Nat) (h : k < l.length) (h0 : orOf (l.take k) = 0) : orOf (l.take (k + 1)) = l[k] := by
  induction l generalizing k with
  | nil => simp at h
  | cons x r ih =>
    match k with
    | 0 => simp [orOf]; intro h; simp [h]
    | k + 1 =>
      have h1 : x = 0 := by
        rw [List.take_succ_cons, orOf] at h0
        split at h0
        · rename_i hx; exact absurd h0 hx
        · rename_i hx; simpa using hx
      subst h1
      have := ih k (by simpa using h) (by simpa [orOf] using h0)
      simpa [orOf] using this
theorem orOf_all (l : List Int) (k : Nat) (h : orOf (l.take k) ≠ 0) : orOf l = orOf (l.take k) := by
  induction l generalizing k with
  | nil => simp
  | cons x r ih =>
    match k with
    | 0 => simp [orOf] at h
    | k + 1 =>
      rw [List.take_succ_cons, orOf] at h ⊢
      rw [orOf]
      split
      · rfl
      · rename_i hx
        rw [if_neg hx] at h
        exact ih k h
set_option maxRecDepth 10000 in
set_option maxHeartbeats 400000 in
theorem or_any (b off cap : Nat) (l : List Int) (w : World) (hl : l.length ≤ 1000) (hc : ∀ i x, l[i]? = some x → w.cell? ⟨b, off + i, none⟩ = some (.int .i64 x)) :
    Calls Tryz.prog 46 #[.slice (some ⟨b, off, none⟩) l.length cap] w fun e w' => e = .returned (.int .i64 (orOf l)) ∧ w = w' := by
  obtain ⟨n, hn⟩ : ∃ n, n = l.length := ⟨_, rfl⟩
  rw [← hn] at hl ⊢
  have Hn := Lib.hid hn; have Hc := Lib.hid hc; clear hn hc
  go_enter Tryz.func46, Tryz.ntmps46
  go_wp2_with fail
  go_loop [8] (fun i => ∃ k : Nat, k ≤ n ∧ i = .int .i64 k ∧ orOf (l.take k) = 0) (fun i => n - (intOf i).toNat)
  case atStart => exact ⟨0, Nat.zero_le _, rfl, by simp [orOf]⟩
  case round =>
    obtain ⟨k, hk, rfl, h0⟩ := hrel
    by_cases hlt : k < n
    · have hkl : k < l.length := by have := Hn.out; omega
      obtain ⟨x, hx⟩ : ∃ x, x = l[k]'hkl := ⟨_, rfl⟩
      have c := Hc.out k x (by rw [hx]; exact List.getElem?_eq_getElem hkl)
      have hs := orOf_snoc l k hkl h0
      rw [← hx] at hs
      by_cases hz : x = 0
      · have e1 : (x != 0) = false := by rw [hz]; rfl
        have h1 : orOf (l.take (k + 1)) = 0 := by rw [hs, hz]
        have Hx := Lib.hid hx; have Hs := Lib.hid hs; have H0 := Lib.hid h0; have Hz := Lib.hid hz; have H1 := Lib.hid h1; clear hx hs h0 hz h1
        go_wp2_with fail
        go_round
        case rel => exact ⟨k + 1, by omega, by go_num, H1.out⟩
        case measure => simp [intOf]; omega
      · have e1 : (x != 0) = true := by simpa using hz
        have h1 : orOf l = x := by rw [orOf_all l (k + 1) (by rw [hs]; exact hz), hs]
        have Hx := Lib.hid hx; have Hs := Lib.hid hs; have H0 := Lib.hid h0; have Hz := Lib.hid hz; have H1 := Lib.hid h1; clear hx hs h0 hz h1
        go_wp2_with fail
        go_ret
        exact ⟨ret_int (by rw [H1.out]), rfl⟩
    · have h1 : orOf l = 0 := by
        rw [← h0, List.take_of_length_le (by have := Hn.out; omega)]
      have H0 := Lib.hid h0; have H1 := Lib.hid h1; clear h0 h1
      go_wp2_with fail
      go_ret
      exact ⟨ret_int (by rw [H1.out]), rfl⟩
set_option maxRecDepth 10000 in
set_option maxHeartbeats 400000 in
theorem closure_any (x y : Int) (W : World) : Calls Tryz.prog 45 #[.int .i64 x, .int .i64 y] W fun e w' => e = .returned (.int .i64 (CnfM.cf x y)) ∧ ∃ q os, w' = grow (W.drewN q) os := by
  obtain ⟨r, hr⟩ : ∃ r, r = CnfM.cf x y := ⟨_, rfl⟩
  obtain ⟨a, ha⟩ : ∃ a, a = CnfM.ab x := ⟨_, rfl⟩
  obtain ⟨b, hb⟩ : ∃ b, b = CnfM.ab y := ⟨_, rfl⟩
  obtain ⟨c, hcc⟩ : ∃ c, c = compareInt a b := ⟨_, rfl⟩
  obtain ⟨d, hdd⟩ : ∃ d, d = compareInt x y := ⟨_, rfl⟩
  have hA := fun W => abs_any x W
  have hB := fun W => abs_any y W
  have hC := fun W => compare_any a b W
  have hD := fun W => compare_any x y W
  have hO : orOf [c, d] = r := by
    rw [hr, hcc, hdd, ha, hb]
    unfold CnfM.cf orOf orOf orOf
    split <;> simp_all
  have hE := fun (W : World) h => or_any W.heap.size 0 2 [c, d] (W.alloc (.cells #[.int .i64 c, .int .i64 d] 3)) (by simp) h
  rw [hO] at hE
  rw [← hr]
  rw [← ha] at hA
  rw [← hb] at hB
  rw [← hcc] at hC
  rw [← hdd] at hD
  have hF := fun W : World => hE W (by
    intro i x hx
    rw [Nat.zero_add, World.cell?_alloc_new]
    match i, hx with
    | 0, hx => simpa using hx
    | 1, hx => simpa using hx)
  simp only [List.length_cons, List.length_nil, Nat.zero_add] at hF
  clear hE
  have HA := Lib.hid hA; have HB := Lib.hid hB; have HC := Lib.hid hC; have HD := Lib.hid hD; have HF := Lib.hid hF; have Hr := Lib.hid hr; have Ha := Lib.hid ha; have Hb := Lib.hid hb; have Hcc := Lib.hid hcc; have Hdd := Lib.hid hdd; have HO := Lib.hid hO; clear hA hB hC hD hF hr ha hb hcc hdd hO
  go_enter Tryz.func45, Tryz.ntmps45
  go_wp2_with fail
  refine (HA.out _).mono ?_
  rintro e w1 ⟨rfl, rfl⟩
  go_wp2_with fail
  refine (HB.out _).mono ?_
  rintro e w1 ⟨rfl, rfl⟩
  go_wp2_with fail
  refine (HC.out _).mono ?_
  rintro e w1 ⟨rfl, rfl⟩
  go_wp2_with fail
  refine (HD.out _).mono ?_
  rintro e w1 ⟨rfl, rfl⟩
  go_wp2_with fail
  refine (HF.out _).mono ?_
  rintro e w1 ⟨rfl, rfl⟩
  go_wp2_with fail
  go_ret
  exact ⟨rfl, 0, _, alloc_eq_grow _ _⟩
end Go.Proofs.YtalliggdfoeahaaGreatDoor
