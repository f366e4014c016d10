/- The walk of cnf.Atoms. No condition. -/
import Derived.Test.YtalliggdfoeahaaGreatDoorCnfS
import Derived.Test.YtalliggdfoeahaaGreatDoorCnfW
import Derived.Test.YtalliggdfoeahaaGreatDoorCnfP
set_option linter.unusedVariables false
set_option linter.unusedSimpArgs false
namespace Go.Proofs.YtalliggdfoeahaaGreatDoor
open Go.RowKit Go.Lib Go.Sort
open CnfM (InR ab wrong)

/-- the greatest atom of a clause, and a number -/
def atom1 (s : Int) (c : List Int) : Int := c.foldl (fun s n => if wrong n then s else max s (ab n)) s
def atomsOf (s : Int) (l : List (List Int)) : Int := l.foldl atom1 s
theorem atom1_max (c : List Int) : ∀ s, 0 ≤ s → atom1 s c = max s (atom1 0 c) := by
  induction c with
  | nil => intro s hs; simp [atom1]; omega
  | cons x c ih =>
    intro s hs
    have e : ∀ t, atom1 t (x :: c) = atom1 (if wrong x then t else max t (ab x)) c := fun t => rfl
    rw [e, e]
    cases hw : wrong x with
    | true => simpa using ih s hs
    | false =>
      have h1 := ih (max s (ab x)) (by omega)
      have h2 := ih (max 0 (ab x)) (by omega)
      simp only [Bool.false_eq_true, if_false]
      rw [h1, h2]
      omega
theorem atom1_ge (c : List Int) (s : Int) (hs : 0 ≤ s) : s ≤ atom1 s c := by rw [atom1_max c s hs]; omega
theorem atomsOf_max (l : List (List Int)) : ∀ s, 0 ≤ s → atomsOf s l = max s (atomsOf 0 l) := by
  induction l with
  | nil => intro s hs; simp [atomsOf]; omega
  | cons c l ih =>
    intro s hs
    have e : ∀ t, atomsOf t (c :: l) = atomsOf (atom1 t c) l := fun t => rfl
    rw [e, e, ih (atom1 s c) (by have := atom1_ge c s hs; omega), ih (atom1 0 c) (by have := atom1_ge c 0 (by omega); omega), atom1_max c s hs]
    omega
theorem atomsOf_append (a b : List (List Int)) : atomsOf 0 (a ++ b) = max (atomsOf 0 a) (atomsOf 0 b) := by
  have h0 : 0 ≤ atomsOf 0 a := by rw [atomsOf_max a 0 (by omega)]; omega
  unfold atomsOf at *
  rw [List.foldl_append]
  exact atomsOf_max b _ h0
theorem atom1_succ {c : List Int} {k : Nat} (h : k < c.length) (s : Int) : atom1 s (c.take (k + 1)) = if wrong c[k] then atom1 s (c.take k) else max (atom1 s (c.take k)) (ab c[k]) := by
  unfold atom1
  rw [List.take_succ_eq_append_getElem h, List.foldl_append]; rfl
theorem atomsOf_succ {l : List (List Int)} {k : Nat} (h : k < l.length) (s : Int) : atomsOf s (l.take (k + 1)) = atom1 (atomsOf s (l.take k)) l[k] := by
  unfold atomsOf
  rw [List.take_succ_eq_append_getElem h, List.foldl_append]; rfl
set_option maxRecDepth 10000 in
set_option maxHeartbeats 2000000 in
theorem atoms_any {w : World} {u : Value} {l : List (List Int)} (hl : RIss w [u] l) : Calls Tryz.prog 7 #[u] w fun e w' => e = .returned (.int .i64 (atomsOf 0 l)) ∧ w = w' := by
  obtain ⟨a, cap, rfl, hz, g⟩ := rows_open hl
  obtain ⟨n, hn⟩ : ∃ n, n = l.length := ⟨_, rfl⟩
  rw [← hn] at hz hl ⊢
  obtain ⟨r, hr⟩ : ∃ r, r = atomsOf 0 l := ⟨_, rfl⟩
  rw [← hr]
  have Hl := Lib.hid hl; have Hg := Lib.hid g; have Hn := Lib.hid hn; have Hr := Lib.hid hr; clear hl g hn hr
  go_enter Tryz.func7, Tryz.ntmps7
  go_wp2_with fail
  go_loop [3, 10] (fun s i => ∃ (k : Nat) (t : Int), k ≤ n ∧ i = .int .i64 k ∧ s = .int .i64 t ∧ t = atomsOf 0 (l.take k)) (fun _ i => n - (intOf i).toNat)
  case atStart => exact ⟨0, 0, Nat.zero_le _, rfl, rfl, by simp [atomsOf]⟩
  case round =>
    obtain ⟨k, t, hk, rfl, rfl, ht⟩ := hrel
    by_cases hlt : k < n
    · have hkl : k < l.length := by have := Hn.out; omega
      obtain ⟨b, off, u, rfl, d, hu⟩ := Hg.out k hkl
      obtain ⟨c, hc⟩ : ∃ c, c = l[k] := ⟨_, rfl⟩
      rw [← hc] at hu
      obtain ⟨a2, cap2, rfl, hz2, g2⟩ := ints_open hu
      have hs := atomsOf_succ hkl 0
      rw [← hc, ← ht] at hs
      obtain ⟨m, hm⟩ : ∃ m, m = c.length := ⟨_, rfl⟩
      rw [← hm] at hz2 d
      have k5 : (0 : Int) ≤ (k : Int) := by omega
      have k6 : (k : Int) < (n : Int) := by omega
      clear hc hkl
      have Ht := Lib.hid ht; have Hu := Lib.hid hu; have Hm := Lib.hid hm; have Hs := Lib.hid hs; have Hg2 := Lib.hid g2; clear ht hu hm hs g2
      go_wp2_with fail
      go_loop [3, 16] (fun s j => ∃ (i : Nat) (t2 : Int), i ≤ m ∧ j = .int .i64 i ∧ s = .int .i64 t2 ∧ t2 = atom1 t (c.take i)) (fun _ j => m - (intOf j).toNat)
      case atStart => exact ⟨0, t, Nat.zero_le _, rfl, rfl, by simp [atom1]⟩
      case round =>
        obtain ⟨i, t2, hi, rfl, rfl, ht2⟩ := hrel
        by_cases hlt2 : i < m
        · have hil : i < c.length := by have := Hm.out; omega
          obtain ⟨b2, off2, rfl, d2, hr2⟩ := Hg2.out i hil
          obtain ⟨x, hx⟩ : ∃ x, x = c[i] := ⟨_, rfl⟩
          rw [← hx] at d2 hr2
          have hnext := atom1_succ hil t
          rw [← hx, ← ht2] at hnext
          have hW := fun W => wrong_any x W
          have hA := fun W => abs_any x W
          obtain ⟨ax, hax⟩ : ∃ z, z = ab x := ⟨_, rfl⟩
          rw [← hax] at hA hnext
          have k7 : (0 : Int) ≤ (i : Int) := by omega
          have k8 : (i : Int) < (m : Int) := by omega
          clear hx hil hr2
          cases hw : wrong x with
          | true =>
            rw [hw] at hW hnext
            have hnext2 : atom1 t (c.take (i + 1)) = t2 := by rw [hnext]; rfl
            have Ht2 := Lib.hid ht2; have Hnext := Lib.hid hnext; have Hnext2 := Lib.hid hnext2; have HW := Lib.hid hW; have HA := Lib.hid hA; have Hax := Lib.hid hax; have Hw := Lib.hid hw; clear ht2 hnext hnext2 hW hA hax hw
            go_wp2_with fail
            refine (HW.out _).mono ?_
            rintro e w1 ⟨rfl, rfl⟩
            go_wp2_with fail
            go_round
            case rel => exact ⟨i + 1, t2, by omega, by go_num, rfl, Hnext2.out.symm⟩
            case measure => simp [intOf]; omega
          | false =>
            rw [hw] at hW hnext
            have hnext2 : atom1 t (c.take (i + 1)) = max t2 ax := by rw [hnext]; rfl
            have Ht2 := Lib.hid ht2; have Hnext := Lib.hid hnext; have Hnext2 := Lib.hid hnext2; have HW := Lib.hid hW; have HA := Lib.hid hA; have Hax := Lib.hid hax; have Hw := Lib.hid hw; clear ht2 hnext hnext2 hW hA hax hw
            go_wp2_with fail
            refine (HW.out _).mono ?_
            rintro e w1 ⟨rfl, rfl⟩
            go_wp2_with fail
            refine (HA.out _).mono ?_
            rintro e w1 ⟨rfl, rfl⟩
            go_wp2_with fail
            go_round
            case rel => exact ⟨i + 1, max t2 ax, by omega, by go_num, rfl, Hnext2.out.symm⟩
            case measure => simp [intOf]; omega
        · have e : c.take i = c := List.take_of_length_le (by have := Hm.out; omega)
          rw [e, ← Hs.out] at ht2
          have Ht2 := Lib.hid ht2; have He := Lib.hid e; clear ht2 e
          go_wp2_with fail
          go_round
          case rel => exact ⟨k + 1, t2, by omega, by go_num, rfl, Ht2.out⟩
          case measure => simp [intOf]; omega
    · have e : l.take k = l := List.take_of_length_le (by have := Hn.out; omega)
      rw [e, ← Hr.out] at ht
      have Ht := Lib.hid ht; have He := Lib.hid e; clear ht e
      go_wp2_with fail
      go_ret
      exact ⟨ret_int Ht.out, rfl⟩
end Go.Proofs.YtalliggdfoeahaaGreatDoor
