/- The walk of cooperref12.Holds: whether clauses hold. No condition. -/
import Derived.Test.YtnelgellbabkoaaCnfH
namespace Go.Proofs.Ytnelgellbabkoaa
open Go.RowKit Go.Lib Go.Sort
open CnfM (InR so holds)

theorem any_take_succ {α : Type} {p : α → Bool} {l : List α} {k : Nat} (h : k < l.length) : (l.take (k + 1)).any p = ((l.take k).any p || p l[k]) := by
  rw [List.take_succ_eq_append_getElem h, List.any_append]; simp
theorem any_take_all {α : Type} {p : α → Bool} {l : List α} {k : Nat} (h : l.length ≤ k) : (l.take k).any p = l.any p := by rw [List.take_of_length_le h]
theorem all_take_succ {α : Type} {p : α → Bool} {l : List α} {k : Nat} (h : k < l.length) : (l.take (k + 1)).all p = ((l.take k).all p && p l[k]) := by
  rw [List.take_succ_eq_append_getElem h, List.all_append]; simp
theorem all_no {α : Type} {p : α → Bool} {l : List α} {k : Nat} (h : k < l.length) (hp : p l[k] = false) : l.all p = false := by
  rw [Bool.eq_false_iff]; intro h2
  have := List.all_eq_true.1 h2 _ (List.getElem_mem h)
  rw [hp] at this; cases this
set_option maxRecDepth 10000 in
set_option maxHeartbeats 2000000 in
theorem holdsRef_any {w : World} {u v : Value} {m : List Bool} {l : List (List Int)} (hl : RIss w [u] l) (hm : RBs w [v] m) : Calls Try.prog 27 #[u, v] w fun e w' => e = .returned (.bool (holds m l)) ∧ w = w' := by
  obtain ⟨a, cap, rfl, hz, g⟩ := rows_open hl
  obtain ⟨n, hn⟩ : ∃ n, n = l.length := ⟨_, rfl⟩
  rw [← hn] at hz hl ⊢
  obtain ⟨r, hr⟩ : ∃ r, r = holds m l := ⟨_, rfl⟩
  rw [← hr]
  have hS := fun x hx => soRef_any hm x hx
  have Hl := Lib.hid hl; have Hm := Lib.hid hm; have Hg := Lib.hid g; have Hn := Lib.hid hn; have Hr := Lib.hid hr; have HS := Lib.hid hS; clear hl hm g hn hr hS
  go_enter Try.func27, Try.ntmps27
  go_wp2_with fail
  go_loop [10] (fun i => ∃ k : Nat, k ≤ n ∧ i = .int .i64 k ∧ (l.take k).all (fun c => c.any (so m)) = true) (fun i => n - (intOf i).toNat)
  case atStart => exact ⟨0, Nat.zero_le _, rfl, by simp⟩
  case round =>
    obtain ⟨k, hk, rfl, hall⟩ := hrel
    by_cases hlt : k < n
    · have hkl : k < l.length := by have := Hn.out; omega
      obtain ⟨b, off, u, rfl, d, hu⟩ := Hg.out k hkl
      obtain ⟨c, hc⟩ : ∃ c, c = l[k] := ⟨_, rfl⟩
      rw [← hc] at hu
      obtain ⟨a2, cap2, rfl, hz2, g2⟩ := ints_open hu
      obtain ⟨n2, hn2⟩ : ∃ n, n = c.length := ⟨_, rfl⟩
      rw [← hn2] at hz2 d
      have hsucc := all_take_succ (p := fun c : List Int => c.any (so m)) hkl
      rw [hall, Bool.true_and, ← hc] at hsucc
      have hno : c.any (so m) = false → r = false := fun h => by rw [Hr.out]; exact all_no hkl (by rw [← hc]; exact h)
      have k5 : (0 : Int) ≤ (k : Int) := by omega
      have k6 : (k : Int) < (n : Int) := by omega
      clear hc hkl
      have Hall := Lib.hid hall; have Hu := Lib.hid hu; have Hg2 := Lib.hid g2; have Hn2 := Lib.hid hn2; have Hsucc := Lib.hid hsucc; have Hno := Lib.hid hno; clear hall hu g2 hn2 hsucc hno
      go_wp2_with fail
      go_loop [6, 18] (fun f j => ∃ i : Nat, i ≤ n2 ∧ j = .int .i64 i ∧ f = .bool ((c.take i).any (so m))) (fun _ j => n2 - (intOf j).toNat)
      case atStart => exact ⟨0, Nat.zero_le _, rfl, rfl⟩
      case round =>
        obtain ⟨i, hi, rfl, rfl⟩ := hrel
        by_cases hlt2 : i < n2
        · have hil : i < c.length := by have := Hn2.out; omega
          obtain ⟨b2, off2, rfl, d2, hr2⟩ := Hg2.out i hil
          obtain ⟨x, hx⟩ : ∃ x, x = c[i] := ⟨_, rfl⟩
          rw [← hx] at d2 hr2
          have hcall := HS.out x hr2
          have hnext := any_take_succ (p := so m) hil
          rw [← hx] at hnext
          obtain ⟨s, hs⟩ : ∃ s, s = so m x := ⟨_, rfl⟩
          rw [← hs] at hcall hnext
          have k7 : (0 : Int) ≤ (i : Int) := by omega
          have k8 : (i : Int) < (n2 : Int) := by omega
          cases hf : (c.take i).any (so m) with
          | true =>
            rw [hf, Bool.true_or] at hnext
            clear hx hr2 hil
            have Hcall := Lib.hid hcall; have Hnext := Lib.hid hnext; have Hs := Lib.hid hs; have Hf := Lib.hid hf; clear hcall hnext hs hf
            go_wp2_with fail
            go_round
            case rel => exact ⟨i + 1, by omega, by go_num, by rw [Hnext.out]⟩
            case measure => simp [intOf]; omega
          | false =>
            rw [hf, Bool.false_or] at hnext
            clear hx hr2 hil
            have Hcall := Lib.hid hcall; have Hnext := Lib.hid hnext; have Hs := Lib.hid hs; have Hf := Lib.hid hf; clear hcall hnext hs hf
            go_wp2_with fail
            refine Hcall.out.mono ?_
            rintro e w1 ⟨rfl, rfl⟩
            go_wp2_with fail
            go_round
            case rel => exact ⟨i + 1, by omega, by go_num, by rw [Hnext.out]⟩
            case measure => simp [intOf]; omega
        · have hall2 : (c.take i).any (so m) = c.any (so m) := any_take_all (by have := Hn2.out; omega)
          rw [hall2]
          cases hf : c.any (so m) with
          | true =>
            have hs2 := Hsucc.out
            rw [hf] at hs2
            have Hall2 := Lib.hid hall2; have Hf := Lib.hid hf; have Hs2 := Lib.hid hs2; clear hall2 hf hs2
            go_wp2_with fail
            go_round
            case rel => exact ⟨k + 1, by omega, by go_num, Hs2.out⟩
            case measure => simp [intOf]; omega
          | false =>
            have hrf := Hno.out hf
            have Hall2 := Lib.hid hall2; have Hf := Lib.hid hf; have Hrf := Lib.hid hrf; clear hall2 hf hrf
            go_wp2_with fail
            go_ret
            exact ⟨ret_bool Hrf.out.symm, rfl⟩
    · have hrt : r = true := by
        rw [Hr.out]; unfold holds
        rw [List.take_of_length_le (by have := Hn.out; omega)] at hall
        exact hall
      have Hall := Lib.hid hall; have Hrt := Lib.hid hrt; clear hall hrt
      go_wp2_with fail
      go_ret
      exact ⟨ret_bool Hrt.out.symm, rfl⟩
end Go.Proofs.Ytnelgellbabkoaa
