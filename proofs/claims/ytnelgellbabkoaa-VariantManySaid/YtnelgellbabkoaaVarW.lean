/- The walks of cooperref04.Great and Wish: they answer. No condition. -/
import Derived.Test.YtnelgellbabkoaaVarE
import Derived.Test.YtnelgellbabkoaaVarR
import Derived.Test.YtnelgellbabkoaaCnfS
namespace Go.Proofs.Ytnelgellbabkoaa
open Go.RowKit Go.Shelf VarM

set_option maxRecDepth 10000 in
set_option maxHeartbeats 1000000 in
theorem greatSets_any {w : World} {v : Value} {l : List Setg} (h : RSets w [v] l) : Calls Try.prog 30 #[v] w fun e w' => (∃ r, e = .returned (.bool r) ∧ (r = false → l.length ≤ 50)) ∧ w = w' := by
  obtain ⟨a, cap, rfl, hz, g⟩ := sets_open h
  obtain ⟨n, hn⟩ : ∃ n, n = l.length := ⟨_, rfl⟩
  rw [← hn] at hz h ⊢
  have Hh := Lib.hid h; have Hg := Lib.hid g; have Hn := Lib.hid hn; clear h g hn
  go_enter Try.func30, Try.ntmps30
  by_cases h50 : 50 < n
  · have k1 : decide ((50 : Int) < (n : Int)) = true := by simp; omega
    go_wp2_with fail
    go_ret
    exact ⟨⟨true, rfl, fun h => by cases h⟩, rfl⟩
  · have k1 : decide ((50 : Int) < (n : Int)) = false := by simp; omega
    have h50' : n ≤ 50 := by omega
    go_wp2_with fail
    clear k1 h50
    go_loopw [9] (fun i wr => ∃ k : Nat, k ≤ n ∧ i = .int .i64 k ∧ w = wr) (fun i _ => n - (intOf i).toNat)
    case atStart => exact ⟨0, Nat.zero_le _, rfl, rfl⟩
    case round =>
      obtain ⟨k, hk, rfl, rfl⟩ := hrel
      by_cases hlt : k < n
      · have hkl : k < l.length := by have := Hn.out; omega
        obtain ⟨b, off, rfl, d0, d1, hs1, hs2⟩ := Hg.out k _ (List.getElem?_eq_getElem hkl)
        obtain ⟨x, hx⟩ : ∃ x, x = l[k] := ⟨_, rfl⟩
        rw [← hx] at d0 d1 hs1 hs2
        obtain ⟨s, hs⟩ : ∃ s, s = x.1 := ⟨_, rfl⟩
        obtain ⟨t, ht⟩ : ∃ s, s = x.2 := ⟨_, rfl⟩
        rw [← hs] at d0 hs1
        rw [← ht] at d1 hs2
        have k5 : (0 : Int) ≤ (k : Int) := by omega
        have k6 : (k : Int) < (n : Int) := by omega
        clear hx hkl hs ht
        by_cases h100 : 100 < s.size
        · have k7 : decide ((100 : Int) < (s.size : Int)) = true := by simp; omega
          go_wp2_with fail
          go_ret
          exact ⟨⟨true, rfl, fun h => by cases h⟩, rfl⟩
        · have k7 : decide ((100 : Int) < (s.size : Int)) = false := by simp; omega
          by_cases hm20 : 100 < t.size
          · have k8 : decide ((100 : Int) < (t.size : Int)) = true := by simp; omega
            go_wp2_with fail
            go_ret
            exact ⟨⟨true, rfl, fun h => by cases h⟩, rfl⟩
          · have k8 : decide ((100 : Int) < (t.size : Int)) = false := by simp; omega
            go_wp2_with fail
            go_roundw
            case rel => exact ⟨k + 1, by omega, by go_num, by first | rfl | trivial⟩
            case measure => simp [intOf]; omega
      · obtain rfl : k = n := by omega
        go_wp2_with fail
        go_ret
        exact ⟨⟨false, rfl, fun _ => by have := Hn.out; omega⟩, rfl⟩
set_option maxRecDepth 10000 in
set_option maxHeartbeats 2000000 in
theorem wishRef_any {w : World} {v : Value} {l : List Setg} (h : RSets w [v] l) : Calls Try.prog 31 #[v] w fun e w' => (∃ r, e = .returned (.bool r)) ∧ ∃ q, w' = w.drewN q := by
  obtain ⟨a, cap, rfl, hz, g⟩ := sets_open h
  obtain ⟨n, hn⟩ : ∃ n, n = l.length := ⟨_, rfl⟩
  rw [← hn] at hz h ⊢
  have Hh := Lib.hid h; have Hg := Lib.hid g; have Hn := Lib.hid hn; clear h g hn
  go_enter Try.func31, Try.ntmps31
  go_wp2_with fail
  go_loopw [6] (fun i wr => ∃ k : Nat, k ≤ n ∧ i = .int .i64 k ∧ ∃ q, wr = w.drewN q) (fun i _ => n - (intOf i).toNat)
  case atStart => exact ⟨0, Nat.zero_le _, rfl, 0, rfl⟩
  case round =>
    obtain ⟨k, hk, rfl, q, rfl⟩ := hrel
    by_cases hlt : k < n
    · have hkl : k < l.length := by have := Hn.out; omega
      obtain ⟨b, off, rfl, d0, d1, hs1, hs2⟩ := Hg.out k _ (List.getElem?_eq_getElem hkl)
      obtain ⟨x, hx⟩ : ∃ x, x = l[k] := ⟨_, rfl⟩
      rw [← hx] at d0 d1 hs1 hs2
      obtain ⟨s, hs⟩ : ∃ s, s = x.1 := ⟨_, rfl⟩
      obtain ⟨t, ht⟩ : ∃ s, s = x.2 := ⟨_, rfl⟩
      rw [← hs] at d0 hs1
      rw [← ht] at d1 hs2
      have hN := fun (W : World) => (nameRef_any s hs1 W).mono (fun e w' (⟨he, hw⟩ : _ ∧ W = w') => (⟨he, 0, hw.symm⟩ : e = _ ∧ ∃ m, w' = W.drewN m))
      have hV := fun (W : World) => (valueRef_any t hs2 W).mono (fun e w' (⟨he, hw⟩ : _ ∧ W = w') => (⟨he, 0, hw.symm⟩ : e = _ ∧ ∃ m, w' = W.drewN m))
      obtain ⟨p1, hp1⟩ : ∃ p, p = nameOf s.data.toList := ⟨_, rfl⟩
      obtain ⟨p2, hp2⟩ : ∃ p, p = valueOf t.data.toList := ⟨_, rfl⟩
      rw [← hp1] at hN
      rw [← hp2] at hV
      have k5 : (0 : Int) ≤ (k : Int) := by omega
      have k6 : (k : Int) < (n : Int) := by omega
      clear hx hkl hs ht
      have HN := Lib.hid hN; have HV := Lib.hid hV; have Hp1 := Lib.hid hp1; have Hp2 := Lib.hid hp2; clear hN hV hp1 hp2
      cases p1 with
      | false =>
        go_wp2_with fail
        go_quiet (first | (go_at_call 18; exact quiet_addl (HN.out _)) | (go_at_call 20; exact quiet_addl (HV.out _)))
        go_wp2_with fail
        go_ret
        exact ⟨⟨_, rfl⟩, _, by rw [World.drewN_drewN]⟩
      | true =>
        cases p2 with
        | false =>
          go_wp2_with fail
          go_quiet (first | (go_at_call 18; exact quiet_addl (HN.out _)) | (go_at_call 20; exact quiet_addl (HV.out _)))
          go_wp2_with fail
          go_ret
          exact ⟨⟨_, rfl⟩, _, by rw [World.drewN_drewN]⟩
        | true =>
          by_cases h0 : 0 < k
          · obtain ⟨k', rfl⟩ : ∃ k', k = k' + 1 := ⟨k - 1, by omega⟩
            have hkl' : k' < l.length := by have := Hn.out; omega
            obtain ⟨b2, off2, e2, f0, f1, hs3, hs4⟩ := Hg.out k' _ (List.getElem?_eq_getElem hkl')
            injection e2 with e2
            injection e2 with e3 e4
            subst e3 e4
            obtain ⟨z, hz4⟩ : ∃ z, z = l[k'].1 := ⟨_, rfl⟩
            rw [← hz4] at f0 hs3
            clear hz4 hkl' f1 hs4
            have k7 : decide ((0 : Int) < ((k' + 1 : Nat) : Int)) = true := by rw [decide_eq_true_eq]; omega
            have k8 : (((k' + 1 : Nat) : Int) - 1) = (k' : Int) := by omega
            have k11 : IntKind.i64.wrap (((k' + 1 : Nat) : Int) - 1) = (k' : Int) := by rw [k8]; exact IntWalk.i64_in _ (by omega)
            have k9 : (0 : Int) ≤ (k' : Int) := by omega
            have k10 : (k' : Int) < (n : Int) := by omega
            go_wp2_with fail
            go_quiet (first | (go_at_call 18; exact quiet_addl (HN.out _)) | (go_at_call 20; exact quiet_addl (HV.out _)))
            cases Op.bytesLess z.toList s.toList with
            | true =>
              go_wp2_with fail
              go_roundw
              case rel => exact ⟨k' + 1 + 1, by omega, by go_num, _, rfl⟩
              case measure => simp [intOf]; omega
            | false =>
              go_wp2_with fail
              go_ret
              exact ⟨⟨_, rfl⟩, _, by rw [World.drewN_drewN]⟩
          · have k7 : decide ((0 : Int) < (k : Int)) = false := by rw [decide_eq_false_iff_not]; omega
            go_wp2_with fail
            go_quiet (first | (go_at_call 18; exact quiet_addl (HN.out _)) | (go_at_call 20; exact quiet_addl (HV.out _)))
            go_wp2_with fail
            go_roundw
            case rel => exact ⟨k + 1, by omega, by go_num, _, rfl⟩
            case measure => simp [intOf]; omega
    · obtain rfl : n = k := by omega
      go_wp2_with fail
      go_ret
      exact ⟨⟨_, rfl⟩, _, rfl⟩
end Go.Proofs.Ytnelgellbabkoaa
