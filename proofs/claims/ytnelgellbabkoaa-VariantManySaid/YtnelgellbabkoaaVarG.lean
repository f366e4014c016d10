/- The walks of cooperref01.Great and cooperref04.GreatVariants: a bound. No condition. -/
import Derived.Test.YtnelgellbabkoaaVarP
namespace Go.Proofs.Ytnelgellbabkoaa
open Go.RowKit Go.Shelf

set_option maxRecDepth 10000 in
set_option maxHeartbeats 1000000 in
theorem great01_any {w : World} {v : Value} {l : List ByteArray} (h : RSs w [v] l) : Calls Try.prog 66 #[v] w fun e w' => (∃ r, e = .returned (.bool r)) ∧ w = w' := by
  obtain ⟨a, cap, rfl, hz, g⟩ := strs_open h
  obtain ⟨n, hn⟩ : ∃ n, n = l.length := ⟨_, rfl⟩
  rw [← hn] at hz h ⊢
  have Hh := Lib.hid h; have Hg := Lib.hid g; have Hn := Lib.hid hn; clear h g hn
  go_enter Try.func66, Try.ntmps66
  go_wp2_with fail
  go_loopw [3, 7] (fun o i wr => ∃ k c : Nat, k ≤ n ∧ i = .int .i64 k ∧ o = .int .i64 c ∧ c ≤ 9000 ∧ w = wr) (fun _ i _ => n - (intOf i).toNat)
  case atStart => exact ⟨0, 0, Nat.zero_le _, rfl, rfl, by omega, rfl⟩
  case round =>
    obtain ⟨k, c, hk, rfl, rfl, hc, rfl⟩ := hrel
    by_cases hlt : k < n
    · have hkl : k < l.length := by have := Hn.out; omega
      obtain ⟨b, off, rfl, d0, hsx⟩ := Hg.out k hkl
      obtain ⟨x, hx⟩ : ∃ x, x = l[k] := ⟨_, rfl⟩
      rw [← hx] at d0 hsx
      obtain ⟨q, hq⟩ : ∃ q, q = min x.size 9000 := ⟨_, rfl⟩
      have hq9 : q ≤ 9000 := by omega
      have k5 : (0 : Int) ≤ (k : Int) := by omega
      have k6 : (k : Int) < (n : Int) := by omega
      clear hx hkl
      by_cases hbig : 9000 < c + (1 + q)
      · have k7 : decide ((9000 : Int) < (c : Int) + (1 + (q : Int))) = true := by simp; omega
        go_wp2_with fail
        go_ret
        exact ⟨⟨_, rfl⟩, rfl⟩
      · have k7 : decide ((9000 : Int) < (c : Int) + (1 + (q : Int))) = false := by simp; omega
        go_wp2_with fail
        go_roundw
        case rel => exact ⟨k + 1, c + (1 + q), by omega, by go_num, by rw [show (c : Int) + (1 + min (x.size : Int) 9000) = ((c + (1 + q) : Nat) : Int) by omega], by omega, by first | rfl | trivial⟩
        case measure => simp [intOf]; omega
    · obtain rfl : k = n := by omega
      go_wp2_with fail
      go_ret
      exact ⟨⟨_, rfl⟩, rfl⟩
set_option maxRecDepth 10000 in
set_option maxHeartbeats 1000000 in
theorem greatVars_any {w : World} {v : Value} {l : List Var} (h : RVars w [v] l) : Calls Try.prog 21 #[v] w fun e w' => (∃ r, e = .returned (.bool r) ∧ (r = false → l.length ≤ 20 ∧ ∀ x ∈ l, x.2.length ≤ 20)) ∧ w = w' := by
  obtain ⟨a, cap, rfl, hz, g⟩ := vars_open h
  obtain ⟨n, hn⟩ : ∃ n, n = l.length := ⟨_, rfl⟩
  rw [← hn] at hz h ⊢
  have Hh := Lib.hid h; have Hg := Lib.hid g; have Hn := Lib.hid hn; clear h g hn
  go_enter Try.func21, Try.ntmps21
  by_cases h20 : 20 < n
  · have k1 : decide ((20 : Int) < (n : Int)) = true := by simp; omega
    go_wp2_with fail
    go_ret
    exact ⟨⟨true, rfl, fun h => by cases h⟩, rfl⟩
  · have k1 : decide ((20 : Int) < (n : Int)) = false := by simp; omega
    have h20' : n ≤ 20 := by omega
    go_wp2_with fail
    clear k1 h20
    go_loopw [9] (fun i wr => ∃ k : Nat, k ≤ n ∧ i = .int .i64 k ∧ (∀ x ∈ l.take k, x.2.length ≤ 20) ∧ w = wr) (fun i _ => n - (intOf i).toNat)
    case atStart => exact ⟨0, Nat.zero_le _, rfl, by simp, rfl⟩
    case round =>
      obtain ⟨k, hk, rfl, hall, rfl⟩ := hrel
      by_cases hlt : k < n
      · have hkl : k < l.length := by have := Hn.out; omega
        obtain ⟨b, off, u, rfl, d0, d1, hsx, hu⟩ := Hg.out k hkl
        obtain ⟨x, hx⟩ : ∃ x, x = l[k] := ⟨_, rfl⟩
        rw [← hx] at d0 hu hsx
        obtain ⟨ua, uc, rfl, hz2, _⟩ := strs_open hu
        have hG := great01_any hu
        obtain ⟨m, hm⟩ : ∃ m, m = x.2.length := ⟨_, rfl⟩
        rw [← hm] at d1 hu hz2 hG
        have hnext : m ≤ 20 → ∀ y ∈ l.take (k + 1), y.2.length ≤ 20 := fun h y hy => by
          rw [List.take_succ_eq_append_getElem hkl, ← hx] at hy
          rcases List.mem_append.1 hy with hy | hy
          · exact hall y hy
          · simp at hy; subst hy; omega
        obtain ⟨s, hs⟩ : ∃ s, s = x.1 := ⟨_, rfl⟩
        rw [← hs] at d0 hsx
        have k5 : (0 : Int) ≤ (k : Int) := by omega
        have k6 : (k : Int) < (n : Int) := by omega
        clear hx hkl
        have Hall := Lib.hid hall; have Hu := Lib.hid hu; have HG := Lib.hid hG; have Hm := Lib.hid hm; have Hs := Lib.hid hs; have Hnext := Lib.hid hnext; clear hall hu hG hm hs hnext
        by_cases h100 : 100 < s.size
        · have k7 : decide ((100 : Int) < (s.size : Int)) = true := by simp; omega
          go_wp2_with fail
          go_ret
          exact ⟨⟨true, rfl, fun h => by cases h⟩, rfl⟩
        · have k7 : decide ((100 : Int) < (s.size : Int)) = false := by simp; omega
          by_cases hm20 : 20 < m
          · have k8 : decide ((20 : Int) < (m : Int)) = true := by simp; omega
            go_wp2_with fail
            go_ret
            exact ⟨⟨true, rfl, fun h => by cases h⟩, rfl⟩
          · have k8 : decide ((20 : Int) < (m : Int)) = false := by simp; omega
            have hnx := Hnext.out (by omega)
            have Hnx := Lib.hid hnx; clear hnx
            go_wp2_with fail
            refine HG.out.mono ?_
            rintro e w1 ⟨⟨r, rfl⟩, rfl⟩
            cases r with
            | true =>
              go_wp2_with fail
              go_ret
              exact ⟨⟨true, rfl, fun h => by cases h⟩, rfl⟩
            | false =>
              go_wp2_with fail
              go_roundw
              case rel => exact ⟨k + 1, by omega, by go_num, Hnx.out, by first | rfl | trivial⟩
              case measure => simp [intOf]; omega
      · obtain rfl : k = n := by omega
        have e : l.take k = l := List.take_of_length_le (by have := Hn.out; omega)
        rw [e] at hall
        have hfin : k ≤ 20 ∧ ∀ x ∈ l, x.2.length ≤ 20 := ⟨h20', hall⟩
        clear e hall
        have Hfin := Lib.hid hfin; clear hfin
        go_wp2_with fail
        go_ret
        exact ⟨⟨false, rfl, fun _ => Hfin.out⟩, rfl⟩
end Go.Proofs.Ytnelgellbabkoaa
