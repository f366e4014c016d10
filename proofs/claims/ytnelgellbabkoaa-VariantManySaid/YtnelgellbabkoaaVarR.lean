/- The walks of cooperref04.Name and Value. Condition: the text's reach. -/
import Derived.Test.YtnelgellbabkoaaVarN
namespace Go.Proofs.Ytnelgellbabkoaa
open Go.RowKit
open VarM (letN digN okN okB digB nameOf valueOf digsOf headN)

set_option maxRecDepth 10000 in
set_option maxHeartbeats 1000000 in
theorem nameRef_any (s : ByteArray) (hs : s.size ≤ 9223372036854775807) (w : World) : Calls Try.prog 18 #[.string s] w fun e w' => e = .returned (.bool (nameOf s.data.toList)) ∧ w = w' := by
  obtain ⟨l, hl⟩ : ∃ l, l = s.data.toList := ⟨_, rfl⟩
  have hln : l.length = s.size := by rw [hl]; exact dl s
  obtain ⟨r, hr⟩ : ∃ r, r = nameOf l := ⟨_, rfl⟩
  have hh := head_is s
  rw [← hl] at hh
  have hlen : ∀ (P : Prop), (nameOf l = true → P) → (¬ P) → r = false := fun P h hp => by
    rw [hr, Bool.eq_false_iff]; exact fun h2 => hp (h h2)
  rw [← hl, ← hr]
  by_cases h0 : 0 < s.size
  · have k3 : ¬ s.toList = [] := by rw [empty_iff]; omega
    have k1 : s.toList.isEmpty = false := by rw [Bool.eq_false_iff]; intro h; rw [List.isEmpty_iff, empty_iff] at h; omega
    by_cases h24 : s.size ≤ 24
    · obtain ⟨n, hn⟩ : ∃ n, n = s[0].toNat := ⟨_, rfl⟩
      have hn256 : n < 256 := by rw [hn]; exact s[0].toNat_lt
      have hsk0 : s[0].toNat = n := hn.symm
      have hhn : headN l = n := by rw [hh h0, hsk0]
      have k4 : decide (24 < (s.size : Int)) = false := decide_eq_false (by omega)
      have hhead : letN n = false → r = false := fun h => by rw [hr]; exact VarM.name_head (by rw [hhn]; exact h)
      clear hn
      rcases Nat.lt_or_ge n 97 with h1 | h1
      · have hf := hhead (by unfold letN; rw [decide_eq_false (by omega)]; rfl)
        have k5 : decide ((n : Int) < 97) = true := decide_eq_true (by omega)
        have Hl := Lib.hid hl; have Hln := Lib.hid hln; have Hr := Lib.hid hr; have Hh := Lib.hid hh; have Hlen := Lib.hid hlen; have Hhn := Lib.hid hhn; have Hhead := Lib.hid hhead; have Hf := Lib.hid hf; clear hl hln hr hh hlen hhn hhead hf
        go_enter Try.func18, Try.ntmps18
        go_wp2_with fail
        go_ret
        exact ⟨ret_bool Hf.out.symm, rfl⟩
      · have k5 : decide ((n : Int) < 97) = false := decide_eq_false (by omega)
        rcases Nat.lt_or_ge 122 n with h2 | h2
        · have hf := hhead (by unfold letN; rw [decide_eq_false (p := n ≤ 122) (by omega)]; simp)
          have k6 : decide (122 < (n : Int)) = true := decide_eq_true (by omega)
          have Hl := Lib.hid hl; have Hln := Lib.hid hln; have Hr := Lib.hid hr; have Hh := Lib.hid hh; have Hlen := Lib.hid hlen; have Hhn := Lib.hid hhn; have Hhead := Lib.hid hhead; have Hf := Lib.hid hf; clear hl hln hr hh hlen hhn hhead hf
          go_enter Try.func18, Try.ntmps18
          go_wp2_with fail
          go_ret
          exact ⟨ret_bool Hf.out.symm, rfl⟩
        · have k6 : decide (122 < (n : Int)) = false := decide_eq_false (by omega)
          have hL : letN n = true := by unfold letN; rw [decide_eq_true h1, decide_eq_true h2]; rfl
          have hv : r = l.all okB := by
            rw [hr]; unfold nameOf
            rw [hhn, hL, hln, decide_eq_true h0, decide_eq_true h24]; simp
          have Hl := Lib.hid hl; have Hln := Lib.hid hln; have Hr := Lib.hid hr; have Hh := Lib.hid hh; have Hlen := Lib.hid hlen; have Hhn := Lib.hid hhn; have Hhead := Lib.hid hhead; have HL := Lib.hid hL; have Hv := Lib.hid hv; clear hl hln hr hh hlen hhn hhead hL hv
          go_enter Try.func18, Try.ntmps18
          go_wp2_with fail
          clear k4 k5 k6 hsk0 h1 h2 hn256
          go_loop [3] (fun i => ∃ k : Nat, k ≤ s.size ∧ i = .int .i64 k ∧ (l.take k).all okB = true) (fun i => s.size - (intOf i).toNat)
          case atStart => exact ⟨0, Nat.zero_le _, rfl, by simp⟩
          case round =>
            obtain ⟨k, hk, rfl, hall⟩ := hrel
            by_cases hlt : k < s.size
            · have hkl : k < l.length := by have := Hln.out; omega
              obtain ⟨n, hn⟩ : ∃ n, n = s[k].toNat := ⟨_, rfl⟩
              have hn256 : n < 256 := by rw [hn]; exact s[k].toNat_lt
              have hck : okB l[k] = okN n := by
                have e : l[k] = s[k] := by simp only [Hl.out]; rfl
                unfold okB
                rw [e, hn]
              have hsk : s[k].toNat = n := hn.symm
              have hyes : okN n = true → (l.take (k + 1)).all okB = true := fun h => VarM.all_succ hkl hall (by rw [hck]; exact h)
              have hno : okN n = false → r = false := fun h => by rw [Hv.out]; exact VarM.all_no hkl (by rw [hck]; exact h)
              clear hn hck
              clear hkl
              have hcase : (97 ≤ n ∧ n ≤ 122) ∨ (48 ≤ n ∧ n ≤ 57) ∨ n = 45 ∨ (n < 45) ∨ (45 < n ∧ n < 48) ∨ (57 < n ∧ n < 97) ∨ 122 < n := by omega
              rcases hcase with ⟨c1, c2⟩ | ⟨c1, c2⟩ | rfl | c1 | ⟨c1, c2⟩ | ⟨c1, c2⟩ | c1
              · have hnext := hyes (VarM.okN_let (by unfold letN; rw [decide_eq_true c1, decide_eq_true c2]; rfl))
                have m1 : decide (97 ≤ (n : Int)) = true := decide_eq_true (by omega)
                have m2 : decide ((n : Int) ≤ 122) = true := decide_eq_true (by omega)
                have Hall := Lib.hid hall; have Hyes := Lib.hid hyes; have Hno := Lib.hid hno; have Hnext := Lib.hid hnext; clear hall hyes hno hnext
                go_wp2_with fail
                go_round
                case rel => exact ⟨k + 1, by omega, by go_num, Hnext.out⟩
                case measure => simp [intOf]; omega
              · have hnext := hyes (VarM.okN_dig (by unfold digN; rw [decide_eq_true c1, decide_eq_true c2]; rfl))
                have m1 : decide (97 ≤ (n : Int)) = false := decide_eq_false (by omega)
                have m3 : decide (48 ≤ (n : Int)) = true := decide_eq_true (by omega)
                have m4 : decide ((n : Int) ≤ 57) = true := decide_eq_true (by omega)
                have Hall := Lib.hid hall; have Hyes := Lib.hid hyes; have Hno := Lib.hid hno; have Hnext := Lib.hid hnext; clear hall hyes hno hnext
                go_wp2_with fail
                go_round
                case rel => exact ⟨k + 1, by omega, by go_num, Hnext.out⟩
                case measure => simp [intOf]; omega
              · have hnext := hyes rfl
                have Hall := Lib.hid hall; have Hyes := Lib.hid hyes; have Hno := Lib.hid hno; have Hnext := Lib.hid hnext; clear hall hyes hno hnext
                go_wp2_with fail
                go_round
                case rel => exact ⟨k + 1, by omega, by go_num, Hnext.out⟩
                case measure => simp [intOf]; omega
              all_goals
                have hf := hno (VarM.okN_no (by unfold letN; first | (rw [decide_eq_false (p := 97 ≤ n) (by omega)]; rfl) | (rw [decide_eq_false (p := n ≤ 122) (by omega)]; simp)) (by unfold digN; first | (rw [decide_eq_false (p := 48 ≤ n) (by omega)]; rfl) | (rw [decide_eq_false (p := n ≤ 57) (by omega)]; simp)) (by omega))
                have m5 : ((n : Int) == 45) = false := by rw [beq_eq_false_iff_ne]; omega
                first
                  | (have m1 : decide (97 ≤ (n : Int)) = false := decide_eq_false (by omega))
                  | (have m1 : decide (97 ≤ (n : Int)) = true := decide_eq_true (by omega))
                first
                  | (have m2 : decide ((n : Int) ≤ 122) = true := decide_eq_true (by omega))
                  | (have m2 : decide ((n : Int) ≤ 122) = false := decide_eq_false (by omega))
                first
                  | (have m3 : decide (48 ≤ (n : Int)) = true := decide_eq_true (by omega))
                  | (have m3 : decide (48 ≤ (n : Int)) = false := decide_eq_false (by omega))
                first
                  | (have m4 : decide ((n : Int) ≤ 57) = true := decide_eq_true (by omega))
                  | (have m4 : decide ((n : Int) ≤ 57) = false := decide_eq_false (by omega))
                have Hall := Lib.hid hall; have Hyes := Lib.hid hyes; have Hno := Lib.hid hno; have Hf := Lib.hid hf; clear hall hyes hno hf
                go_wp2_with fail
                go_ret
                exact ⟨ret_bool Hf.out.symm, rfl⟩
            · obtain rfl : k = s.size := by omega
              have hall2 : l.all okB = true := by rw [List.take_of_length_le (by have := Hln.out; omega)] at hall; exact hall
              have hf : r = true := by rw [Hv.out, hall2]
              have Hall := Lib.hid hall; have Hall2 := Lib.hid hall2; have Hf := Lib.hid hf; clear hall hall2 hf
              go_wp2_with fail
              go_ret
              exact ⟨ret_bool Hf.out.symm, rfl⟩
    · have hf := hlen (s.size ≤ 24) (fun h => by have := (VarM.name_pos h).2; omega) h24
      have k2 : (24 : Int) < (s.size : Int) := by omega
      have k4 : decide (24 < (s.size : Int)) = true := by simpa using k2
      have Hl := Lib.hid hl; have Hln := Lib.hid hln; have Hr := Lib.hid hr; have Hh := Lib.hid hh; have Hlen := Lib.hid hlen; have Hf := Lib.hid hf; clear hl hln hr hh hlen hf
      go_enter Try.func18, Try.ntmps18
      go_wp2_with fail
      go_ret
      exact ⟨ret_bool Hf.out.symm, rfl⟩
  · have hf := hlen (0 < s.size) (fun h => by have := (VarM.name_pos h).1; omega) h0
    have k3 : s.toList = [] := by rw [empty_iff]; omega
    have k1 : s.toList.isEmpty = true := by rw [k3]; rfl
    have Hl := Lib.hid hl; have Hln := Lib.hid hln; have Hr := Lib.hid hr; have Hh := Lib.hid hh; have Hlen := Lib.hid hlen; have Hf := Lib.hid hf; clear hl hln hr hh hlen hf
    go_enter Try.func18, Try.ntmps18
    go_wp2_with fail
    go_ret
    exact ⟨ret_bool Hf.out.symm, rfl⟩
set_option maxRecDepth 10000 in
set_option maxHeartbeats 1000000 in
theorem valueRef_any (s : ByteArray) (hs : s.size ≤ 9223372036854775807) (w : World) : Calls Try.prog 20 #[.string s] w fun e w' => e = .returned (.bool (valueOf s.data.toList)) ∧ w = w' := by
  have hN := fun W => nameRef_any s hs W
  have hD := fun W => digits_any s hs W
  obtain ⟨l, hl⟩ : ∃ l, l = s.data.toList := ⟨_, rfl⟩
  have hln : l.length = s.size := by rw [hl]; exact dl s
  obtain ⟨r, hr⟩ : ∃ r, r = valueOf l := ⟨_, rfl⟩
  rw [← hl] at hN hD
  rw [← hl, ← hr]
  cases hq : nameOf l with
  | true =>
    rw [hq] at hN
    have hf : r = true := by rw [hr]; unfold valueOf; rw [hq]; rfl
    have Hl := Lib.hid hl; have Hln := Lib.hid hln; have Hr := Lib.hid hr; have HN := Lib.hid hN; have HD := Lib.hid hD; have Hf := Lib.hid hf; have Hq := Lib.hid hq; clear hl hln hr hN hD hf hq
    go_enter Try.func20, Try.ntmps20
    go_wp2_with fail
    refine (HN.out _).mono ?_
    rintro e w1 ⟨rfl, rfl⟩
    go_wp2_with fail
    go_ret
    exact ⟨ret_bool Hf.out.symm, rfl⟩
  | false =>
    rw [hq] at hN
    have hv : r = (digsOf l && decide (s.size ≤ 3)) := by rw [hr]; unfold valueOf; rw [hq, hln]; rfl
    cases hd : digsOf l with
    | false =>
      have hf : r = false := by rw [hv, hd]; rfl
      rw [hd] at hD
      have Hl := Lib.hid hl; have Hln := Lib.hid hln; have Hr := Lib.hid hr; have HN := Lib.hid hN; have HD := Lib.hid hD; have Hv := Lib.hid hv; have Hq := Lib.hid hq; have Hf := Lib.hid hf; have Hd := Lib.hid hd; clear hl hln hr hN hD hv hq hf hd
      go_enter Try.func20, Try.ntmps20
      go_wp2_with fail
      refine (HN.out _).mono ?_
      rintro e w1 ⟨rfl, rfl⟩
      go_wp2_with fail
      refine (HD.out _).mono ?_
      rintro e w1 ⟨rfl, rfl⟩
      go_wp2_with fail
      go_ret
      exact ⟨ret_bool Hf.out.symm, rfl⟩
    | true =>
      rw [hd] at hD
      have hf : r = decide (s.size ≤ 3) := by rw [hv, hd]; rfl
      have Hl := Lib.hid hl; have Hln := Lib.hid hln; have Hr := Lib.hid hr; have HN := Lib.hid hN; have HD := Lib.hid hD; have Hv := Lib.hid hv; have Hq := Lib.hid hq; have Hf := Lib.hid hf; have Hd := Lib.hid hd; clear hl hln hr hN hD hv hq hf hd
      go_enter Try.func20, Try.ntmps20
      go_wp2_with fail
      refine (HN.out _).mono ?_
      rintro e w1 ⟨rfl, rfl⟩
      go_wp2_with fail
      refine (HD.out _).mono ?_
      rintro e w1 ⟨rfl, rfl⟩
      go_wp2_with fail
      go_ret
      exact ⟨ret_bool (by rw [Hf.out, decide_eq_decide]; omega), rfl⟩
end Go.Proofs.Ytnelgellbabkoaa
