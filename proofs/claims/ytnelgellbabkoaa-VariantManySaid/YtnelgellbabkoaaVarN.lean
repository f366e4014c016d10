/- The walks of variant.Name, variant.Value and the reference's. Condition: the text's reach. -/
import Derived.Test.YtnelgellbabkoaaKit
import Derived.Test.YtnelgellbabkoaaVarM
import Derived.Test.YtnelgellbabkoaaRows
import Derived.Lib.Strings
namespace Go.Proofs.Ytnelgellbabkoaa
open Go.RowKit
open VarM (letN digN okN okB digB nameOf valueOf digsOf headN)

theorem dl (s : ByteArray) : s.data.toList.length = s.size := by rw [Array.length_toList]; rfl
theorem dget (s : ByteArray) (k : Nat) (h : k < s.size) : s.data.toList[k]'(by rw [dl]; exact h) = s[k] := rfl
set_option maxRecDepth 10000 in
theorem letter_any (n : Nat) (h : n < 256) (w : World) : Calls Try.prog 63 #[.int .u8 (n : Int)] w fun e w' => e = .returned (.bool (letN n)) ∧ w = w' := by
  obtain ⟨r, hr⟩ : ∃ r, r = letN n := ⟨_, rfl⟩
  rw [← hr]
  rcases Nat.lt_or_ge n 97 with h1 | h1
  · have hf : r = false := by rw [hr]; unfold letN; rw [decide_eq_false (by omega)]; rfl
    have Hr := Lib.hid hr; have Hf := Lib.hid hf; clear hr hf
    go_enter Try.func63, Try.ntmps63
    go_wp2_with fail
    go_ret
    exact ⟨ret_bool Hf.out.symm, rfl⟩
  · rcases Nat.lt_or_ge 122 n with h2 | h2
    · have hf : r = false := by rw [hr]; unfold letN; rw [decide_eq_false (p := n ≤ 122) (by omega)]; simp
      have k2 : decide ((n : Int) ≤ 122) = false := by simp; omega
      have Hr := Lib.hid hr; have Hf := Lib.hid hf; clear hr hf
      go_enter Try.func63, Try.ntmps63
      go_wp2_with fail
      go_ret
      exact ⟨ret_bool Hf.out.symm, rfl⟩
    · have hf : r = true := by rw [hr]; unfold letN; rw [decide_eq_true h1, decide_eq_true h2]; rfl
      have k2 : decide ((n : Int) ≤ 122) = true := by simp; omega
      have Hr := Lib.hid hr; have Hf := Lib.hid hf; clear hr hf
      go_enter Try.func63, Try.ntmps63
      go_wp2_with fail
      go_ret
      exact ⟨ret_bool Hf.out.symm, rfl⟩
set_option maxRecDepth 10000 in
theorem digit_any (n : Nat) (h : n < 256) (w : World) : Calls Try.prog 64 #[.int .u8 (n : Int)] w fun e w' => e = .returned (.bool (digN n)) ∧ w = w' := by
  obtain ⟨r, hr⟩ : ∃ r, r = digN n := ⟨_, rfl⟩
  rw [← hr]
  rcases Nat.lt_or_ge n 48 with h1 | h1
  · have hf : r = false := by rw [hr]; unfold digN; rw [decide_eq_false (by omega)]; rfl
    have Hr := Lib.hid hr; have Hf := Lib.hid hf; clear hr hf
    go_enter Try.func64, Try.ntmps64
    go_wp2_with fail
    go_ret
    exact ⟨ret_bool Hf.out.symm, rfl⟩
  · rcases Nat.lt_or_ge 57 n with h2 | h2
    · have hf : r = false := by rw [hr]; unfold digN; rw [decide_eq_false (p := n ≤ 57) (by omega)]; simp
      have k2 : decide ((n : Int) ≤ 57) = false := by simp; omega
      have Hr := Lib.hid hr; have Hf := Lib.hid hf; clear hr hf
      go_enter Try.func64, Try.ntmps64
      go_wp2_with fail
      go_ret
      exact ⟨ret_bool Hf.out.symm, rfl⟩
    · have hf : r = true := by rw [hr]; unfold digN; rw [decide_eq_true h1, decide_eq_true h2]; rfl
      have k2 : decide ((n : Int) ≤ 57) = true := by simp; omega
      have Hr := Lib.hid hr; have Hf := Lib.hid hf; clear hr hf
      go_enter Try.func64, Try.ntmps64
      go_wp2_with fail
      go_ret
      exact ⟨ret_bool Hf.out.symm, rfl⟩
theorem head_is (s : ByteArray) (h : 0 < s.size) : headN s.data.toList = s[0].toNat := by
  unfold headN
  have e : s.data.toList = s[0] :: s.data.toList.drop 1 := by
    have := List.drop_eq_getElem_cons (l := s.data.toList) (i := 0) (by rw [dl]; exact h)
    rw [List.drop_zero] at this
    exact this
  rw [e]; rfl
set_option maxRecDepth 10000 in
set_option maxHeartbeats 1000000 in
theorem name_any (s : ByteArray) (hs : s.size ≤ 9223372036854775807) (w : World) : Calls Try.prog 17 #[.string s] w fun e w' => e = .returned (.bool (nameOf s.data.toList)) ∧ w = w' := by
  obtain ⟨l, hl⟩ : ∃ l, l = s.data.toList := ⟨_, rfl⟩
  have hln : l.length = s.size := by rw [hl]; exact dl s
  obtain ⟨r, hr⟩ : ∃ r, r = nameOf l := ⟨_, rfl⟩
  rw [← hl, ← hr]
  have hh := head_is s
  rw [← hl] at hh
  have Hl := Lib.hid hl; have Hln := Lib.hid hln; have Hr := Lib.hid hr; have Hh := Lib.hid hh; clear hl hln hr hh
  go_enter Try.func17, Try.ntmps17
  go_wp2_with fail
  go_loop [6] (fun i => ∃ k : Nat, k ≤ s.size ∧ i = .int .i64 k ∧ (l.take k).all okB = true) (fun i => s.size - (intOf i).toNat)
  case atStart => exact ⟨0, Nat.zero_le _, rfl, by simp⟩
  case round =>
    obtain ⟨k, hk, rfl, hall⟩ := hrel
    by_cases hlt : k < s.size
    · have hkl : k < l.length := by have := Hln.out; omega
      obtain ⟨n, hn⟩ : ∃ n, n = s[k].toNat := ⟨_, rfl⟩
      have hn256 : n < 256 := by rw [hn]; exact s[k].toNat_lt
      have hck : okB l[k] = okN n := by
        have e : l[k] = s[k] := by simp only [Hl.out]; rfl
        unfold okB
        rw [e, hn]
      have hL := fun W => letter_any n hn256 W
      have hD := fun W => digit_any n hn256 W
      have hsk : s[k].toNat = n := hn.symm
      have hyes : okN n = true → (l.take (k + 1)).all okB = true := fun h => VarM.all_succ hkl hall (by rw [hck]; exact h)
      have hno : okN n = false → r = false := fun h => by rw [Hr.out]; exact VarM.name_no (VarM.all_no hkl (by rw [hck]; exact h))
      clear hn hck
      clear hkl
      cases h1 : letN n with
      | true =>
        have hnext := hyes (VarM.okN_let h1)
        rw [h1] at hL
        have Hall := Lib.hid hall; have HL := Lib.hid hL; have HD := Lib.hid hD; have Hyes := Lib.hid hyes; have Hno := Lib.hid hno; have Hnext := Lib.hid hnext; have H1 := Lib.hid h1; clear hall hL hD hyes hno hnext h1
        go_wp2_with fail
        refine (HL.out _).mono ?_
        rintro e w1 ⟨rfl, rfl⟩
        go_wp2_with fail
        go_round
        case rel => exact ⟨k + 1, by omega, by go_num, Hnext.out⟩
        case measure => simp [intOf]; omega
      | false =>
        rw [h1] at hL
        cases h2 : digN n with
        | true =>
          have hnext := hyes (VarM.okN_dig h2)
          rw [h2] at hD
          have Hall := Lib.hid hall; have HL := Lib.hid hL; have HD := Lib.hid hD; have Hyes := Lib.hid hyes; have Hno := Lib.hid hno; have Hnext := Lib.hid hnext; have H1 := Lib.hid h1; have H2 := Lib.hid h2; clear hall hL hD hyes hno hnext h1 h2
          go_wp2_with fail
          refine (HL.out _).mono ?_
          rintro e w1 ⟨rfl, rfl⟩
          go_wp2_with fail
          refine (HD.out _).mono ?_
          rintro e w1 ⟨rfl, rfl⟩
          go_wp2_with fail
          go_round
          case rel => exact ⟨k + 1, by omega, by go_num, Hnext.out⟩
          case measure => simp [intOf]; omega
        | false =>
          rw [h2] at hD
          by_cases h3 : n = 45
          · have hnext := hyes (by unfold okN; simp [h3])
            have e3 : ((n : Int) != 45) = false := by rw [h3]; rfl
            have Hall := Lib.hid hall; have HL := Lib.hid hL; have HD := Lib.hid hD; have Hyes := Lib.hid hyes; have Hno := Lib.hid hno; have Hnext := Lib.hid hnext; have H1 := Lib.hid h1; have H2 := Lib.hid h2; have H3 := Lib.hid h3; clear hall hL hD hyes hno hnext h1 h2 h3
            go_wp2_with fail
            refine (HL.out _).mono ?_
            rintro e w1 ⟨rfl, rfl⟩
            go_wp2_with fail
            refine (HD.out _).mono ?_
            rintro e w1 ⟨rfl, rfl⟩
            go_wp2_with fail
            go_round
            case rel => exact ⟨k + 1, by omega, by go_num, Hnext.out⟩
            case measure => simp [intOf]; omega
          · have hf := hno (VarM.okN_no h1 h2 h3)
            have e3 : ((n : Int) != 45) = true := by rw [bne_iff_ne]; omega
            have Hall := Lib.hid hall; have HL := Lib.hid hL; have HD := Lib.hid hD; have Hyes := Lib.hid hyes; have Hno := Lib.hid hno; have Hf := Lib.hid hf; have H1 := Lib.hid h1; have H2 := Lib.hid h2; have H3 := Lib.hid h3; clear hall hL hD hyes hno hf h1 h2 h3
            go_wp2_with fail
            refine (HL.out _).mono ?_
            rintro e w1 ⟨rfl, rfl⟩
            go_wp2_with fail
            refine (HD.out _).mono ?_
            rintro e w1 ⟨rfl, rfl⟩
            go_wp2_with fail
            go_ret
            exact ⟨ret_bool Hf.out.symm, rfl⟩
    · obtain rfl : k = s.size := by omega
      have hall2 : l.all okB = true := by rw [List.take_of_length_le (by have := Hln.out; omega)] at hall; exact hall
      have hrr : r = (decide (0 < s.size) && (decide (s.size ≤ 24) && letN (headN l))) := by rw [Hr.out, VarM.name_all hall2, Hln.out]
      by_cases h0 : 0 < s.size
      · by_cases h24 : s.size ≤ 24
        · have hf : r = letN (headN l) := by rw [hrr, decide_eq_true h0, decide_eq_true h24]; rfl
          rw [Hh.out h0] at hf
          obtain ⟨n, hn⟩ : ∃ n, n = s[0].toNat := ⟨_, rfl⟩
          have hn256 : n < 256 := by rw [hn]; exact s[0].toNat_lt
          have hL := fun W => letter_any n hn256 W
          rw [← hn] at hf
          rw [← hf] at hL
          have hsk : s[0].toNat = n := hn.symm
          have k1 : (0 : Int) < (s.size : Int) := by omega
          have k2 : (s.size : Int) ≤ 24 := by omega
          have k3 : decide ((s.size : Int) ≤ 24) = true := by simpa using k2
          clear hn
          have Hall := Lib.hid hall; have Hall2 := Lib.hid hall2; have Hrr := Lib.hid hrr; have Hf := Lib.hid hf; have HL := Lib.hid hL; clear hall hall2 hrr hf hL
          go_wp2_with fail
          refine (HL.out _).mono ?_
          rintro e w1 ⟨rfl, rfl⟩
          go_wp2_with fail
          go_ret
          exact ⟨rfl, rfl⟩
        · have hf : r = false := by rw [hrr, decide_eq_false h24]; simp
          have k2 : (24 : Int) < (s.size : Int) := by omega
          have k3 : decide ((s.size : Int) ≤ 24) = false := by simpa using k2
          have Hall := Lib.hid hall; have Hall2 := Lib.hid hall2; have Hrr := Lib.hid hrr; have Hf := Lib.hid hf; clear hall hall2 hrr hf
          go_wp2_with fail
          go_ret
          exact ⟨ret_bool Hf.out.symm, rfl⟩
      · have hf : r = false := by rw [hrr, decide_eq_false h0]; rfl
        have k2 : s.size ≤ 0 := by omega
        have k3 : decide (0 < (s.size : Int)) = false := decide_eq_false (by omega)
        have Hall := Lib.hid hall; have Hall2 := Lib.hid hall2; have Hrr := Lib.hid hrr; have Hf := Lib.hid hf; clear hall hall2 hrr hf
        go_wp2_with fail
        go_ret
        exact ⟨ret_bool Hf.out.symm, rfl⟩
set_option maxRecDepth 10000 in
set_option maxHeartbeats 1000000 in
theorem value_any (s : ByteArray) (hs : s.size ≤ 9223372036854775807) (w : World) : Calls Try.prog 19 #[.string s] w fun e w' => e = .returned (.bool (valueOf s.data.toList)) ∧ w = w' := by
  have hN := fun W => name_any s hs W
  obtain ⟨l, hl⟩ : ∃ l, l = s.data.toList := ⟨_, rfl⟩
  have hln : l.length = s.size := by rw [hl]; exact dl s
  obtain ⟨r, hr⟩ : ∃ r, r = valueOf l := ⟨_, rfl⟩
  rw [← hl] at hN
  rw [← hl, ← hr]
  cases hq : nameOf l with
  | true =>
    rw [hq] at hN
    have hf : r = true := by rw [hr]; unfold valueOf; rw [hq]; rfl
    have Hl := Lib.hid hl; have Hln := Lib.hid hln; have Hr := Lib.hid hr; have HN := Lib.hid hN; have Hf := Lib.hid hf; have Hq := Lib.hid hq; clear hl hln hr hN hf hq
    go_enter Try.func19, Try.ntmps19
    go_wp2_with fail
    refine (HN.out _).mono ?_
    rintro e w1 ⟨rfl, rfl⟩
    go_wp2_with fail
    go_ret
    exact ⟨ret_bool Hf.out.symm, rfl⟩
  | false =>
    rw [hq] at hN
    have hv : r = (l.all digB && decide (0 < l.length) && decide (l.length ≤ 3)) := by rw [hr]; unfold valueOf digsOf; rw [hq]; rfl
    have Hl := Lib.hid hl; have Hln := Lib.hid hln; have Hr := Lib.hid hr; have HN := Lib.hid hN; have Hv := Lib.hid hv; have Hq := Lib.hid hq; clear hl hln hr hN hv hq
    go_enter Try.func19, Try.ntmps19
    go_wp2_with fail
    refine (HN.out _).mono ?_
    rintro e w1 ⟨rfl, rfl⟩
    go_wp2_with fail
    go_loop [8] (fun i => ∃ k : Nat, k ≤ s.size ∧ i = .int .i64 k ∧ (l.take k).all digB = true) (fun i => s.size - (intOf i).toNat)
    case atStart => exact ⟨0, Nat.zero_le _, rfl, by simp⟩
    case round =>
      obtain ⟨k, hk, rfl, hall⟩ := hrel
      by_cases hlt : k < s.size
      · have hkl : k < l.length := by have := Hln.out; omega
        obtain ⟨n, hn⟩ : ∃ n, n = s[k].toNat := ⟨_, rfl⟩
        have hn256 : n < 256 := by rw [hn]; exact s[k].toNat_lt
        have hck : digB l[k] = digN n := by
          have e : l[k] = s[k] := by simp only [Hl.out]; rfl
          unfold digB
          rw [e, hn]
        have hD := fun W => digit_any n hn256 W
        have hsk : s[k].toNat = n := hn.symm
        have hyes : digN n = true → (l.take (k + 1)).all digB = true := fun h => VarM.all_succ hkl hall (by rw [hck]; exact h)
        have hno : digN n = false → r = false := fun h => by rw [Hv.out, VarM.all_no hkl (by rw [hck]; exact h)]; rfl
        clear hn hck
        clear hkl
        cases h2 : digN n with
        | true =>
          have hnext := hyes h2
          rw [h2] at hD
          have Hall := Lib.hid hall; have HD := Lib.hid hD; have Hyes := Lib.hid hyes; have Hno := Lib.hid hno; have Hnext := Lib.hid hnext; have H2 := Lib.hid h2; clear hall hD hyes hno hnext h2
          go_wp2_with fail
          refine (HD.out _).mono ?_
          rintro e w1 ⟨rfl, rfl⟩
          go_wp2_with fail
          go_round
          case rel => exact ⟨k + 1, by omega, by go_num, Hnext.out⟩
          case measure => simp [intOf]; omega
        | false =>
          have hf := hno h2
          rw [h2] at hD
          have Hall := Lib.hid hall; have HD := Lib.hid hD; have Hyes := Lib.hid hyes; have Hno := Lib.hid hno; have Hf := Lib.hid hf; have H2 := Lib.hid h2; clear hall hD hyes hno hf h2
          go_wp2_with fail
          refine (HD.out _).mono ?_
          rintro e w1 ⟨rfl, rfl⟩
          go_wp2_with fail
          go_ret
          exact ⟨ret_bool Hf.out.symm, rfl⟩
      · obtain rfl : k = s.size := by omega
        have hall2 : l.all digB = true := by rw [List.take_of_length_le (by have := Hln.out; omega)] at hall; exact hall
        have hrr : r = (decide (0 < s.size) && decide (s.size ≤ 3)) := by rw [Hv.out, hall2, Hln.out]; rfl
        by_cases h0 : 0 < s.size
        · by_cases h3 : s.size ≤ 3
          · have hf : r = true := by rw [hrr, decide_eq_true h0, decide_eq_true h3]; rfl
            have k1 : (0 : Int) < (s.size : Int) := by omega
            have k2 : (s.size : Int) ≤ 3 := by omega
            have k3 : decide ((s.size : Int) ≤ 3) = true := by simpa using k2
            have Hall := Lib.hid hall; have Hall2 := Lib.hid hall2; have Hrr := Lib.hid hrr; have Hf := Lib.hid hf; clear hall hall2 hrr hf
            go_wp2_with fail
            go_ret
            exact ⟨ret_bool Hf.out.symm, rfl⟩
          · have hf : r = false := by rw [hrr, decide_eq_false h3]; simp
            have k2 : (3 : Int) < (s.size : Int) := by omega
            have k3 : decide ((s.size : Int) ≤ 3) = false := by simpa using k2
            have Hall := Lib.hid hall; have Hall2 := Lib.hid hall2; have Hrr := Lib.hid hrr; have Hf := Lib.hid hf; clear hall hall2 hrr hf
            go_wp2_with fail
            go_ret
            exact ⟨ret_bool Hf.out.symm, rfl⟩
        · have hf : r = false := by rw [hrr, decide_eq_false h0]; rfl
          have k2 : s.size ≤ 0 := by omega
          have k3 : decide (0 < (s.size : Int)) = false := decide_eq_false (by omega)
          have Hall := Lib.hid hall; have Hall2 := Lib.hid hall2; have Hrr := Lib.hid hrr; have Hf := Lib.hid hf; clear hall hall2 hrr hf
          go_wp2_with fail
          go_ret
          exact ⟨ret_bool Hf.out.symm, rfl⟩
theorem empty_iff (s : ByteArray) : s.toList = [] ↔ s.size = 0 := by
  rw [Lib.toList_data, ← dl]
  exact List.length_eq_zero_iff.symm
set_option maxRecDepth 10000 in
set_option maxHeartbeats 1000000 in
theorem digits_any (s : ByteArray) (hs : s.size ≤ 9223372036854775807) (w : World) : Calls Try.prog 65 #[.string s] w fun e w' => e = .returned (.bool (digsOf s.data.toList)) ∧ w = w' := by
  obtain ⟨l, hl⟩ : ∃ l, l = s.data.toList := ⟨_, rfl⟩
  have hln : l.length = s.size := by rw [hl]; exact dl s
  obtain ⟨r, hr⟩ : ∃ r, r = digsOf l := ⟨_, rfl⟩
  rw [← hl, ← hr]
  have hv : r = (l.all digB && decide (0 < l.length)) := hr
  have Hl := Lib.hid hl; have Hln := Lib.hid hln; have Hr := Lib.hid hr; have Hv := Lib.hid hv; clear hl hln hr hv
  go_enter Try.func65, Try.ntmps65
  go_wp2_with fail
  go_loop [3] (fun i => ∃ k : Nat, k ≤ s.size ∧ i = .int .i64 k ∧ (l.take k).all digB = true) (fun i => s.size - (intOf i).toNat)
  case atStart => exact ⟨0, Nat.zero_le _, rfl, by simp⟩
  case round =>
    obtain ⟨k, hk, rfl, hall⟩ := hrel
    by_cases hlt : k < s.size
    · have hkl : k < l.length := by have := Hln.out; omega
      obtain ⟨n, hn⟩ : ∃ n, n = s[k].toNat := ⟨_, rfl⟩
      have hn256 : n < 256 := by rw [hn]; exact s[k].toNat_lt
      have hck : digB l[k] = digN n := by
        have e : l[k] = s[k] := by simp only [Hl.out]; rfl
        unfold digB
        rw [e, hn]
      have hsk : s[k].toNat = n := hn.symm
      have hyes : digN n = true → (l.take (k + 1)).all digB = true := fun h => VarM.all_succ hkl hall (by rw [hck]; exact h)
      have hno : digN n = false → r = false := fun h => by rw [Hv.out, VarM.all_no hkl (by rw [hck]; exact h)]; rfl
      clear hn hck
      clear hkl
      rcases Nat.lt_or_ge n 48 with h1 | h1
      · have hf := hno (by unfold digN; rw [decide_eq_false (by omega)]; rfl)
        have k1 : decide ((n : Int) < 48) = true := decide_eq_true (by omega)
        have Hall := Lib.hid hall; have Hyes := Lib.hid hyes; have Hno := Lib.hid hno; have Hf := Lib.hid hf; clear hall hyes hno hf
        go_wp2_with fail
        go_ret
        exact ⟨ret_bool Hf.out.symm, rfl⟩
      · rcases Nat.lt_or_ge 57 n with h2 | h2
        · have hf := hno (by unfold digN; rw [decide_eq_false (p := n ≤ 57) (by omega)]; simp)
          have k1 : decide ((n : Int) < 48) = false := decide_eq_false (by omega)
          have k2 : decide (57 < (n : Int)) = true := decide_eq_true (by omega)
          have Hall := Lib.hid hall; have Hyes := Lib.hid hyes; have Hno := Lib.hid hno; have Hf := Lib.hid hf; clear hall hyes hno hf
          go_wp2_with fail
          go_ret
          exact ⟨ret_bool Hf.out.symm, rfl⟩
        · have hnext := hyes (by unfold digN; rw [decide_eq_true h1, decide_eq_true h2]; rfl)
          have k1 : decide ((n : Int) < 48) = false := decide_eq_false (by omega)
          have k2 : decide (57 < (n : Int)) = false := decide_eq_false (by omega)
          have Hall := Lib.hid hall; have Hyes := Lib.hid hyes; have Hno := Lib.hid hno; have Hnext := Lib.hid hnext; clear hall hyes hno hnext
          go_wp2_with fail
          go_round
          case rel => exact ⟨k + 1, by omega, by go_num, Hnext.out⟩
          case measure => simp [intOf]; omega
    · obtain rfl : k = s.size := by omega
      have hall2 : l.all digB = true := by rw [List.take_of_length_le (by have := Hln.out; omega)] at hall; exact hall
      have hrr : r = decide (0 < s.size) := by rw [Hv.out, hall2, Hln.out]; rfl
      by_cases h0 : 0 < s.size
      · have hf : r = true := by rw [hrr, decide_eq_true h0]
        have k1 : s.toList.isEmpty = false := by rw [Bool.eq_false_iff]; intro h; rw [List.isEmpty_iff, empty_iff] at h; omega
        have k2 : (!s.toList.isEmpty) = true := by rw [k1]; rfl
        have k3 : ¬ s.toList = [] := by rw [empty_iff]; omega
        have Hall := Lib.hid hall; have Hall2 := Lib.hid hall2; have Hrr := Lib.hid hrr; have Hf := Lib.hid hf; clear hall hall2 hrr hf
        go_wp2_with fail
        go_ret
        exact ⟨ret_bool Hf.out.symm, rfl⟩
      · have hf : r = false := by rw [hrr, decide_eq_false h0]
        have k3 : s.toList = [] := by rw [empty_iff]; omega
        have k1 : s.toList.isEmpty = true := by rw [k3]; rfl
        have Hall := Lib.hid hall; have Hall2 := Lib.hid hall2; have Hrr := Lib.hid hrr; have Hf := Lib.hid hf; clear hall hall2 hrr hf
        go_wp2_with fail
        go_ret
        exact ⟨ret_bool Hf.out.symm, rfl⟩
end Go.Proofs.Ytnelgellbabkoaa
