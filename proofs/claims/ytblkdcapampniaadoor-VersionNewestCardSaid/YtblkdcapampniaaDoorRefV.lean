/- The walks of the document's letters, Digits, part, Cut and May of versions. Condition: the text's reach. -/
import Derived.Test.YtblkdcapampniaaDoorVerQ
import Derived.Test.YtblkdcapampniaaDoorTxt
import Derived.Test.YtblkdcapampniaaDoorMem
import Derived.Test.YtblkdcapampniaaDoorRow
import Derived.Test.YtblkdcapampniaaDoorRows
set_option linter.unusedVariables false
set_option linter.unusedSimpArgs false
namespace Go.Proofs.YtblkdcapampniaaDoor
open Go.RowKit Go.Lib VerN

theorem letOk_all {l : List UInt8} (h : letOk l = true) : ∀ x ∈ l, isLet x = true := by unfold letOk at h; rw [Bool.and_eq_true] at h; exact List.all_eq_true.1 h.2
theorem digs_all {l : List UInt8} (h : digs l = true) : ∀ x ∈ l, isDig x = true := by unfold digs at h; rw [Bool.and_eq_true] at h; exact List.all_eq_true.1 h.1
set_option maxRecDepth 10000 in
set_option maxHeartbeats 1000000 in
theorem letters1_any (s : ByteArray) (hs : s.size ≤ 9223372036854775807) (w : World) : Calls Tryd.prog 64 #[.string s] w fun e w' => e = .returned (.bool (letOk s.data.toList)) ∧ w = w' := by
  obtain ⟨l, hl⟩ : ∃ l, l = s.data.toList := ⟨_, rfl⟩
  have hln : l.length = s.size := by rw [hl]; exact Txt.len s
  obtain ⟨r, hr⟩ : ∃ r, r = letOk l := ⟨_, rfl⟩
  rw [← hl, ← hr]
  have Hl := Lib.hid hl; have Hln := Lib.hid hln; have Hr := Lib.hid hr; clear hl hln hr
  go_enter Tryd.func64, Tryd.ntmps64
  go_wp2_with fail
  go_loop [3] (fun i => ∃ k : Nat, k ≤ s.size ∧ i = .int .i64 k ∧ (l.take k).all isLet = true) (fun i => s.size - (intOf i).toNat)
  case atStart => exact ⟨0, Nat.zero_le _, rfl, by simp⟩
  case round =>
    obtain ⟨k, hk, rfl, hall⟩ := hrel
    by_cases hlt : k < s.size
    · have hkl : k < l.length := by have := Hln.out; omega
      obtain ⟨n, hn⟩ : ∃ n, n = s[k].toNat := ⟨_, rfl⟩
      have hn256 : n < 256 := by rw [hn]; exact s[k].toNat_lt
      have hsk : s[k].toNat = n := hn.symm
      have e : l[k] = s[k] := by simp only [Hl.out]; rfl
      have hyes : 97 ≤ n → n ≤ 122 → (l.take (k + 1)).all isLet = true := fun h1 h2 => by
        rw [List.take_succ_eq_append_getElem hkl, List.all_append, hall]
        simp only [List.all_cons, List.all_nil, Bool.and_true, Bool.true_and]
        rw [isLet_iff, e, hsk]; exact ⟨h1, h2⟩
      have hno : ¬ (97 ≤ n ∧ n ≤ 122) → r = false := fun h => by
        rw [Hr.out, Bool.eq_false_iff]
        intro h2
        have := (letOk_all h2) l[k] (List.getElem_mem hkl)
        rw [isLet_iff, e, hsk] at this
        exact h this
      clear hn e hkl
      rcases Nat.lt_or_ge n 97 with h1 | h1
      · have hf := hno (by omega)
        have k1 : decide ((n : Int) < 97) = true := decide_eq_true (by omega)
        have Hall := Lib.hid hall; have Hyes := Lib.hid hyes; have Hno := Lib.hid hno; have Hf := Lib.hid hf; clear hall hyes hno hf
        go_wp2_with fail
        go_ret
        exact ⟨ret_bool Hf.out.symm, rfl⟩
      · have k1 : decide ((n : Int) < 97) = false := decide_eq_false (by omega)
        rcases Nat.lt_or_ge 122 n with h2 | h2
        · have hf := hno (by omega)
          have k2 : decide (122 < (n : Int)) = true := decide_eq_true (by omega)
          have Hall := Lib.hid hall; have Hyes := Lib.hid hyes; have Hno := Lib.hid hno; have Hf := Lib.hid hf; clear hall hyes hno hf
          go_wp2_with fail
          go_ret
          exact ⟨ret_bool Hf.out.symm, rfl⟩
        · have k2 : decide (122 < (n : Int)) = false := decide_eq_false (by omega)
          have hnext := hyes h1 h2
          have Hall := Lib.hid hall; have Hyes := Lib.hid hyes; have Hno := Lib.hid hno; have Hnext := Lib.hid hnext; clear hall hyes hno hnext
          go_wp2_with fail
          go_round
          case rel => exact ⟨k + 1, by omega, by go_num, Hnext.out⟩
          case measure => simp [intOf]; omega
    · obtain rfl : k = s.size := by omega
      have hall2 : l.all isLet = true := by rw [List.take_of_length_le (by have := Hln.out; omega)] at hall; exact hall
      have hf : (!s.toList.isEmpty) = r := by
        rw [Hr.out, Txt.no_dec]
        have h0 := Hln.out
        unfold letOk
        rw [hall2]
        cases l with
        | nil => simp at h0; rw [decide_eq_true (by omega)]; rfl
        | cons x t => simp at h0; rw [decide_eq_false (by omega)]; rfl
      have Hall := Lib.hid hall; have Hall2 := Lib.hid hall2; have Hf := Lib.hid hf; clear hall hall2 hf
      go_wp2_with fail
      go_ret
      exact ⟨ret_bool Hf.out, rfl⟩
set_option maxRecDepth 10000 in
set_option maxHeartbeats 1000000 in
theorem digits1_any (s : ByteArray) (hs : s.size ≤ 9223372036854775807) (w : World) : Calls Tryd.prog 20 #[.string s] w fun e w' => e = .returned (.bool (digs s.data.toList)) ∧ w = w' := by
  obtain ⟨l, hl⟩ : ∃ l, l = s.data.toList := ⟨_, rfl⟩
  have hln : l.length = s.size := by rw [hl]; exact Txt.len s
  obtain ⟨r, hr⟩ : ∃ r, r = digs l := ⟨_, rfl⟩
  rw [← hl, ← hr]
  have Hl := Lib.hid hl; have Hln := Lib.hid hln; have Hr := Lib.hid hr; clear hl hln hr
  go_enter Tryd.func20, Tryd.ntmps20
  go_wp2_with fail
  go_loop [3] (fun i => ∃ k : Nat, k ≤ s.size ∧ i = .int .i64 k ∧ (l.take k).all isDig = true) (fun i => s.size - (intOf i).toNat)
  case atStart => exact ⟨0, Nat.zero_le _, rfl, by simp⟩
  case round =>
    obtain ⟨k, hk, rfl, hall⟩ := hrel
    by_cases hlt : k < s.size
    · have hkl : k < l.length := by have := Hln.out; omega
      obtain ⟨n, hn⟩ : ∃ n, n = s[k].toNat := ⟨_, rfl⟩
      have hn256 : n < 256 := by rw [hn]; exact s[k].toNat_lt
      have hsk : s[k].toNat = n := hn.symm
      have e : l[k] = s[k] := by simp only [Hl.out]; rfl
      have hyes : 48 ≤ n → n ≤ 57 → (l.take (k + 1)).all isDig = true := fun h1 h2 => by
        rw [List.take_succ_eq_append_getElem hkl, List.all_append, hall]
        simp only [List.all_cons, List.all_nil, Bool.and_true, Bool.true_and]
        rw [isDig_iff, e, hsk]; exact ⟨h1, h2⟩
      have hno : ¬ (48 ≤ n ∧ n ≤ 57) → r = false := fun h => by
        rw [Hr.out, Bool.eq_false_iff]
        intro h2
        have := (digs_all h2) l[k] (List.getElem_mem hkl)
        rw [isDig_iff, e, hsk] at this
        exact h this
      clear hn e hkl
      rcases Nat.lt_or_ge n 48 with h1 | h1
      · have hf := hno (by omega)
        have k1 : decide ((n : Int) < 48) = true := decide_eq_true (by omega)
        have Hall := Lib.hid hall; have Hyes := Lib.hid hyes; have Hno := Lib.hid hno; have Hf := Lib.hid hf; clear hall hyes hno hf
        go_wp2_with fail
        go_ret
        exact ⟨ret_bool Hf.out.symm, rfl⟩
      · have k1 : decide ((n : Int) < 48) = false := decide_eq_false (by omega)
        rcases Nat.lt_or_ge 57 n with h2 | h2
        · have hf := hno (by omega)
          have k2 : decide (57 < (n : Int)) = true := decide_eq_true (by omega)
          have Hall := Lib.hid hall; have Hyes := Lib.hid hyes; have Hno := Lib.hid hno; have Hf := Lib.hid hf; clear hall hyes hno hf
          go_wp2_with fail
          go_ret
          exact ⟨ret_bool Hf.out.symm, rfl⟩
        · have k2 : decide (57 < (n : Int)) = false := decide_eq_false (by omega)
          have hnext := hyes h1 h2
          have Hall := Lib.hid hall; have Hyes := Lib.hid hyes; have Hno := Lib.hid hno; have Hnext := Lib.hid hnext; clear hall hyes hno hnext
          go_wp2_with fail
          go_round
          case rel => exact ⟨k + 1, by omega, by go_num, Hnext.out⟩
          case measure => simp [intOf]; omega
    · obtain rfl : k = s.size := by omega
      have hall2 : l.all isDig = true := by rw [List.take_of_length_le (by have := Hln.out; omega)] at hall; exact hall
      have hf : (!s.toList.isEmpty) = r := by
        rw [Hr.out, Txt.no_dec]
        have h0 := Hln.out
        unfold digs
        rw [hall2]
        cases l with
        | nil => simp at h0; rw [decide_eq_true (by omega)]; rfl
        | cons x t => simp at h0; rw [decide_eq_false (by omega)]; rfl
      have Hall := Lib.hid hall; have Hall2 := Lib.hid hall2; have Hf := Lib.hid hf; clear hall hall2 hf
      go_wp2_with fail
      go_ret
      exact ⟨ret_bool Hf.out, rfl⟩
end Go.Proofs.YtblkdcapampniaaDoor
