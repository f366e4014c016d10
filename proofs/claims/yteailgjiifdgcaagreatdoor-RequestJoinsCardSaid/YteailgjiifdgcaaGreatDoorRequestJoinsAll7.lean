/- Walks and plain facts. Texts merged: VarN, VarR, WishR, LexM, RqM, RqX, LexK, RqA, RqC, SpsV, RqB, RqD. Condition: none beyond what each says. -/
import Derived.Deep.Cut
import Derived.Deep.DrawnRows
import Derived.Test.YteailgjiifdgcaaGreatDoorRequestJoinsAll6
set_option linter.unusedVariables false
set_option linter.unusedSimpArgs false
/- The walks of variant.Name, variant.Value and the reference's. Condition: the text's reach. -/
namespace Go.Proofs.YteailgjiifdgcaaGreatDoor
open Go.RowKit
open VarM (letN digN okN okB digB nameOf valueOf digsOf headN)

theorem dl (s : ByteArray) : s.data.toList.length = s.size := by rw [Array.length_toList]; rfl
set_option maxRecDepth 10000 in
theorem letter_any (n : Nat) (h : n < 256) (w : World) : Calls Tryz.prog 186 #[.int .u8 (n : Int)] w fun e w' => e = .returned (.bool (letN n)) ∧ w = w' := by
 obtain ⟨r, hr⟩ : ∃ r, r = letN n := ⟨_, rfl⟩
 rw [← hr]
 rcases Nat.lt_or_ge n 97 with h1 | h1
 ·have hf : r = false := by rw [hr]; unfold letN; rw [decide_eq_false (by omega)]; rfl
  obtain ⟨Hr, Hf⟩ := hd2 hr hf; clear hr hf
  go_enter Tryz.func186, Tryz.ntmps186
  go_wp2_with fail
  go_ret
  exact ⟨ret_bool Hf.out.symm, rfl⟩
 ·rcases Nat.lt_or_ge 122 n with h2 | h2
  ·have hf : r = false := by rw [hr]; unfold letN; rw [decide_eq_false (p := n ≤ 122) (by omega)]; simp
   have k2 : decide ((n : Int) ≤ 122) = false := by simp; omega
   obtain ⟨Hr, Hf⟩ := hd2 hr hf; clear hr hf
   go_enter Tryz.func186, Tryz.ntmps186
   go_wp2_with fail
   go_ret
   exact ⟨ret_bool Hf.out.symm, rfl⟩
  ·have hf : r = true := by rw [hr]; unfold letN; rw [decide_eq_true h1, decide_eq_true h2]; rfl
   have k2 : decide ((n : Int) ≤ 122) = true := by simp; omega
   obtain ⟨Hr, Hf⟩ := hd2 hr hf; clear hr hf
   go_enter Tryz.func186, Tryz.ntmps186
   go_wp2_with fail
   go_ret
   exact ⟨ret_bool Hf.out.symm, rfl⟩
set_option maxRecDepth 10000 in
theorem digit_any (n : Nat) (h : n < 256) (w : World) : Calls Tryz.prog 187 #[.int .u8 (n : Int)] w fun e w' => e = .returned (.bool (digN n)) ∧ w = w' := by
 obtain ⟨r, hr⟩ : ∃ r, r = digN n := ⟨_, rfl⟩
 rw [← hr]
 rcases Nat.lt_or_ge n 48 with h1 | h1
 ·have hf : r = false := by rw [hr]; unfold digN; rw [decide_eq_false (by omega)]; rfl
  obtain ⟨Hr, Hf⟩ := hd2 hr hf; clear hr hf
  go_enter Tryz.func187, Tryz.ntmps187
  go_wp2_with fail
  go_ret
  exact ⟨ret_bool Hf.out.symm, rfl⟩
 ·rcases Nat.lt_or_ge 57 n with h2 | h2
  ·have hf : r = false := by rw [hr]; unfold digN; rw [decide_eq_false (p := n ≤ 57) (by omega)]; simp
   have k2 : decide ((n : Int) ≤ 57) = false := by simp; omega
   obtain ⟨Hr, Hf⟩ := hd2 hr hf; clear hr hf
   go_enter Tryz.func187, Tryz.ntmps187
   go_wp2_with fail
   go_ret
   exact ⟨ret_bool Hf.out.symm, rfl⟩
  ·have hf : r = true := by rw [hr]; unfold digN; rw [decide_eq_true h1, decide_eq_true h2]; rfl
   have k2 : decide ((n : Int) ≤ 57) = true := by simp; omega
   obtain ⟨Hr, Hf⟩ := hd2 hr hf; clear hr hf
   go_enter Tryz.func187, Tryz.ntmps187
   go_wp2_with fail
   go_ret
   exact ⟨ret_bool Hf.out.symm, rfl⟩
theorem head_is (s : ByteArray) (h : 0 < s.size) : headN s.data.toList = s[0].toNat := by
 unfold headN
 have e : s.data.toList = s[0] :: s.data.toList.drop 1 := by
  have := List.drop_eq_getElem_cons (l := s.data.toList) (i := 0) (by rw [dl]; exact h)
  rw [List.drop_zero] at this
  exact this
 rw [e]; rfl
set_option maxRecDepth 10000 in
set_option maxHeartbeats 1000000 in
theorem name_any (s : ByteArray) (hs : s.size ≤ 9223372036854775807) (w : World) : Calls Tryz.prog 153 #[.string s] w fun e w' => e = .returned (.bool (nameOf s.data.toList)) ∧ w = w' := by
 obtain ⟨l, hl⟩ : ∃ l, l = s.data.toList := ⟨_, rfl⟩
 have hln : l.length = s.size := by rw [hl]; exact dl s
 obtain ⟨r, hr⟩ : ∃ r, r = nameOf l := ⟨_, rfl⟩
 rw [← hl, ← hr]
 have hh := head_is s
 rw [← hl] at hh
 obtain ⟨Hl, Hln, Hr, Hh⟩ := hd4 hl hln hr hh; clear hl hln hr hh
 go_enter Tryz.func153, Tryz.ntmps153
 go_wp2_with fail
 go_loop [6] (fun i => ∃ k : Nat, k ≤ s.size ∧ i = .int .i64 k ∧ (l.take k).all okB = true) (fun i => s.size - (intOf i).toNat)
 case atStart => exact ⟨0, Nat.zero_le _, rfl, by simp⟩
 case round =>
  obtain ⟨k, hk, rfl, hall⟩ := hrel
  by_cases hlt : k < s.size
  ·have hkl : k < l.length := by have := Hln.out; omega
   obtain ⟨n, hn⟩ : ∃ n, n = s[k].toNat := ⟨_, rfl⟩
   have hn256 : n < 256 := by rw [hn]; exact s[k].toNat_lt
   have hck : okB l[k] = okN n := by
    have e : l[k] = s[k] := by simp only [Hl.out]; rfl
    unfold okB
    rw [e, hn]
   have hL := fun W => letter_any n hn256 W
   have hD := fun W => digit_any n hn256 W
   have hsk : s[k].toNat = n := hn.symm
   have hyes : okN n = true → (l.take (k + 1)).all okB = true := fun h => VarM.all_succ hkl hall (by rw [hck]; exact h)
   have hno : okN n = false → r = false := fun h => by rw [Hr.out]; exact VarM.name_no (VarM.all_no hkl (by rw [hck]; exact h))
   clear hn hck
   clear hkl
   cases h1 : letN n with
   | true =>
    have hnext := hyes (VarM.okN_let h1)
    rw [h1] at hL
    obtain ⟨Hall, HL, HD, Hyes, Hno, Hnext, H1⟩ := hd7 hall hL hD hyes hno hnext h1; clear hall hL hD hyes hno hnext h1
    go_wp2_with fail
    refine (HL.out _).mono ?_
    rintro e w1 ⟨rfl, rfl⟩
    go_wp2_with fail
    go_round
    case rel => exact ⟨k + 1, by omega, by go_num, Hnext.out⟩
    case measure => simp [intOf]; omega
   | false =>
    rw [h1] at hL
    cases h2 : digN n with
    | true =>
     have hnext := hyes (VarM.okN_dig h2)
     rw [h2] at hD
     obtain ⟨Hall, HL, HD, Hyes, Hno, Hnext, H1, H2⟩ := hd8 hall hL hD hyes hno hnext h1 h2; clear hall hL hD hyes hno hnext h1 h2
     go_wp2_with fail
     refine (HL.out _).mono ?_
     rintro e w1 ⟨rfl, rfl⟩
     go_wp2_with fail
     refine (HD.out _).mono ?_
     rintro e w1 ⟨rfl, rfl⟩
     go_wp2_with fail
     go_round
     case rel => exact ⟨k + 1, by omega, by go_num, Hnext.out⟩
     case measure => simp [intOf]; omega
    | false =>
     rw [h2] at hD
     by_cases h3 : n = 45
     ·have hnext := hyes (by unfold okN; simp [h3])
      have e3 : ((n : Int) != 45) = false := by rw [h3]; rfl
      obtain ⟨Hall, HL, HD, Hyes, Hno, Hnext, H1, H2, H3⟩ := hd9 hall hL hD hyes hno hnext h1 h2 h3; clear hall hL hD hyes hno hnext h1 h2 h3
      go_wp2_with fail
      refine (HL.out _).mono ?_
      rintro e w1 ⟨rfl, rfl⟩
      go_wp2_with fail
      refine (HD.out _).mono ?_
      rintro e w1 ⟨rfl, rfl⟩
      go_wp2_with fail
      go_round
      case rel => exact ⟨k + 1, by omega, by go_num, Hnext.out⟩
      case measure => simp [intOf]; omega
     ·have hf := hno (VarM.okN_no h1 h2 h3)
      have e3 : ((n : Int) != 45) = true := by rw [bne_iff_ne]; omega
      obtain ⟨Hall, HL, HD, Hyes, Hno, Hf, H1, H2, H3⟩ := hd9 hall hL hD hyes hno hf h1 h2 h3; clear hall hL hD hyes hno hf h1 h2 h3
      go_wp2_with fail
      refine (HL.out _).mono ?_
      rintro e w1 ⟨rfl, rfl⟩
      go_wp2_with fail
      refine (HD.out _).mono ?_
      rintro e w1 ⟨rfl, rfl⟩
      go_wp2_with fail
      go_ret
      exact ⟨ret_bool Hf.out.symm, rfl⟩
  ·obtain rfl : k = s.size := by omega
   have hall2 : l.all okB = true := by rw [List.take_of_length_le (by have := Hln.out; omega)] at hall; exact hall
   have hrr : r = (decide (0 < s.size) && (decide (s.size ≤ 24) && letN (headN l))) := by rw [Hr.out, VarM.name_all hall2, Hln.out]
   by_cases h0 : 0 < s.size
   ·by_cases h24 : s.size ≤ 24
    ·have hf : r = letN (headN l) := by rw [hrr, decide_eq_true h0, decide_eq_true h24]; rfl
     rw [Hh.out h0] at hf
     obtain ⟨n, hn⟩ : ∃ n, n = s[0].toNat := ⟨_, rfl⟩
     have hn256 : n < 256 := by rw [hn]; exact s[0].toNat_lt
     have hL := fun W => letter_any n hn256 W
     rw [← hn] at hf
     rw [← hf] at hL
     have hsk : s[0].toNat = n := hn.symm
     have k1 : (0 : Int) < (s.size : Int) := by omega
     have k2 : (s.size : Int) ≤ 24 := by omega
     have k3 : decide ((s.size : Int) ≤ 24) = true := by simpa using k2
     clear hn
     obtain ⟨Hall, Hall2, Hrr, Hf, HL⟩ := hd5 hall hall2 hrr hf hL; clear hall hall2 hrr hf hL
     go_wp2_with fail
     refine (HL.out _).mono ?_
     rintro e w1 ⟨rfl, rfl⟩
     go_wp2_with fail
     go_ret
     exact ⟨rfl, rfl⟩
    ·have hf : r = false := by rw [hrr, decide_eq_false h24]; simp
     have k2 : (24 : Int) < (s.size : Int) := by omega
     have k3 : decide ((s.size : Int) ≤ 24) = false := by simpa using k2
     obtain ⟨Hall, Hall2, Hrr, Hf⟩ := hd4 hall hall2 hrr hf; clear hall hall2 hrr hf
     go_wp2_with fail
     go_ret
     exact ⟨ret_bool Hf.out.symm, rfl⟩
   ·have hf : r = false := by rw [hrr, decide_eq_false h0]; rfl
    have k2 : s.size ≤ 0 := by omega
    have k3 : decide (0 < (s.size : Int)) = false := decide_eq_false (by omega)
    obtain ⟨Hall, Hall2, Hrr, Hf⟩ := hd4 hall hall2 hrr hf; clear hall hall2 hrr hf
    go_wp2_with fail
    go_ret
    exact ⟨ret_bool Hf.out.symm, rfl⟩
set_option maxRecDepth 10000 in
set_option maxHeartbeats 1000000 in
theorem value_any (s : ByteArray) (hs : s.size ≤ 9223372036854775807) (w : World) : Calls Tryz.prog 189 #[.string s] w fun e w' => e = .returned (.bool (valueOf s.data.toList)) ∧ w = w' := by
 have hN := fun W => name_any s hs W
 obtain ⟨l, hl⟩ : ∃ l, l = s.data.toList := ⟨_, rfl⟩
 have hln : l.length = s.size := by rw [hl]; exact dl s
 obtain ⟨r, hr⟩ : ∃ r, r = valueOf l := ⟨_, rfl⟩
 rw [← hl] at hN
 rw [← hl, ← hr]
 cases hq : nameOf l with
 | true =>
  rw [hq] at hN
  have hf : r = true := by rw [hr]; unfold valueOf; rw [hq]; rfl
  obtain ⟨Hl, Hln, Hr, HN, Hf, Hq⟩ := hd6 hl hln hr hN hf hq; clear hl hln hr hN hf hq
  go_enter Tryz.func189, Tryz.ntmps189
  go_wp2_with fail
  refine (HN.out _).mono ?_
  rintro e w1 ⟨rfl, rfl⟩
  go_wp2_with fail
  go_ret
  exact ⟨ret_bool Hf.out.symm, rfl⟩
 | false =>
  rw [hq] at hN
  have hv : r = (l.all digB && decide (0 < l.length) && decide (l.length ≤ 3)) := by rw [hr]; unfold valueOf digsOf; rw [hq]; rfl
  obtain ⟨Hl, Hln, Hr, HN, Hv, Hq⟩ := hd6 hl hln hr hN hv hq; clear hl hln hr hN hv hq
  go_enter Tryz.func189, Tryz.ntmps189
  go_wp2_with fail
  refine (HN.out _).mono ?_
  rintro e w1 ⟨rfl, rfl⟩
  go_wp2_with fail
  go_loop [8] (fun i => ∃ k : Nat, k ≤ s.size ∧ i = .int .i64 k ∧ (l.take k).all digB = true) (fun i => s.size - (intOf i).toNat)
  case atStart => exact ⟨0, Nat.zero_le _, rfl, by simp⟩
  case round =>
   obtain ⟨k, hk, rfl, hall⟩ := hrel
   by_cases hlt : k < s.size
   ·have hkl : k < l.length := by have := Hln.out; omega
    obtain ⟨n, hn⟩ : ∃ n, n = s[k].toNat := ⟨_, rfl⟩
    have hn256 : n < 256 := by rw [hn]; exact s[k].toNat_lt
    have hck : digB l[k] = digN n := by
     have e : l[k] = s[k] := by simp only [Hl.out]; rfl
     unfold digB
     rw [e, hn]
    have hD := fun W => digit_any n hn256 W
    have hsk : s[k].toNat = n := hn.symm
    have hyes : digN n = true → (l.take (k + 1)).all digB = true := fun h => VarM.all_succ hkl hall (by rw [hck]; exact h)
    have hno : digN n = false → r = false := fun h => by rw [Hv.out, VarM.all_no hkl (by rw [hck]; exact h)]; rfl
    clear hn hck
    clear hkl
    cases h2 : digN n with
    | true =>
     have hnext := hyes h2
     rw [h2] at hD
     obtain ⟨Hall, HD, Hyes, Hno, Hnext, H2⟩ := hd6 hall hD hyes hno hnext h2; clear hall hD hyes hno hnext h2
     go_wp2_with fail
     refine (HD.out _).mono ?_
     rintro e w1 ⟨rfl, rfl⟩
     go_wp2_with fail
     go_round
     case rel => exact ⟨k + 1, by omega, by go_num, Hnext.out⟩
     case measure => simp [intOf]; omega
    | false =>
     have hf := hno h2
     rw [h2] at hD
     obtain ⟨Hall, HD, Hyes, Hno, Hf, H2⟩ := hd6 hall hD hyes hno hf h2; clear hall hD hyes hno hf h2
     go_wp2_with fail
     refine (HD.out _).mono ?_
     rintro e w1 ⟨rfl, rfl⟩
     go_wp2_with fail
     go_ret
     exact ⟨ret_bool Hf.out.symm, rfl⟩
   ·obtain rfl : k = s.size := by omega
    have hall2 : l.all digB = true := by rw [List.take_of_length_le (by have := Hln.out; omega)] at hall; exact hall
    have hrr : r = (decide (0 < s.size) && decide (s.size ≤ 3)) := by rw [Hv.out, hall2, Hln.out]; rfl
    by_cases h0 : 0 < s.size
    ·by_cases h3 : s.size ≤ 3
     ·have hf : r = true := by rw [hrr, decide_eq_true h0, decide_eq_true h3]; rfl
      have k1 : (0 : Int) < (s.size : Int) := by omega
      have k2 : (s.size : Int) ≤ 3 := by omega
      have k3 : decide ((s.size : Int) ≤ 3) = true := by simpa using k2
      obtain ⟨Hall, Hall2, Hrr, Hf⟩ := hd4 hall hall2 hrr hf; clear hall hall2 hrr hf
      go_wp2_with fail
      go_ret
      exact ⟨ret_bool Hf.out.symm, rfl⟩
     ·have hf : r = false := by rw [hrr, decide_eq_false h3]; simp
      have k2 : (3 : Int) < (s.size : Int) := by omega
      have k3 : decide ((s.size : Int) ≤ 3) = false := by simpa using k2
      obtain ⟨Hall, Hall2, Hrr, Hf⟩ := hd4 hall hall2 hrr hf; clear hall hall2 hrr hf
      go_wp2_with fail
      go_ret
      exact ⟨ret_bool Hf.out.symm, rfl⟩
    ·have hf : r = false := by rw [hrr, decide_eq_false h0]; rfl
     have k2 : s.size ≤ 0 := by omega
     have k3 : decide (0 < (s.size : Int)) = false := decide_eq_false (by omega)
     obtain ⟨Hall, Hall2, Hrr, Hf⟩ := hd4 hall hall2 hrr hf; clear hall hall2 hrr hf
     go_wp2_with fail
     go_ret
     exact ⟨ret_bool Hf.out.symm, rfl⟩
theorem empty_iff (s : ByteArray) : s.toList = [] ↔ s.size = 0 := by
 rw [Lib.toList_data, ← dl]
 exact List.length_eq_zero_iff.symm
end Go.Proofs.YteailgjiifdgcaaGreatDoor

/- The walks of cooperref04.Name and Value. Condition: the text's reach. -/
namespace Go.Proofs.YteailgjiifdgcaaGreatDoor
open Go.RowKit
open VarM (letN digN okN okB digB nameOf valueOf digsOf headN)

end Go.Proofs.YteailgjiifdgcaaGreatDoor

/- The walks of cooperref04.Wish and variant.Wish, exactly: are settings a wish. No condition. -/
namespace Go.Proofs.YteailgjiifdgcaaGreatDoor
open Go.RowKit Go.Shelf VarM
attribute [local go_sem ↓] Go.wp_at_zero Go.wp_at_succ

theorem quiet_eq {P : Program} {f : FuncId} {args : Array Value} {w : World} {n : Nat} {v : Value}
  (h : Calls P f args (w.drewN n) fun e w' => e = .returned v ∧ ∃ q, w' = (w.drewN n).drewN q) : Calls P f args (w.drewN n) fun e w'' => e = .returned v ∧ ∃ m, w'' = w.drewN m :=
 h.mono fun _ _ ⟨he, q, hq⟩ => ⟨he, n + q, by rw [hq, World.drewN_drewN]⟩
def wishAt (l : List Setg) (i : Nat) : Bool := match l[i]? with
 | none => true
 | some x => nameOf x.1.data.toList && valueOf x.2.data.toList && (decide (i = 0) || Op.bytesLess (l.getD (i - 1) (⟨#[]⟩, ⟨#[]⟩)).1.toList x.1.toList)
def wishIs (l : List Setg) : Bool := (List.range l.length).all (wishAt l)
theorem wishAt_eq {l : List Setg} {i : Nat} (h : i < l.length) : wishAt l i = (nameOf l[i].1.data.toList && valueOf l[i].2.data.toList && (decide (i = 0) || Op.bytesLess (l.getD (i - 1) (⟨#[]⟩, ⟨#[]⟩)).1.toList l[i].1.toList)) := by
 unfold wishAt
 rw [List.getElem?_eq_getElem h]
theorem wishIs_no {l : List Setg} {i : Nat} (h : i < l.length) (hi : wishAt l i = false) : wishIs l = false := by
 unfold wishIs
 rw [List.all_eq_false]
 exact ⟨i, List.mem_range.2 h, by rw [hi]; simp⟩
theorem wishIs_yes {l : List Setg} (h : ∀ i, i < l.length → wishAt l i = true) : wishIs l = true := by
 unfold wishIs
 rw [List.all_eq_true]
 exact fun i hi => h i (List.mem_range.1 hi)
set_option maxRecDepth 10000 in
set_option maxHeartbeats 4000000 in
theorem wish04_any {w : World} {v : Value} {l : List Setg} (h : RSets w [v] l) : Calls Tryz.prog 209 #[v] w fun e w' => e = .returned (.bool (wishIs l)) ∧ Below w.heap.size w w' := by
 obtain ⟨a, cap, rfl, hz, g⟩ := sets_open h
 obtain ⟨n, hn⟩ : ∃ n, n = l.length := ⟨_, rfl⟩
 obtain ⟨r, hr⟩ : ∃ r, r = wishIs l := ⟨_, rfl⟩
 rw [← hr]
 rw [← hn] at hz h ⊢
 obtain ⟨Hh, Hg, Hn, Hr⟩ := hd4 h g hn hr; clear h g hn hr
 go_enter Tryz.func209, Tryz.ntmps209
 go_wp2_with fail
 go_loopw [7] (fun i wr => ∃ k : Nat, k ≤ n ∧ i = .int .i64 k ∧ (∀ j, j < k → wishAt l j = true) ∧ Below w.heap.size w wr) (fun i _ => n - (intOf i).toNat)
 case atStart => exact ⟨0, Nat.zero_le _, rfl, fun _ h => by omega, Below.refl _ _⟩
 case round =>
  obtain ⟨k, hk, rfl, hno, hb⟩ := hrel
  by_cases hlt : k < n
  ·have hkl : k < l.length := by have := Hn.out; omega
   obtain ⟨b, off, rfl, d0, d1, hs1, hs2⟩ := Hg.out k _ (List.getElem?_eq_getElem hkl)
   have hwa := wishAt_eq hkl
   have hnx : wishAt l k = true → ∀ j, j < k + 1 → wishAt l j = true := fun h j hj => by
    by_cases e : j = k
    ·rw [e]; exact h
    ·exact hno j (by omega)
   have hbd := fun (h : wishAt l k = false) => wishIs_no hkl h
   obtain ⟨x, hx⟩ : ∃ x, x = l[k] := ⟨_, rfl⟩
   rw [← hx] at d0 d1 hs1 hs2 hwa
   obtain ⟨s, hs⟩ : ∃ s, s = x.1 := ⟨_, rfl⟩
   obtain ⟨t, ht⟩ : ∃ s, s = x.2 := ⟨_, rfl⟩
   rw [← hs] at d0 hs1 hwa
   rw [← ht] at d1 hs2 hwa
   have hN := fun (W : World) => (name_any s hs1 W).mono (fun e w' (⟨he, hw⟩ : _ ∧ W = w') => (⟨he, 0, hw.symm⟩ : e = _ ∧ ∃ m, w' = W.drewN m))
   have hV := fun (W : World) => (value_any t hs2 W).mono (fun e w' (⟨he, hw⟩ : _ ∧ W = w') => (⟨he, 0, hw.symm⟩ : e = _ ∧ ∃ m, w' = W.drewN m))
   obtain ⟨p1, hp1⟩ : ∃ p, p = nameOf s.data.toList := ⟨_, rfl⟩
   obtain ⟨p2, hp2⟩ : ∃ p, p = valueOf t.data.toList := ⟨_, rfl⟩
   rw [← hp1] at hN hwa
   rw [← hp2] at hV hwa
   have e0 := cell_later hb d0
   have e1 := cell_later hb d1
   obtain ⟨W1, hW1⟩ : ∃ W1, W1 = wr.alloc (.cells #[.string s, .string t] 109) := ⟨_, rfl⟩
   have hbn : Below wr.heap.size wr W1 := by rw [hW1]; exact below_alloc1 _ _
   have hb1 := hb.trans (hbn.mono hb.size)
   obtain ⟨D, hD⟩ : ∃ D, D = wr.heap.size := ⟨_, rfl⟩
   have hdb : W1.heap[D]? = some (.cells #[.string s, .string t] 109 (0, 0)) := by rw [hW1, hD]; exact heap_alloc_new _ _
   have f0 := cells_at hdb 0
   have f1 := cells_at hdb 1
   simp only [List.getElem?_toArray, List.getElem?_cons_zero, List.getElem?_cons_succ] at f0 f1
   have k5 : (0 : Int) ≤ (k : Int) := by omega
   have k6 : (k : Int) < (n : Int) := by omega
   clear hx hs ht
   obtain ⟨HN, HV, Hp1, Hp2, Hno, Hnx, Hbd, Hwa, Hb, Hbn, Hb1, Hdb⟩ := hd12 hN hV hp1 hp2 hno hnx hbd hwa hb hbn hb1 hdb; clear hN hV hp1 hp2 hno hnx hbd hwa hb hbn hb1 hdb
   go_upto_region 4 with (fail)
   rw [← hW1, ← hD]
   obtain ⟨HW1, HD⟩ := hd2 hW1 hD; clear hW1 hD
   clear e0 e1
   cases p1 with
   | false =>
    have hf : r = false := by rw [Hr.out]; exact Hbd.out (by rw [Hwa.out]; rfl)
    have Hf := hd hf; clear hf
    go_quiet (first | (go_at_call 153; exact quiet_eq (HN.out _)) | (go_at_call 189; exact quiet_eq (HV.out _)))
    go_wp2_with fail
    go_ret
    exact ⟨ret_bool Hf.out.symm, bel_drewN Hb1.out _⟩
   | true =>
    cases p2 with
    | false =>
     have hf : r = false := by rw [Hr.out]; exact Hbd.out (by rw [Hwa.out]; rfl)
     have Hf := hd hf; clear hf
     go_quiet (first | (go_at_call 153; exact quiet_eq (HN.out _)) | (go_at_call 189; exact quiet_eq (HV.out _)))
     go_wp2_with fail
     go_ret
     exact ⟨ret_bool Hf.out.symm, bel_drewN Hb1.out _⟩
    | true =>
     by_cases h0 : 0 < k
     ·obtain ⟨k', rfl⟩ : ∃ k', k = k' + 1 := ⟨k - 1, by omega⟩
      have hkl' : k' < l.length := by have := Hn.out; omega
      obtain ⟨b2, off2, e2, y0, _, _, _⟩ := Hg.out k' _ (List.getElem?_eq_getElem hkl')
      injection e2 with e2
      injection e2 with e3 e4
      subst e3 e4
      obtain ⟨z, hz4⟩ : ∃ z, z = l[k'].1 := ⟨_, rfl⟩
      rw [← hz4] at y0
      have y0 := cell_later Hb1.out y0
      have hwb : wishAt l (k' + 1) = Op.bytesLess z.toList s.toList := by rw [Hwa.out, hz4]; simp [List.getD_eq_getElem?_getD, List.getElem?_eq_getElem hkl']
      obtain ⟨Hz4, Hwb⟩ := hd2 hz4 hwb; clear hz4 hwb

      have k7 : decide ((0 : Int) < ((k' + 1 : Nat) : Int)) = true := by rw [decide_eq_true_eq]; omega
      have k8 : (((k' + 1 : Nat) : Int) - 1) = (k' : Int) := by omega
      have k11 : IntKind.i64.wrap (((k' + 1 : Nat) : Int) - 1) = (k' : Int) := by rw [k8]; exact IntWalk.i64_in _ (by omega)
      have k9 : (0 : Int) ≤ (k' : Int) := by omega
      have k10 : (k' : Int) < (n : Int) := by omega
      go_quiet (first | (go_at_call 153; exact quiet_eq (HN.out _)) | (go_at_call 189; exact quiet_eq (HV.out _)))
      obtain ⟨bl, hbl⟩ : ∃ b, b = Op.bytesLess z.toList s.toList := ⟨_, rfl⟩
      have hwb := Hwb.out
      rw [← hbl] at hwb ⊢
      obtain ⟨Hbl, Hwb⟩ := hd2 hbl hwb; clear hbl hwb
      cases bl with
      | true =>
       have hq := Hnx.out Hwb.out
       have Hq := hd hq; clear hq
       go_wp2_with fail
       go_roundw
       case rel => exact ⟨k' + 1 + 1, by omega, by go_num, Hq.out, bel_drewN Hb1.out _⟩
       case measure => simp [intOf]; omega
      | false =>
       have hf : r = false := by rw [Hr.out]; exact Hbd.out Hwb.out
       have Hf := hd hf; clear hf
       go_wp2_with fail
       go_ret
       exact ⟨ret_bool Hf.out.symm, bel_drewN Hb1.out _⟩
     ·have k7 : decide ((0 : Int) < (k : Int)) = false := by rw [decide_eq_false_iff_not]; omega
      have hq := Hnx.out (by rw [Hwa.out, show k = 0 by omega]; rfl)
      have Hq := hd hq; clear hq
      go_quiet (first | (go_at_call 153; exact quiet_eq (HN.out _)) | (go_at_call 189; exact quiet_eq (HV.out _)))
      go_wp2_with fail
      go_roundw
      case rel => exact ⟨k + 1, by omega, by go_num, Hq.out, bel_drewN Hb1.out _⟩
      case measure => simp [intOf]; omega
  ·obtain rfl : n = k := by omega
   have hf : r = true := by rw [Hr.out]; exact wishIs_yes (by rw [← Hn.out]; exact hno)
   obtain ⟨Hno, Hf, Hb⟩ := hd3 hno hf hb; clear hno hf hb
   go_wp2_with fail
   go_ret
   exact ⟨ret_bool Hf.out.symm, Hb.out⟩
end Go.Proofs.YteailgjiifdgcaaGreatDoor

/- Plain facts on lines of words: a lexer that goes byte by byte, and one that goes line by line, tell the same. No condition. -/
namespace Go.Proofs.YteailgjiifdgcaaGreatDoor.LexM
abbrev Bs := List UInt8
abbrev Wd := Int × Bs
abbrev Ln := Int × List Wd
structure St where
 line : Int
 col : Int
 frm : Int
 off : Bool
 word : Bs
 words : List Wd
 out : List Ln

def ends (s : St) : St := { s with frm := 0, word := [], words := if 0 < s.frm then s.words ++ [(s.frm, s.word)] else s.words }
def breaks (s : St) : St :=
 { (ends s) with out := if (ends s).words = [] then s.out else s.out ++ [(s.line, (ends s).words)], words := [], off := false, line := s.line + 1, col := 0 }
def mayBegin (s : St) : Bool := decide (s.words.length < 40) && (decide (0 < s.words.length) || decide (s.out.length < 2000))
def onward (s : St) : St := { s with col := s.col + 1 }
def takes (s : St) (c : UInt8) : St × Int :=
 if c.toNat = 10 then (breaks (onward s), 0)
 else if c.toNat < 32 ∨ 126 < c.toNat then (onward s, 3)
 else if s.off = true then (onward s, 0)
 else if c.toNat = 35 then ({ ends (onward s) with off := true }, 0)
 else if c.toNat = 32 then (ends (onward s), 0)
 else if 0 < s.frm then ({ onward s with word := s.word ++ [c] }, 0)
 else if mayBegin s = true then ({ onward s with frm := s.col + 1, word := s.word ++ [c] }, 0)
 else ({ onward s with frm := s.col + 1 }, 4)
def run : St → Bs → St × Int
 | s, [] => (s, 0)
 | s, c :: r => if (takes s c).2 = 0 then run (takes s c).1 r else takes s c
def st0 : St := ⟨1, 0, 0, false, [], [], []⟩
structure Res where
 lines : List Ln
 at1 : Int
 at2 : Int
 e : Int
def close (r : St × Int) : Res := if r.2 = 0 then ⟨(breaks r.1).out, 0, 0, 0⟩ else ⟨[], r.1.line, r.1.col, r.2⟩
def lines (t : Bs) : Res := if 65536 < t.length then ⟨[], 0, 0, 4⟩ else close (run st0 t)

/-! the document's -/
def part (c : UInt8) : Bool := decide (32 < c.toNat) && decide (c.toNat < 127) && !decide (c.toNat = 35)
def wordAt (t : Bs) (i : Nat) : Bs := (t.drop i).takeWhile part
structure RS where
 off : Bool
 out : List Wd
def roff (s : RS) (c : UInt8) : Bool := s.off || decide (c.toNat = 35)
def rskip (t : Bs) (s : RS) (i : Nat) (c : UInt8) : Bool := roff s c || !part c || (decide (0 < i) && part (t.getD (i - 1) 0))
def rnext (t : Bs) (s : RS) (i : Nat) (c : UInt8) : RS := ⟨roff s c, if rskip t s i c = true then s.out else s.out ++ [((i : Int) + 1, wordAt t i)]⟩
def rerr (t : Bs) (room : Bool) (s : RS) (i : Nat) (c : UInt8) : Int :=
 if c.toNat < 32 ∨ 126 < c.toNat then 3
 else if rskip t s i c = true then 0
 else if s.out.length = 40 ∨ room = false then 4 else 0
def rgo (t : Bs) (room : Bool) (s : RS) (i : Nat) : Bs → List Wd × Int × Int
 | [] => (s.out, 0, 0)
 | c :: r => if rerr t room s i c = 0 then rgo t room (rnext t s i c) (i + 1) r else (s.out, (i : Int) + 1, rerr t room s i c)
def rline (t : Bs) (room : Bool) : List Wd × Int × Int := rgo t room ⟨false, []⟩ 0 t
def addLn (out : List Ln) (n : Int) (ws : List Wd) : List Ln := if ws = [] then out else out ++ [(n, ws)]
def rlines (n : Int) (cur : Bs) (out : List Ln) : Bs → Res
 | [] => let r := rline cur (decide (out.length < 2000)); if r.2.2 = 0 then ⟨addLn out n r.1, 0, 0, 0⟩ else ⟨[], n, r.2.1, r.2.2⟩
 | c :: r =>
  if c.toNat = 10 then
   let q := rline cur (decide (out.length < 2000))
   if q.2.2 = 0 then rlines (n + 1) [] (addLn out n q.1) r else ⟨[], n, q.2.1, q.2.2⟩
  else rlines n (cur ++ [c]) out r
def docLines (t : Bs) : Res := if 65536 < t.length then ⟨[], 0, 0, 4⟩ else rlines 1 [] [] t

theorem run_ok {s : St} {c : UInt8} {r : Bs} (h : (takes s c).2 = 0) : run s (c :: r) = run (takes s c).1 r := by simp [run, h]
theorem run_bad {s : St} {c : UInt8} {r : Bs} (h : (takes s c).2 ≠ 0) : run s (c :: r) = takes s c := by simp [run, h]
theorem run_append (a b : Bs) : ∀ s, run s (a ++ b) = if (run s a).2 = 0 then run (run s a).1 b else run s a := by
 induction a with
 | nil => intro s; simp [run]
 | cons c r ih =>
  intro s
  by_cases h : (takes s c).2 = 0
  ·rw [List.cons_append, run_ok h, ih, run_ok h]
  ·rw [List.cons_append, run_bad h, run_bad h, if_neg h]

theorem wordAt_of {t : Bs} {i : Nat} {c : UInt8} {r : Bs} (h : t.drop i = c :: r) (hc : part c = true) : wordAt t i = c :: r.takeWhile part := by
 unfold wordAt; rw [h]; simp [hc]

structure Inv (t : Bs) (room : Bool) (p : St) (s : RS) (i : Nat) : Prop where
 col : p.col = i
 off : p.off = s.off
 none : p.frm = 0 → p.word = [] ∧ s.out = p.words ∧ (p.off = true ∨ i = 0 ∨ part (t.getD (i - 1) 0) = false)
 some : p.frm ≠ 0 → p.off = false ∧ 0 < i ∧ part (t.getD (i - 1) 0) = true ∧ ∃ j : Nat, p.frm = (j : Int) + 1 ∧ s.out = p.words ++ [((j : Int) + 1, p.word ++ (t.drop i).takeWhile part)]
 nonneg : 0 ≤ p.frm
 room : room = decide (p.out.length < 2000)
 had : p.words ≠ [] ∨ p.frm ≠ 0 → p.out.length < 2000
 le : s.out.length ≤ 40

theorem part_iff (c : UInt8) : part c = true ↔ 32 < c.toNat ∧ c.toNat < 127 ∧ c.toNat ≠ 35 := by
 unfold part; simp [and_assoc]

theorem getD_of_drop {t : Bs} {i : Nat} {c : UInt8} {r : Bs} (h : t.drop i = c :: r) : t.getD i 0 = c ∧ t.drop (i + 1) = r ∧ i < t.length := by
 have hi : i < t.length := by
  rcases Nat.lt_or_ge i t.length with hi | hi
  ·exact hi
  ·rw [List.drop_eq_nil_of_le hi] at h; cases h
 rw [List.drop_eq_getElem_cons hi] at h
 injection h with h1 h2
 refine ⟨?_, h2, hi⟩
 simp [List.getD, hi, h1]

theorem step_inv {t : Bs} {room : Bool} {p : St} {s : RS} {i : Nat} {c : UInt8} {r : Bs} (h : Inv t room p s i) (hd : t.drop i = c :: r) (hc : c.toNat ≠ 10) :
  (takes p c).2 = rerr t room s i c ∧ (takes p c).1.col = (i : Int) + 1 ∧ (takes p c).1.line = p.line ∧ (takes p c).1.out = p.out ∧ ((takes p c).2 = 0 → Inv t room (takes p c).1 (rnext t s i c) (i + 1)) := by
 obtain ⟨hg, hd2, hi⟩ := getD_of_drop hd
 have hg2 : t.getD (i + 1 - 1) 0 = c := by rw [Nat.add_sub_cancel]; exact hg
 have hcol := h.col
 unfold takes
 rw [if_neg hc]
 by_cases hf : c.toNat < 32 ∨ 126 < c.toNat
 ·rw [if_pos hf]
  have e1 : rerr t room s i c = 3 := by unfold rerr; rw [if_pos hf]
  exact ⟨e1.symm, by simp [onward, hcol], rfl, rfl, fun h => by cases h⟩
 rw [if_neg hf]
 have hr : rerr t room s i c = if rskip t s i c = true then 0 else if s.out.length = 40 ∨ room = false then 4 else 0 := by unfold rerr; rw [if_neg hf]
 by_cases ho : p.off = true
 ·rw [if_pos ho]
  have hso : s.off = true := by rw [← h.off]; exact ho
  have hro : roff s c = true := by unfold roff; rw [hso]; rfl
  have hsk : rskip t s i c = true := by unfold rskip; rw [hro]; rfl
  have hf0 : p.frm = 0 := Classical.byContradiction fun hn => by have := (h.some hn).1; rw [ho] at this; cases this
  refine ⟨by rw [hr, if_pos hsk], by simp [onward, hcol], rfl, rfl, fun _ => ?_⟩
  have hn := h.none hf0
  exact ⟨by simp [onward, hcol], by simp [onward, rnext, hro, ho], fun _ => ⟨hn.1, by simp [rnext, hsk]; exact hn.2.1, .inl ho⟩, fun hx => absurd hf0 hx, h.nonneg, h.room, h.had, by simp only [rnext, if_pos hsk]; exact h.le⟩
 rw [if_neg ho]
 have hoff : p.off = false := by simpa using ho
 have hso : s.off = false := by rw [← h.off]; exact hoff
 have endsEq : ∀ b : Bool, b = roff s c → part c = false → rskip t s i c = true → Inv t room { ends (onward p) with off := b } (rnext t s i c) (i + 1) := by
  intro b hb hpc hsk
  refine ⟨by simp [ends, onward, hcol], by simp [rnext, hb], fun _ => ⟨rfl, ?_, .inr (.inr ?_)⟩, fun hx => absurd rfl hx, Int.le_refl _, h.room, ?_, by simp only [rnext, if_pos hsk]; exact h.le⟩
  ·simp only [rnext, if_pos hsk]
   by_cases h0 : p.frm = 0
   ·rw [(h.none h0).2.1]
    simp [ends, onward, h0]
   ·obtain ⟨_, _, _, j, hj, hso⟩ := h.some h0
    rw [hso, hd]
    have hp : 0 < (j : Int) + 1 := by omega
    simp [ends, onward, hp, hj, hpc]
  ·rw [hg2]; exact hpc
  ·intro hne
   apply h.had
   by_cases h0 : p.frm = 0
   ·left
    simpa [ends, onward, h0] using hne
   ·exact .inr h0
 by_cases h35 : c.toNat = 35
 ·rw [if_pos h35]
  have hpc : part c = false := by
   have := part_iff c
   cases hh : part c
   ·rfl
   ·have := this.1 hh; omega
  have hro : roff s c = true := by unfold roff; simp [h35]
  have hsk : rskip t s i c = true := by unfold rskip; rw [hro]; rfl
  exact ⟨by rw [hr, if_pos hsk], by simp [ends, onward, hcol], rfl, rfl, fun _ => endsEq true hro.symm hpc hsk⟩
 rw [if_neg h35]
 have hro : roff s c = false := by unfold roff; simp [hso, h35]
 by_cases h32 : c.toNat = 32
 ·rw [if_pos h32]
  have hpc : part c = false := by
   have := part_iff c
   cases hh : part c
   ·rfl
   ·have := this.1 hh; omega
  have hsk : rskip t s i c = true := by unfold rskip; rw [hpc]; simp
  refine ⟨by rw [hr, if_pos hsk], by simp [ends, onward, hcol], rfl, rfl, fun _ => ?_⟩
  have := endsEq false hro.symm hpc hsk
  have e : ends (onward p) = { ends (onward p) with off := false } := by simp [ends, onward, hoff]
  rw [e]
  exact this
 rw [if_neg h32]
 have hpc : part c = true := (part_iff c).2 (by omega)
 by_cases h0 : p.frm = 0
 ·have hn := h.none h0
  have hprev : (decide (0 < i) && part (t.getD (i - 1) 0)) = false := by
   rcases hn.2.2 with h1 | h1 | h1
   ·rw [hoff] at h1; cases h1
   ·simp [h1]
   ·rw [h1]; simp
  have hsk : rskip t s i c = false := by unfold rskip; rw [hro, hpc, hprev]; rfl
  have hsk' : ¬ rskip t s i c = true := by rw [hsk]; simp
  rw [if_neg (by omega)]
  by_cases hm : mayBegin p = true
  ·rw [if_pos hm]
   have hm' := hm
   unfold mayBegin at hm'
   simp only [Bool.and_eq_true, Bool.or_eq_true, decide_eq_true_eq] at hm'
   have hout : p.out.length < 2000 := by
    rcases hm'.2 with h1 | h1
    ·exact h.had (.inl (List.ne_nil_of_length_pos h1))
    ·exact h1
   have hl : s.out.length < 40 := by rw [hn.2.1]; exact hm'.1
   refine ⟨?_, by simp [onward, hcol], rfl, rfl, fun _ => ⟨by simp [onward, hcol], by simp [onward, rnext, hro, hoff], fun hx => ?_, fun _ => ⟨hoff, by omega, by rw [hg2]; exact hpc, i, by simp [hcol], ?_⟩, by simp; omega, h.room, fun _ => hout, ?_⟩⟩
   ·rw [hr, if_neg hsk', if_neg]
    rintro (h1 | h1)
    ·omega
    ·rw [h.room] at h1; simp at h1; omega
   ·exfalso
    simp at hx
    omega
   ·simp only [rnext, if_neg hsk', hd2, hn.1, hn.2.1, onward]
    rw [wordAt_of hd hpc]
    rfl
   ·simp only [rnext, if_neg hsk', List.length_append, List.length_singleton]
    omega
  ·rw [if_neg hm]
   refine ⟨?_, by simp [onward, hcol], rfl, rfl, fun hx => by cases hx⟩
   rw [hr, if_neg hsk', if_pos]
   unfold mayBegin at hm
   simp only [Bool.and_eq_true, Bool.or_eq_true, decide_eq_true_eq] at hm
   have hle := h.le
   rw [hn.2.1] at hle ⊢
   by_cases h40 : p.words.length = 40
   ·exact .inl h40
   ·right
    rw [h.room]
    simp
    omega
 ·obtain ⟨ha, hb, hpv, j, hj, hso2⟩ := h.some h0
  have hsk : rskip t s i c = true := by unfold rskip; rw [hpv]; simp [hb]
  have hp : 0 < p.frm := by omega
  rw [if_pos hp]
  refine ⟨by rw [hr, if_pos hsk], by simp [onward, hcol], rfl, rfl, fun _ => ⟨by simp [onward, hcol], by simp [onward, rnext, hro, hoff], fun hx => absurd hx h0, fun _ => ⟨hoff, by omega, by rw [hg2]; exact hpc, j, hj, ?_⟩, h.nonneg, h.room, h.had, by simp only [rnext, if_pos hsk]; exact h.le⟩⟩
  simp only [rnext, if_pos hsk, onward]
  rw [hso2, hd, hd2]
  simp [hpc]

theorem line_inv {t : Bs} {room : Bool} (r : Bs) : ∀ (p : St) (s : RS) (i : Nat), Inv t room p s i → t.drop i = r → (∀ c ∈ r, c.toNat ≠ 10) →
  (run p r).2 = (rgo t room s i r).2.2 ∧ (run p r).1.line = p.line ∧ (run p r).1.out = p.out ∧ ((run p r).2 ≠ 0 → (run p r).1.col = (rgo t room s i r).2.1) ∧ ((run p r).2 = 0 → (ends (run p r).1).words = (rgo t room s i r).1) := by
 induction r with
 | nil =>
  intro p s i h hd _
  refine ⟨rfl, rfl, rfl, fun hx => absurd rfl hx, fun _ => ?_⟩
  simp only [run, rgo]
  by_cases h0 : p.frm = 0
  ·rw [(h.none h0).2.1]; simp [ends, h0]
  ·obtain ⟨_, _, _, j, hj, hso⟩ := h.some h0
   have hp : 0 < (j : Int) + 1 := by omega
   rw [hso, hd]
   simp [ends, hj, hp]
 | cons c r ih =>
  intro p s i h hd hn
  obtain ⟨e1, e2, e3, e4, e5⟩ := step_inv h hd (hn c (by simp))
  simp only [rgo, ← e1]
  by_cases hz : (takes p c).2 = 0
  ·rw [run_ok hz, if_pos hz]
   obtain ⟨f1, f2, f3, f4, f5⟩ := ih _ _ (i + 1) (e5 hz) (getD_of_drop hd).2.1 (fun x hx => hn x (by simp [hx]))
   exact ⟨f1, f2.trans e3, f3.trans e4, f4, f5⟩
  ·rw [run_bad hz, if_neg hz]
   exact ⟨rfl, e3, e4, fun _ => e2, fun hx => absurd hx hz⟩

def fresh (n : Int) (out : List Ln) : St := ⟨n, 0, 0, false, [], [], out⟩
theorem inv0 (t : Bs) (n : Int) (out : List Ln) : Inv t (decide (out.length < 2000)) (fresh n out) ⟨false, []⟩ 0 :=
 ⟨rfl, rfl, fun _ => ⟨rfl, rfl, .inr (.inl rfl)⟩, fun h => absurd rfl h, Int.le_refl _, rfl, fun h => by rcases h with h | h <;> exact absurd rfl h, by simp⟩
theorem line_all (t : Bs) (n : Int) (out : List Ln) (h : ∀ c ∈ t, c.toNat ≠ 10) :
  (run (fresh n out) t).2 = (rline t (decide (out.length < 2000))).2.2 ∧ (run (fresh n out) t).1.line = n ∧ (run (fresh n out) t).1.out = out ∧ ((run (fresh n out) t).2 ≠ 0 → (run (fresh n out) t).1.col = (rline t (decide (out.length < 2000))).2.1) ∧
  ((run (fresh n out) t).2 = 0 → (ends (run (fresh n out) t).1).words = (rline t (decide (out.length < 2000))).1) :=
 line_inv t _ _ 0 (inv0 t n out) rfl h

theorem breaks_eq (p : St) (n : Int) (out : List Ln) (ws : List Wd) (hl : p.line = n) (ho : p.out = out) (hw : (ends p).words = ws) : breaks p = fresh (n + 1) (addLn out n ws) := by
 subst hl; subst ho; subst hw
 rfl

theorem rlines_eq (r : Bs) : ∀ (n : Int) (cur : Bs) (out : List Ln), (∀ c ∈ cur, c.toNat ≠ 10) → rlines n cur out r = close (run (fresh n out) (cur ++ r)) := by
 induction r with
 | nil =>
  intro n cur out hc
  obtain ⟨e1, e2, e3, e4, e5⟩ := line_all cur n out hc
  rw [List.append_nil]
  unfold rlines close
  dsimp only
  rw [← e1]
  by_cases hz : (run (fresh n out) cur).2 = 0
  ·rw [if_pos hz, if_pos hz, breaks_eq _ n out _ e2 e3 (e5 hz)]
   rfl
  ·rw [if_neg hz, if_neg hz, e2, e4 hz]
 | cons c r ih =>
  intro n cur out hc
  unfold rlines
  by_cases h10 : c.toNat = 10
  ·rw [if_pos h10]
   dsimp only
   obtain ⟨e1, e2, e3, e4, e5⟩ := line_all cur n out hc
   rw [run_append, ← e1]
   by_cases hz : (run (fresh n out) cur).2 = 0
   ·rw [if_pos hz, if_pos hz, ih _ _ _ (by simp)]
    have : run (run (fresh n out) cur).1 (c :: r) = run (fresh (n + 1) (addLn out n (rline cur (decide (out.length < 2000))).1)) r := by
     have h1 : takes (run (fresh n out) cur).1 c = (breaks (onward (run (fresh n out) cur).1), 0) := by unfold takes; rw [if_pos h10]
     rw [run_ok (by rw [h1]), h1]
     rw [breaks_eq (onward (run (fresh n out) cur).1) n out (rline cur (decide (out.length < 2000))).1 e2 e3 (e5 hz)]
    rw [this]
    rfl
   ·rw [if_neg hz, if_neg hz]
    unfold close
    rw [if_neg hz, e2, e4 hz]
  ·rw [if_neg h10, ih _ _ _ (by
    intro x hx
    rcases List.mem_append.1 hx with hx | hx
    ·exact hc x hx
    ·simp at hx; rw [hx]; exact h10)]
   simp

theorem lines_eq (t : Bs) : lines t = docLines t := by
 unfold lines docLines
 by_cases h : 65536 < t.length
 ·rw [if_pos h, if_pos h]
 ·rw [if_neg h, if_neg h, rlines_eq t 1 [] [] (by simp)]
  rfl
end Go.Proofs.YteailgjiifdgcaaGreatDoor.LexM

/- Plain: what the words of a line tell: settings, a wish, a root; a request. No condition. -/
namespace Go.Proofs.YteailgjiifdgcaaGreatDoor
open Go.Lib VerN VarM
open LexM (Wd Ln)

abbrev Spc3 := ByteArray × List BSp × List Setg
def peekB (ws : List Wd) (i : Nat) : ByteArray := match ws[i]? with
 | some x => ⟨x.2.toArray⟩
 | none => ⟨#[]⟩
def colAt (ws : List Wd) (fin : Int) (i : Nat) : Int := match ws[i]? with
 | some x => x.1
 | none => fin
def cutB (c : UInt8) (s : ByteArray) : ByteArray × ByteArray × Bool := (⟨(cut s.data.toList [c]).1.toArray⟩, ⟨(cut s.data.toList [c]).2.1.toArray⟩, (cut s.data.toList [c]).2.2)
def hasB (c : UInt8) (s : ByteArray) : Bool := decide (0 ≤ indexByte s.data.toList c)
def setgB (s : ByteArray) : Setg := ((cutB 61 s).1, (cutB 61 s).2.1)
def setsW (ws : List Wd) : Nat → Nat → List Setg → Option (List Setg) × Nat
 | 0, i, out => (some out, i)
 | f + 1, i, out => if hasB 61 (peekB ws i) = true then (if wishIs (out ++ [setgB (peekB ws i)]) = true then setsW ws f (i + 1) (out ++ [setgB (peekB ws i)]) else (none, i)) else (some out, i)
theorem peek_none {ws : List Wd} {i : Nat} (h : ws.length ≤ i) : peekB ws i = ⟨#[]⟩ := by unfold peekB; rw [List.getElem?_eq_none h]
theorem peek_some {ws : List Wd} {i : Nat} (h : i < ws.length) : peekB ws i = ⟨ws[i].2.toArray⟩ := by unfold peekB; rw [List.getElem?_eq_getElem h]
theorem col_none {ws : List Wd} {fin : Int} {i : Nat} (h : ws.length ≤ i) : colAt ws fin i = fin := by unfold colAt; rw [List.getElem?_eq_none h]
theorem col_some {ws : List Wd} {fin : Int} {i : Nat} (h : i < ws.length) : colAt ws fin i = ws[i].1 := by unfold colAt; rw [List.getElem?_eq_getElem h]
theorem has_none : hasB 61 ⟨#[]⟩ = false := by decide
def setsAt (ws : List Wd) (i : Nat) (out : List Setg) : Option (List Setg) × Nat := setsW ws (ws.length - i) i out
theorem setsAt_end {ws : List Wd} {i : Nat} {out : List Setg} (h : hasB 61 (peekB ws i) = false) : setsAt ws i out = (some out, i) := by
 unfold setsAt
 cases hf : ws.length - i with
 | zero => rfl
 | succ f => unfold setsW; rw [if_neg (by rw [h]; simp)]
theorem has_lt {ws : List Wd} {i : Nat} (h : hasB 61 (peekB ws i) = true) : i < ws.length := by
 apply Nat.lt_of_not_le
 intro hk
 rw [peek_none hk, has_none] at h
 cases h
theorem setsAt_on {ws : List Wd} {i : Nat} {out : List Setg} (h : hasB 61 (peekB ws i) = true) (hw : wishIs (out ++ [setgB (peekB ws i)]) = true) : setsAt ws i out = setsAt ws (i + 1) (out ++ [setgB (peekB ws i)]) := by
 have hl := has_lt h
 unfold setsAt
 obtain ⟨f, hf⟩ : ∃ f, ws.length - i = f + 1 := ⟨ws.length - i - 1, by omega⟩
 rw [hf, show ws.length - (i + 1) = f by omega]
 show (if _ then _ else _) = _
 rw [if_pos h, if_pos hw]
theorem setsAt_no {ws : List Wd} {i : Nat} {out : List Setg} (h : hasB 61 (peekB ws i) = true) (hw : wishIs (out ++ [setgB (peekB ws i)]) = false) : setsAt ws i out = (none, i) := by
 have hl := has_lt h
 unfold setsAt
 obtain ⟨f, hf⟩ : ∃ f, ws.length - i = f + 1 := ⟨ws.length - i - 1, by omega⟩
 rw [hf]
 show (if _ then _ else _) = _
 rw [if_pos h, if_neg (by rw [hw]; simp)]
open Classical in
noncomputable def setOk (t : ByteArray) : Bool := decide (Rd3 t ∧ rdV t ≠ [] ∧ (rdV t).head? ≠ some (⟨#[]⟩, ⟨#[]⟩))
def allV : List BSp := [(⟨#[]⟩, ⟨#[]⟩)]
noncomputable def nameB (s : ByteArray) : Bool := nameOf (cutB 64 s).1.data.toList && (!(cutB 64 s).2.2 || setOk (cutB 64 s).2.1)
noncomputable def spansB (s : ByteArray) : List BSp := if (cutB 64 s).2.2 = true then rdV (cutB 64 s).2.1 else allV
noncomputable def wishW (ws : List Wd) (i : Nat) : Option Spc3 × Nat :=
 if nameB (peekB ws i) = true then ((setsAt ws (i + 1) []).1.map fun l => ((cutB 64 (peekB ws i)).1, spansB (peekB ws i), l), (setsAt ws (i + 1) []).2) else (none, i)
def rootT : ByteArray := ⟨#[114, 111, 111, 116]⟩
def lineEnd (l : Ln) : Int := match l.2.getLast? with
 | some x => x.1 + x.2.length
 | none => 0
noncomputable def rootW (l : Ln) : Option Spc3 × Int :=
 if peekB l.2 0 = rootT then
  match wishW (l.2.drop 1) 0 with
  | (some s, j) => if j < l.2.length - 1 then (none, colAt (l.2.drop 1) (lineEnd l) j) else (some s, 0)
  | (none, j) => (none, colAt (l.2.drop 1) (lineEnd l) j)
 else (none, colAt l.2 (lineEnd l) 0)
structure ReqRes where
 roots : List (Spc3 × Int)
 at1 : Int
 at2 : Int
 e : Int
noncomputable def reqGo : List Ln → List (Spc3 × Int) → ReqRes
 | [], out => ⟨out, 0, 0, 0⟩
 | l :: r, out => match rootW l with
  | (some s, _) => reqGo r (out ++ [(s, l.1)])
  | (none, c) => ⟨[], l.1, c, 2⟩
noncomputable def reqOf (t : List UInt8) : ReqRes := if (LexM.docLines t).e = 0 then reqGo (LexM.docLines t).lines [] else ⟨[], (LexM.docLines t).at1, (LexM.docLines t).at2, (LexM.docLines t).e⟩
end Go.Proofs.YteailgjiifdgcaaGreatDoor

/- Plain: the chapter's example of a request. No condition. -/
namespace Go.Proofs.YteailgjiifdgcaaGreatDoor
open Go.Lib VerN VarM
open LexM (Wd Ln)

def fx8T : ByteArray := ⟨#[114, 111, 111, 116, 32, 97, 64, 49, 58, 32, 120, 61, 111, 110]⟩
def fx8L : Ln := (1, [(1, [114, 111, 111, 116]), (6, [97, 64, 49, 58]), (11, [120, 61, 111, 110])])
theorem fx8_doc : LexM.docLines fx8T.data.toList = ⟨[fx8L], 0, 0, 0⟩ := by kernel_rfl
def fx8One : ByteArray := ⟨#[49, 58]⟩
def fx8Sp : Tp := ⟨(⟨#[49]⟩, ⟨#[]⟩), by decide⟩
theorem fx8_rd : rdSp fx8One = [(⟨#[49]⟩, ⟨#[]⟩)] := by decide +kernel
theorem fx8_rdV : rdV fx8One = [(⟨#[49]⟩, ⟨#[]⟩)] := by
 unfold rdV
 rw [if_neg (by decide)]
 exact fx8_rd
theorem fx8_rd3 : Rd3 fx8One := by
 refine .inr ⟨by decide +kernel, fun l hl => ?_⟩
 rw [fx8_rd] at hl
 have e : l = [fx8Sp] := by
  match l, hl with
  | [x], hl =>
   have h1 : x.1 = (⟨#[49]⟩, ⟨#[]⟩) := by simpa [tB] using hl
   rw [show x = fx8Sp from Subtype.ext h1]
  | [], hl => simp [tB] at hl
  | _ :: _ :: _, hl => simp [tB] at hl
 rw [e]
 decide +kernel
open Classical in
theorem fx8_set : setOk fx8One = true := by
 unfold setOk
 refine decide_eq_true ⟨fx8_rd3, ?_⟩
 rw [fx8_rdV]
 exact ⟨by simp, by simp⟩
theorem fx8_req : ∃ s, reqOf fx8T.data.toList = ⟨[(s, 1)], 0, 0, 0⟩ ∧ s.1 = ⟨#[97]⟩ := by
 have hn : nameB ⟨#[97, 64, 49, 58]⟩ = true := by
  unfold nameB
  rw [show (cutB 64 (⟨#[97, 64, 49, 58]⟩ : ByteArray)) = (⟨#[97]⟩, fx8One, true) from by kernel_rfl, fx8_set]
  kernel_rfl
 have h1 : peekB (fx8L.2.drop 1) 0 = ⟨#[97, 64, 49, 58]⟩ := by kernel_rfl
 have h2 : setsAt (fx8L.2.drop 1) 1 [] = (some [(⟨#[120]⟩, ⟨#[111, 110]⟩)], 2) := by kernel_rfl
 have h3 : wishW (fx8L.2.drop 1) 0 = (some (⟨#[97]⟩, spansB ⟨#[97, 64, 49, 58]⟩, [(⟨#[120]⟩, ⟨#[111, 110]⟩)]), 2) := by
  unfold wishW
  rw [h1, if_pos hn, h2]
  rfl
 have h4 : rootW fx8L = (some (⟨#[97]⟩, spansB ⟨#[97, 64, 49, 58]⟩, [(⟨#[120]⟩, ⟨#[111, 110]⟩)]), 0) := by
  unfold rootW
  rw [if_pos (by kernel_rfl), h3]
  rfl
 refine ⟨(⟨#[97]⟩, spansB ⟨#[97, 64, 49, 58]⟩, [(⟨#[120]⟩, ⟨#[111, 110]⟩)]), ?_, rfl⟩
 unfold reqOf
 rw [fx8_doc]
 show reqGo [fx8L] [] = _
 unfold reqGo
 rw [h4]
 rfl
end Go.Proofs.YteailgjiifdgcaaGreatDoor

/- Words and lines as values in memory, and a lexer's state there. No condition. -/
namespace Go.Proofs.YteailgjiifdgcaaGreatDoor
open Go.RowKit
open LexM (Bs Wd Ln St)

abbrev bv (s : Bs) : Value := .string ⟨s.toArray⟩
def wdCells (x : Wd) : List Value := [.int .i64 x.1, bv x.2]
def byVals (s : Bs) : List Value := s.map fun c => .int .u8 c.toNat
def lnCells (out : List Ln) (rv : List Value) : List Value := (out.zip rv).flatMap fun x => [.int .i64 x.1.1, x.2]
theorem elem_byte : Elem Tryz.prog 142 5 (.int .u8 0) 1 1 := ⟨Tryz.underlying142, by kernel_rfl, rfl, by decide⟩
theorem elem_word : Elem Tryz.prog 60 64 (.agg #[.int .i64 0, .string ⟨#[]⟩]) 2 24 := ⟨Tryz.underlying60, by kernel_rfl, rfl, by decide⟩
theorem elem_line : Elem Tryz.prog 56 62 (.agg #[.int .i64 0, .slice none 0 0]) 2 32 := ⟨Tryz.underlying56, by kernel_rfl, rfl, by decide⟩

def lexCells (s : St) (wv sv ov : Value) : Array Value := #[.int .i64 s.line, .int .i64 s.col, .int .i64 s.frm, .bool s.off, wv, sv, ov]
structure LexSt (w0 : World) (x : Nat) (s : St) (wv sv ov : Value) (rv : List Value) (w : World) : Prop where
 cells : w.heap[x]? = some (.cells (lexCells s wv sv ov) 182 (0, 0))
 word : w.ownsRow w0.heap.size 5 1 wv s.word.length (byVals s.word)
 words : w.ownsRow w0.heap.size 64 2 sv s.words.length (s.words.flatMap wdCells)
 out : w.ownsRow w0.heap.size 62 2 ov s.out.length (lnCells s.out rv)
 rlen : rv.length = s.out.length
 rows : ∀ (i : Nat) (ln : Ln) (v : Value), s.out[i]? = some ln → rv[i]? = some v → w.ownsRow w0.heap.size 64 2 v ln.2.length (ln.2.flatMap wdCells) ∧ ∀ k, v.ownBlock = some k → sv.ownBlock ≠ some k
 bel : Below w0.heap.size w0 w
 xB : w0.heap.size ≤ x

theorem LexSt.xs {w0 w : World} {x : Nat} {s : St} {wv sv ov : Value} {rv : List Value} (h : LexSt w0 x s wv sv ov rv w) : x < w.heap.size := (Array.getElem?_eq_some_iff.1 h.cells).1

theorem LexSt.to {w0 w w' : World} {x : Nat} {s s' : St} {wv sv ov wv' sv' : Value} {rv : List Value} (h : LexSt w0 x s wv sv ov rv w) (hf : Frm (fun k => k = x) w w')
  (hc : w'.heap[x]? = some (.cells (lexCells s' wv' sv' ov) 182 (0, 0)))
  (h1 : (wv' = wv ∧ s'.word = s.word) ∨ (wv' = .slice none 0 0 ∧ s'.word = [])) (h2 : (sv' = sv ∧ s'.words = s.words) ∨ (sv' = .slice none 0 0 ∧ s'.words = [])) (h3 : s'.out = s.out) : LexSt w0 x s' wv' sv' ov rv w' := by
 have hxw := apart_block h.word h.cells (by decide)
 have hxs := apart_block h.words h.cells (by decide)
 have hxo := apart_block h.out h.cells (by decide)
 refine ⟨hc, ?_, ?_, ?_, by rw [h3]; exact h.rlen, ?_, h.bel.trans (hf.below h.bel.size (fun k hk => by rw [hk]; exact h.xB)), h.xB⟩
 ·rcases h1 with ⟨rfl, e⟩ | ⟨rfl, e⟩
  ·rw [e]; exact hf.owns h.word (fun k hk e => hxw (by rw [hk, e]))
  ·rw [e]; exact World.ownsRow_nil _ _ _ _
 ·rcases h2 with ⟨rfl, e⟩ | ⟨rfl, e⟩
  ·rw [e]; exact hf.owns h.words (fun k hk e => hxs (by rw [hk, e]))
  ·rw [e]; exact World.ownsRow_nil _ _ _ _
 ·rw [h3]; exact hf.owns h.out (fun k hk e => hxo (by rw [hk, e]))
 ·intro i ln v hi hv
  rw [h3] at hi
  obtain ⟨r1, r2⟩ := h.rows i ln v hi hv
  have hxv := apart_block r1 h.cells (by decide)
  refine ⟨hf.owns r1 (fun k hk e => hxv (by rw [hk, e])), fun k hk => ?_⟩
  rcases h2 with ⟨rfl, e⟩ | ⟨rfl, e⟩
  ·exact r2 k hk
  ·simp [Value.ownBlock]
theorem LexSt.keep {w0 w w' : World} {x : Nat} {s : St} {wv sv ov : Value} {rv : List Value} (h : LexSt w0 x s wv sv ov rv w) (hf : Frm (fun _ => False) w w') : LexSt w0 x s wv sv ov rv w' :=
 h.to (hf.mono (fun _ _ h => h.elim)) (heap_to h.cells hf (fun h => h)) (.inl ⟨rfl, rfl⟩) (.inl ⟨rfl, rfl⟩) rfl

theorem LexSt.pushByte {w0 w w3 : World} {x : Nat} {s : St} {wv sv ov : Value} {rv : List Value} (h : LexSt w0 x s wv sv ov rv w) (c : UInt8) {wv' : Value}
  (hown : w3.ownsRow w0.heap.size 5 1 wv' (s.word.length + 1) (byVals s.word ++ [.int .u8 c.toNat])) (hg : w.grownBy w3 wv.ownBlock) :
  LexSt w0 x { s with word := s.word ++ [c] } wv' sv ov rv (w3.setCell ⟨x, 4, none⟩ wv') := by
 have hxw := apart_block h.word h.cells (by decide)
 have f1 : Frm (fun k => wv.ownBlock = some k) w w3 := (Frm.refl _ w).grown hg (fun k hk => .inr hk)
 have hc3 := heap_to h.cells f1 hxw
 have f2 : Frm (fun k => k = x) w3 (w3.setCell ⟨x, 4, none⟩ wv') := Frm.setCell (S := fun k => k = x) (Frm.refl _ _) (p := ⟨x, 4, none⟩) (.inr rfl) _
 have hx3 := apart_block hown hc3 (by decide)
 refine ⟨?_, ?_, ?_, ?_, h.rlen, ?_, ?_, h.xB⟩
 ·rw [heap_setCell_same w3 x 4 _ _ wv' hc3]; rfl
 ·simp only [List.length_append, List.length_singleton, byVals, List.map_append]
  exact f2.owns hown (fun k hk e => hx3 (by rw [hk, e]))
 ·have := f1.owns h.words (fun k hk e => apart_type h.words h.word (by decide) k hk e)
  have hxs := apart_block this hc3 (by decide)
  exact f2.owns this (fun k hk e => hxs (by rw [hk, e]))
 ·have := f1.owns h.out (fun k hk e => apart_type h.out h.word (by decide) k hk e)
  have hxs := apart_block this hc3 (by decide)
  exact f2.owns this (fun k hk e => hxs (by rw [hk, e]))
 ·intro i ln v hi hv
  obtain ⟨r1, r2⟩ := h.rows i ln v hi hv
  have := f1.owns r1 (fun k hk e => apart_type r1 h.word (by decide) k hk e)
  have hxs := apart_block this hc3 (by decide)
  exact ⟨f2.owns this (fun k hk e => hxs (by rw [hk, e])), r2⟩
 ·have b1 : Below w0.heap.size w w3 := f1.below h.bel.size (fun k hk => (h.word.lt k hk).1)
  exact (h.bel.trans b1).trans (f2.below (by have := h.bel.size; have := f1.size; omega) (fun k hk => by rw [hk]; exact h.xB))

theorem LexSt.pushWord {w0 w w3 : World} {x : Nat} {s : St} {wv sv ov : Value} {rv : List Value} (h : LexSt w0 x s wv sv ov rv w) (a : Wd) {sv' : Value}
  (hown : w3.ownsRow w0.heap.size 64 2 sv' (s.words.length + 1) (s.words.flatMap wdCells ++ wdCells a)) (hg : w.grownBy w3 sv.ownBlock) (hm : Moved w sv sv') :
  LexSt w0 x { s with words := s.words ++ [a] } wv sv' ov rv (w3.setCell ⟨x, 5, none⟩ sv') := by
 have hxw := apart_block h.words h.cells (by decide)
 have f1 : Frm (fun k => sv.ownBlock = some k) w w3 := (Frm.refl _ w).grown hg (fun k hk => .inr hk)
 have hc3 := heap_to h.cells f1 hxw
 have f2 : Frm (fun k => k = x) w3 (w3.setCell ⟨x, 5, none⟩ sv') := Frm.setCell (S := fun k => k = x) (Frm.refl _ _) (p := ⟨x, 5, none⟩) (.inr rfl) _
 have hx3 := apart_block hown hc3 (by decide)
 refine ⟨?_, ?_, ?_, ?_, h.rlen, ?_, ?_, h.xB⟩
 ·rw [heap_setCell_same w3 x 5 _ _ sv' hc3]; rfl
 ·have := f1.owns h.word (fun k hk e => apart_type h.word h.words (by decide) k hk e)
  have hxs := apart_block this hc3 (by decide)
  exact f2.owns this (fun k hk e => hxs (by rw [hk, e]))
 ·simp only [List.length_append, List.length_singleton, List.flatMap_append, List.flatMap_cons, List.flatMap_nil, List.append_nil]
  exact f2.owns hown (fun k hk e => hx3 (by rw [hk, e]))
 ·have := f1.owns h.out (fun k hk e => apart_type h.out h.words (by decide) k hk e)
  have hxs := apart_block this hc3 (by decide)
  exact f2.owns this (fun k hk e => hxs (by rw [hk, e]))
 ·intro i ln v hi hv
  obtain ⟨r1, r2⟩ := h.rows i ln v hi hv
  have := f1.owns r1 (fun k hk e => r2 k hk e)
  have hxs := apart_block this hc3 (by decide)
  refine ⟨f2.owns this (fun k hk e => hxs (by rw [hk, e])), fun k hk e => ?_⟩
  rcases hm k e with e | e
  ·exact r2 k hk e
  ·have := (r1.lt k hk).2; omega
 ·have b1 : Below w0.heap.size w w3 := f1.below h.bel.size (fun k hk => (h.words.lt k hk).1)
  exact (h.bel.trans b1).trans (f2.below (by have := h.bel.size; have := f1.size; omega) (fun k hk => by rw [hk]; exact h.xB))

theorem lnCells_snoc {out : List Ln} {rv : List Value} (h : rv.length = out.length) (ln : Ln) (v : Value) : lnCells (out ++ [ln]) (rv ++ [v]) = lnCells out rv ++ [.int .i64 ln.1, v] := by
 unfold lnCells
 rw [List.zip_append h.symm]
 simp
theorem LexSt.pushLine {w0 w w3 w' : World} {x : Nat} {s s' : St} {wv sv ov : Value} {rv : List Value} (h : LexSt w0 x s wv sv ov rv w) {ov' : Value}
  (hown : w3.ownsRow w0.heap.size 62 2 ov' (s.out.length + 1) (lnCells s.out rv ++ [.int .i64 s.line, sv])) (hg : w.grownBy w3 ov.ownBlock) (hf : Frm (fun k => k = x) w3 w')
  (hc : w'.heap[x]? = some (.cells (lexCells s' wv (.slice none 0 0) ov') 182 (0, 0))) (h1 : s'.word = s.word) (h2 : s'.words = []) (h3 : s'.out = s.out ++ [(s.line, s.words)]) :
  LexSt w0 x s' wv (.slice none 0 0) ov' (rv ++ [sv]) w' := by
 have hxw := apart_block h.out h.cells (by decide)
 have f1 : Frm (fun k => ov.ownBlock = some k) w w3 := (Frm.refl _ w).grown hg (fun k hk => .inr hk)
 have hc3 := heap_to h.cells f1 hxw
 have hx3 := apart_block hown hc3 (by decide)
 refine ⟨hc, ?_, ?_, ?_, by rw [h3]; simp [h.rlen], ?_, ?_, h.xB⟩
 ·rw [h1]
  have := f1.owns h.word (fun k hk e => apart_type h.word h.out (by decide) k hk e)
  have hxs := apart_block this hc3 (by decide)
  exact hf.owns this (fun k hk e => hxs (by rw [hk, e]))
 ·rw [h2]; exact World.ownsRow_nil _ _ _ _
 ·rw [h3, lnCells_snoc h.rlen, List.length_append]
  exact hf.owns hown (fun k hk e => hx3 (by rw [hk, e]))
 ·intro i ln v hi hv
  refine ⟨?_, by simp [Value.ownBlock]⟩
  rw [h3] at hi
  by_cases hlt : i < s.out.length
  ·rw [List.getElem?_append_left hlt] at hi
   rw [List.getElem?_append_left (by rw [h.rlen]; exact hlt)] at hv
   obtain ⟨r1, r2⟩ := h.rows i ln v hi hv
   have := f1.owns r1 (fun k hk e => apart_type r1 h.out (by decide) k hk e)
   have hxs := apart_block this hc3 (by decide)
   exact hf.owns this (fun k hk e => hxs (by rw [hk, e]))
  ·have hil := (List.getElem?_eq_some_iff.1 hi).1
   simp at hil
   obtain rfl : i = s.out.length := by omega
   have hh := h.rlen
   rw [List.getElem?_append_right (Nat.le_refl _)] at hi
   rw [← hh, List.getElem?_append_right (Nat.le_refl _)] at hv
   simp at hi hv
   subst hi; subst hv
   have := f1.owns h.words (fun k hk e => apart_type h.words h.out (by decide) k hk e)
   have hxs := apart_block this hc3 (by decide)
   exact hf.owns this (fun k hk e => hxs (by rw [hk, e]))
 ·have b1 : Below w0.heap.size w w3 := f1.below h.bel.size (fun k hk => (h.out.lt k hk).1)
  exact (h.bel.trans b1).trans (hf.below (by have := h.bel.size; have := f1.size; omega) (fun k hk => by rw [hk]; exact h.xB))

structure Small (s : St) (m : Nat) : Prop where
 col : 0 ≤ s.col ∧ s.col ≤ m
 line : 0 ≤ s.line ∧ s.line ≤ m + 1
 frm : 0 ≤ s.frm ∧ s.frm ≤ m
 word : s.word.length ≤ m
 words : s.words.length ≤ m
 out : s.out.length ≤ m
 begun : 0 < s.frm → s.word ≠ []

/-! what is read -/
def RWd : Rd Wd := fun _ cs x => cs = wdCells x ∧ (Lit.int .i64 x.1).wf = true ∧ x.2.length ≤ maxLen
def RLn : Rd Ln := fun w cs x => ∃ v, cs = [.int .i64 x.1, v] ∧ RSlice 2 RWd w [v] x.2 ∧ (Lit.int .i64 x.1).wf = true
abbrev RLns : Rd (List Ln) := RSlice 2 RLn
theorem stays_wd : Stays RWd := fun _ _ _ _ h _ => h
theorem stays_ln : Stays RLn := fun _ _ _ _ ⟨v, h1, h2, h3⟩ hb => ⟨v, h1, stays_slice stays_wd _ _ _ _ h2 hb, h3⟩
theorem stays_lns : Stays RLns := stays_slice stays_ln
theorem rslice_of_owns {α : Type} {w : World} {B : Nat} {e : TypeId} {sz : Nat} {v : Value} {l : List α} (f : α → List Value) (R : Rd α) (hsz : ∀ x ∈ l, (f x).length = sz) (hR : ∀ x ∈ l, R w (f x) x) (h : w.ownsRow B e sz v l.length (l.flatMap f)) : RSlice sz R w [v] l := by
 have hget : ∀ (i : Nat) x, l[i]? = some x → ∀ j u, (f x)[j]? = some u → (l.flatMap f)[i * sz + j]? = some u := by
  clear h hR
  induction l with
  | nil => intro i x hi; simp at hi
  | cons a l ih =>
   intro i x hi j u hu
   rw [List.flatMap_cons]
   have ha := hsz a (by simp)
   have hj : j < sz := by
    have hx := hsz x (List.mem_of_getElem? hi)
    have := (List.getElem?_eq_some_iff.1 hu).1
    omega
   match i, hi with
   | 0, hi =>
    simp at hi
    subst hi
    rw [List.getElem?_append_left (by omega)]
    simpa using hu
   | i + 1, hi =>
    have hge : sz ≤ (i + 1) * sz + j := by rw [Nat.succ_mul]; omega
    rw [List.getElem?_append_right (by omega), ha, show (i + 1) * sz + j - sz = i * sz + j by rw [Nat.succ_mul]; omega]
    exact ih (fun y hy => hsz y (by simp [hy])) i x (by simpa using hi) j u hu
 rcases h.2 with ⟨rfl, h0⟩ | ⟨g, cap, cur, rfl, hg, hh, hn, hm, hs, ht⟩
 ·exact ⟨none, 0, by rw [h0], by omega, Nat.zero_le _, fun i x hi => by have := (List.getElem?_eq_some_iff.1 hi).1; omega⟩
 ·refine ⟨some ⟨g, 0, none⟩, cap, rfl, hn, hm, fun i x hi => ⟨g, 0, f x, rfl, hsz x (List.mem_of_getElem? hi), fun j u hu => ?_, hR x (List.mem_of_getElem? hi)⟩⟩
  have := h.cells (g := g) rfl (i * sz + j) u (hget i x hi j u hu)
  rw [Addr.add_lit] at this
  simpa [Nat.add_assoc] using this
end Go.Proofs.YteailgjiifdgcaaGreatDoor

/- The walks of the reader's own: more, peek, throw, want. No condition. -/
namespace Go.Proofs.YteailgjiifdgcaaGreatDoor
open Go.RowKit Go.Shelf
open LexM (Wd)
attribute [local go_sem ↓] Go.wp_at_zero Go.wp_at_succ

abbrev RBox (r : Nat) (v : Value) (i : Nat) (fin : Int) (W : World) : Prop := W.heap[r]? = some (.cells #[v, .int .i64 i, .int .i64 fin] 137 (0, 0))
abbrev rp (r : Nat) : Value := .pointer (some ⟨r, 0, none⟩)
abbrev RWds : Rd (List Wd) := RSlice 2 RWd
theorem rbox_cells {r : Nat} {v : Value} {i : Nat} {fin : Int} {W : World} (h : RBox r v i fin W) : W.cell? ⟨r, 0, none⟩ = some v ∧ W.cell? ⟨r, 1, none⟩ = some (.int .i64 i) ∧ W.cell? ⟨r, 2, none⟩ = some (.int .i64 fin) ∧ W.frozen? ⟨r, 1, none⟩ = false :=
 ⟨cells_at h 0, cells_at h 1, cells_at h 2, frozen_at h 1⟩
theorem wds_shape {w : World} {v : Value} {ws : List Wd} (h : RWds w [v] ws) : ∃ a c, v = .slice a ws.length c := by
 obtain ⟨a, cap, hv, _⟩ := h
 simp only [List.cons.injEq, and_true] at hv
 exact ⟨a, cap, hv⟩
theorem wds_at {w : World} {a : Option Addr} {n c : Nat} {ws : List Wd} (h : RWds w [.slice a n c] ws) : n = ws.length ∧ n ≤ 9223372036854775807 ∧ ∀ i x, ws[i]? = some x → ∃ b off, a = some ⟨b, off, none⟩ ∧ w.cell? ⟨b, off + i * 2, none⟩ = some (.int .i64 x.1) ∧ w.cell? ⟨b, off + i * 2 + 1, none⟩ = some (.string ⟨x.2.toArray⟩) ∧ x.2.length ≤ 9223372036854775807 := by
 obtain ⟨a', cap, hv, hcap, hmax, hel⟩ := h
 simp only [List.cons.injEq, and_true, Value.slice.injEq] at hv
 obtain ⟨rfl, hn, _⟩ := hv
 unfold maxLen at hmax
 refine ⟨hn, by omega, fun i x hi => ?_⟩
 obtain ⟨b, off, ecs, h1, h2, h3, h4, _, h5⟩ := hel i x hi
 subst h4
 unfold maxLen at h5
 exact ⟨b, off, h1, by simpa [wdCells] using h3 0 _ rfl, by simpa [wdCells] using h3 1 _ rfl, by omega⟩
set_option maxRecDepth 10000 in
theorem more_any {w : World} {r : Nat} {a : Option Addr} {n c i : Nat} {fin : Int} (h : RBox r (.slice a n c) i fin w) : Calls Tryz.prog 159 #[rp r] w fun e w' => e = .returned (.bool (decide (i < n))) ∧ ∃ q, w' = w.drewN q := by
 obtain ⟨c0, c1, _, _⟩ := rbox_cells h
 have k1 : decide ((i : Int) < (n : Int)) = decide (i < n) := decide_eq_decide.2 (by omega)
 have Hh := hd h; clear h
 go_enter Tryz.func159, Tryz.ntmps159
 go_wp2_with fail
 go_quiet (fail)
 go_wp2_with fail
 go_ret
 exact ⟨rfl, _, rfl⟩
abbrev thrown (c : Int) : Ending := .panicked [{ v := .iface 206 (.agg #[.int .i64 c]), recovered := false }]
set_option maxRecDepth 10000 in
theorem peek_any {w : World} {r : Nat} {a : Option Addr} {n c i : Nat} {fin : Int} {ws : List Wd} (h : RBox r (.slice a n c) i fin w) (hw : RWds w [.slice a n c] ws) : Calls Tryz.prog 151 #[rp r] w fun e w' => e = .returned (.string (peekB ws i)) ∧ ∃ q, w' = w.drewN q := by
 obtain ⟨c0, c1, _, _⟩ := rbox_cells h
 have hM := more_any h
 obtain ⟨hn, hz, hat⟩ := wds_at hw
 by_cases hi : i < n
 ·have hi2 : i < ws.length := by omega
  obtain ⟨b, off, rfl, _, d1, _⟩ := hat i _ (List.getElem?_eq_getElem hi2)
  rw [peek_some hi2]
  obtain ⟨s, hs⟩ : ∃ s : ByteArray, s = ⟨ws[i].2.toArray⟩ := ⟨_, rfl⟩
  rw [← hs] at d1 ⊢
  rw [decide_eq_true hi] at hM
  have k5 : (0 : Int) ≤ (i : Int) := by omega
  have k6 : (i : Int) < (n : Int) := by omega
  clear hs hat
  obtain ⟨Hh, HM, Hw, Hn⟩ := hd4 h hM hw hn; clear h hM hw hn
  go_enter Tryz.func151, Tryz.ntmps151
  go_wp2_with fail
  refine HM.out.mono ?_
  rintro e w1 ⟨rfl, q, rfl⟩
  go_wp2_with fail
  go_quiet (fail)
  go_wp2_with fail
  go_ret
  exact ⟨rfl, _, World.drewN_drewN _ _ _⟩
 ·rw [peek_none (by omega)]
  rw [decide_eq_false hi] at hM
  clear hat
  obtain ⟨Hh, HM, Hw, Hn⟩ := hd4 h hM hw hn; clear h hM hw hn
  go_enter Tryz.func151, Tryz.ntmps151
  go_wp2_with fail
  refine HM.out.mono ?_
  rintro e w1 ⟨rfl, q, rfl⟩
  go_wp2_with fail
  go_ret
  exact ⟨rfl, _, rfl⟩
set_option maxRecDepth 10000 in
theorem throw_any {w : World} {r : Nat} {a : Option Addr} {n c i : Nat} {fin : Int} {ws : List Wd} (h : RBox r (.slice a n c) i fin w) (hw : RWds w [.slice a n c] ws) : Calls Tryz.prog 157 #[rp r] w fun e w' => e = thrown (colAt ws fin i) ∧ ∃ q, w' = w.drewN q := by
 obtain ⟨c0, c1, c2, _⟩ := rbox_cells h
 have hM := more_any h
 obtain ⟨hn, hz, hat⟩ := wds_at hw
 by_cases hi : i < n
 ·have hi2 : i < ws.length := by omega
  obtain ⟨b, off, rfl, d0, _, _⟩ := hat i _ (List.getElem?_eq_getElem hi2)
  rw [col_some hi2]
  obtain ⟨s, hs⟩ : ∃ s, s = ws[i].1 := ⟨_, rfl⟩
  rw [← hs] at d0 ⊢
  rw [decide_eq_true hi] at hM
  have k5 : (0 : Int) ≤ (i : Int) := by omega
  have k6 : (i : Int) < (n : Int) := by omega
  clear hs hat
  obtain ⟨Hh, HM, Hw, Hn⟩ := hd4 h hM hw hn; clear h hM hw hn
  go_enter Tryz.func157, Tryz.ntmps157
  go_wp2_with fail
  refine HM.out.mono ?_
  rintro e w1 ⟨rfl, q, rfl⟩
  go_wp2_with fail
  refine wp_region_held_drew (S := fun w' => w'.cell? ⟨r, 0, none⟩ = some (.slice (some ⟨b, off, none⟩) n c) ∧ w'.cell? ⟨r, 1, none⟩ = some (.int .i64 i) ∧ w'.cell? ⟨b, off + i * 2, none⟩ = some (.int .i64 s)) (by kernel_rfl) (by exact ⟨c0, c1, d0⟩) (fun hHeld => ?_)
  refine wpAnyH_take (i := 0) (v := ?_) rfl (by kernel_rfl) (by kernel_rfl) (by kernel_rfl) (fun _ _ _ h => h) (Or.inl ⟨by kernel_rfl, ?_⟩) (by assumption) ?_
  rotate_left
  ·(intro w hSw; (try dsimp only at hSw); (try obtain ⟨e0, e1, e2⟩ := hSw); go_simp; try with_reducible rfl)
  try simp only [Act.put, List.setIfInBounds_toArray, List.set_cons_zero, List.set_cons_succ]
  refine wpAnyH_take (i := 1) (v := ?_) rfl (by kernel_rfl) (by kernel_rfl) (by kernel_rfl) (fun _ _ _ h => h) (Or.inl ⟨by kernel_rfl, ?_⟩) (by assumption) ?_
  rotate_left
  ·(intro w hSw; (try dsimp only at hSw); (try obtain ⟨e0, e1, e2⟩ := hSw); go_simp; try with_reducible rfl)
  try simp only [Act.put, List.setIfInBounds_toArray, List.set_cons_zero, List.set_cons_succ]
  refine wpAnyH_take (i := 2) (v := ?_) rfl (by kernel_rfl) (by kernel_rfl) (by kernel_rfl) (fun _ _ _ h => h) (Or.inl ⟨by kernel_rfl, ?_⟩) (by assumption) ?_
  rotate_left
  ·(intro w hSw; (try dsimp only at hSw); (try obtain ⟨e0, e1, e2⟩ := hSw); go_simp; try with_reducible rfl)
  try simp only [Act.put, List.setIfInBounds_toArray, List.set_cons_zero, List.set_cons_succ]
  refine wpAnyH_take (i := 3) (v := ?_) rfl (by kernel_rfl) (by kernel_rfl) (by kernel_rfl) (fun _ _ _ h => h) (Or.inl ⟨by kernel_rfl, ?_⟩) (by assumption) ?_
  rotate_left
  ·(intro w hSw; (try dsimp only at hSw); (try obtain ⟨e0, e1, e2⟩ := hSw); go_simp; try with_reducible rfl)
  try simp only [Act.put, List.setIfInBounds_toArray, List.set_cons_zero, List.set_cons_succ]
  refine wpAnyH_take (i := 4) (v := ?_) rfl (by kernel_rfl) (by kernel_rfl) (by kernel_rfl) (fun _ _ _ h => h) (Or.inl ⟨by kernel_rfl, ?_⟩) (by assumption) ?_
  rotate_left
  ·(intro w hSw; (try dsimp only at hSw); (try obtain ⟨e0, e1, e2⟩ := hSw); go_simp; try with_reducible rfl)
  try simp only [Act.put, List.setIfInBounds_toArray, List.set_cons_zero, List.set_cons_succ]
  refine wpAnyH_take (i := 5) (v := ?_) rfl (by kernel_rfl) (by kernel_rfl) (by kernel_rfl) (fun _ _ _ h => h) (Or.inl ⟨by kernel_rfl, ?_⟩) (by assumption) ?_
  rotate_left
  ·(intro w hSw; (try dsimp only at hSw); (try obtain ⟨e0, e1, e2⟩ := hSw); go_simp; try with_reducible rfl)
  try simp only [Act.put, List.setIfInBounds_toArray, List.set_cons_zero, List.set_cons_succ]
  refine wpAnyH_take (i := 6) (v := ?_) rfl (by kernel_rfl) (by kernel_rfl) (by kernel_rfl) (fun _ _ _ h => h) (Or.inl ⟨by kernel_rfl, ?_⟩) (by assumption) ?_
  rotate_left
  ·(intro w hSw; (try dsimp only at hSw); (try obtain ⟨e0, e1, e2⟩ := hSw); go_simp; try with_reducible rfl)
  try simp only [Act.put, List.setIfInBounds_toArray, List.set_cons_zero, List.set_cons_succ]
  refine wpAnyH_take (i := 7) (v := ?_) rfl (by kernel_rfl) (by kernel_rfl) (by kernel_rfl) (fun _ _ _ h => h) (Or.inl ⟨by kernel_rfl, ?_⟩) (by assumption) ?_
  rotate_left
  ·(intro w hSw; (try dsimp only at hSw); (try obtain ⟨e0, e1, e2⟩ := hSw); go_simp; try with_reducible rfl)
  try simp only [Act.put, List.setIfInBounds_toArray, List.set_cons_zero, List.set_cons_succ]
  refine wpAnyH_take (i := 8) (v := ?_) rfl (by kernel_rfl) (by kernel_rfl) (by kernel_rfl) (fun _ _ _ h => h) (Or.inl ⟨by kernel_rfl, ?_⟩) (by assumption) ?_
  rotate_left
  ·(intro w hSw; (try dsimp only at hSw); (try obtain ⟨e0, e1, e2⟩ := hSw); go_simp; try with_reducible rfl)
  try simp only [Act.put, List.setIfInBounds_toArray, List.set_cons_zero, List.set_cons_succ]
  refine wpAnyH_take (i := 9) (v := ?_) rfl (by kernel_rfl) (by kernel_rfl) (by kernel_rfl) (fun _ _ _ h => h) (Or.inl ⟨by kernel_rfl, ?_⟩) (by assumption) ?_
  rotate_left
  ·(intro w hSw; (try dsimp only at hSw); (try obtain ⟨e0, e1, e2⟩ := hSw); go_simp; try with_reducible rfl)
  try simp only [Act.put, List.setIfInBounds_toArray, List.set_cons_zero, List.set_cons_succ]
  refine wpAnyH_take (i := 10) (v := ?_) rfl (by kernel_rfl) (by kernel_rfl) (by kernel_rfl) (fun _ _ _ h => h) (Or.inl ⟨by kernel_rfl, ?_⟩) (by assumption) ?_
  rotate_left
  ·(intro w hSw; (try dsimp only at hSw); (try obtain ⟨e0, e1, e2⟩ := hSw); go_simp; try with_reducible rfl)
  try simp only [Act.put, List.setIfInBounds_toArray, List.set_cons_zero, List.set_cons_succ]
  refine wpAnyH_take (i := 11) (v := ?_) rfl (by kernel_rfl) (by kernel_rfl) (by kernel_rfl) (fun _ _ _ h => h) (Or.inl ⟨by kernel_rfl, ?_⟩) (by assumption) ?_
  rotate_left
  ·(intro w hSw; (try dsimp only at hSw); (try obtain ⟨e0, e1, e2⟩ := hSw); go_simp; try with_reducible rfl)
  try simp only [Act.put, List.setIfInBounds_toArray, List.set_cons_zero, List.set_cons_succ]
  refine wpAnyH_take (i := 12) (v := ?_) rfl (by kernel_rfl) (by kernel_rfl) (by kernel_rfl) (fun _ _ _ h => h) (Or.inl ⟨by kernel_rfl, ?_⟩) (by assumption) ?_
  rotate_left
  ·(intro w hSw; (try dsimp only at hSw); (try obtain ⟨e0, e1, e2⟩ := hSw); go_simp; try with_reducible rfl)
  try simp only [Act.put, List.setIfInBounds_toArray, List.set_cons_zero, List.set_cons_succ]
  refine wpAnyH_ready (rs := [13]) (by kernel_rfl) (by simp) ?_
  refine AllReadyH.cons rfl (fun K hK => ?_) AllReadyH.nil
  go_simp
  exact ⟨rfl, rfl, _, rfl⟩
 ·rw [col_none (by omega)]
  rw [decide_eq_false hi] at hM
  clear hat
  obtain ⟨Hh, HM, Hw, Hn⟩ := hd4 h hM hw hn; clear h hM hw hn
  go_enter Tryz.func157, Tryz.ntmps157
  go_wp2_with fail
  refine HM.out.mono ?_
  rintro e w1 ⟨rfl, q, rfl⟩
  go_wp2_with fail
  exact ⟨rfl, rfl, _, rfl⟩
set_option maxRecDepth 10000 in
theorem want_yes (w : World) (r : Nat) : Calls Tryz.prog 158 #[rp r, .bool true] w fun e w' => e = .returned (.tuple #[]) ∧ w' = w := by
 go_enter Tryz.func158, Tryz.ntmps158
 go_wp2_with fail
 go_end0
 exact ⟨rfl, rfl⟩
set_option maxRecDepth 10000 in
theorem want_no {w : World} {r : Nat} {a : Option Addr} {n c i : Nat} {fin : Int} {ws : List Wd} (h : RBox r (.slice a n c) i fin w) (hw : RWds w [.slice a n c] ws) : Calls Tryz.prog 158 #[rp r, .bool false] w fun e w' => e = thrown (colAt ws fin i) ∧ ∃ q, w' = w.drewN q := by
 have hT := throw_any h hw
 obtain ⟨HT, Hh, Hw⟩ := hd3 hT h hw; clear hT h hw
 go_enter Tryz.func158, Tryz.ntmps158
 go_wp2_with fail
 refine HT.out.mono ?_
 rintro e w1 ⟨rfl, q, rfl⟩
 go_wp2_with fail
 exact ⟨rfl, rfl, _, rfl⟩
end Go.Proofs.YteailgjiifdgcaaGreatDoor

/- The walk of the reader's settings. Condition: the library's variables as they were laid; at most a thousand words of at most 70000 bytes. -/
namespace Go.Proofs.YteailgjiifdgcaaGreatDoor
open Go.Shelf Go.RowKit Go.Lib VerN
open LexM (Wd)
attribute [local go_sem ↓] Go.wp_at_zero Go.wp_at_succ

structure RdC (w0 : World) (r : Nat) (a : Option Addr) (n c : Nat) (fin : Int) (ws : List Wd) : Prop where
 words : RWds w0 [.slice a n c] ws
 doors : Doors w0
 low : w0.heap.size ≤ r
 n1000 : n ≤ 1000
 sz : ∀ x ∈ ws, x.2.length ≤ 70000
structure RdS (w0 : World) (r : Nat) (a : Option Addr) (n c : Nat) (fin : Int) (i : Nat) (W : World) : Prop where
 box : RBox r (.slice a n c) i fin W
 bel : Below w0.heap.size w0 W
section
variable {w0 W W' : World} {r : Nat} {a : Option Addr} {n c : Nat} {fin : Int} {ws : List Wd} {i : Nat}
theorem RdC.len (C : RdC w0 r a n c fin ws) : n = ws.length := (wds_at C.words).1
theorem RdC.wds (C : RdC w0 r a n c fin ws) (S : RdS w0 r a n c fin i W) : RWds W [.slice a n c] ws := stays_slice stays_wd _ _ _ _ C.words S.bel
theorem RdS.to (S : RdS w0 r a n c fin i W) (h : Below W.heap.size W W') : RdS w0 r a n c fin i W' := ⟨heap_below h S.box, S.bel.trans (h.mono S.bel.size)⟩
theorem RdS.drewN (S : RdS w0 r a n c fin i W) (q : Nat) : RdS w0 r a n c fin i (W.drewN q) := S.to (bel_drewN (Below.refl _ _) q)
theorem RdC.dr (C : RdC w0 r a n c fin ws) (S : RdS w0 r a n c fin i W) : Doors W := C.doors.below S.bel
theorem RdC.peek (C : RdC w0 r a n c fin ws) (S : RdS w0 r a n c fin i W) : Calls Tryz.prog 151 #[rp r] W fun e w' => e = .returned (.string (peekB ws i)) ∧ ∃ q, w' = W.drewN q := peek_any S.box (C.wds S)
theorem RdC.more (_ : RdC w0 r a n c fin ws) (S : RdS w0 r a n c fin i W) : Calls Tryz.prog 159 #[rp r] W fun e w' => e = .returned (.bool (decide (i < n))) ∧ ∃ q, w' = W.drewN q := more_any S.box
theorem RdC.want (C : RdC w0 r a n c fin ws) (S : RdS w0 r a n c fin i W) : Calls Tryz.prog 158 #[rp r, .bool false] W fun e w' => e = thrown (colAt ws fin i) ∧ ∃ q, w' = W.drewN q := want_no S.box (C.wds S)
theorem RdC.peek_size (C : RdC w0 r a n c fin ws) (i : Nat) : (peekB ws i).size ≤ 70000 := by
 by_cases h : i < ws.length
 ·rw [peek_some h]
  show (ws[i].2.toArray).size ≤ _
  rw [List.size_toArray]
  exact C.sz _ (List.getElem_mem h)
 ·rw [peek_none (by omega)]
  decide
theorem RdS.on (S : RdS w0 r a n c fin i W) (hlow : w0.heap.size ≤ r) : RdS w0 r a n c fin (i + 1) (W.setCell ⟨r, 1, none⟩ (.int .i64 ((i : Int) + 1))) :=
 ⟨heap_setCell_same _ r 1 _ _ _ S.box, S.bel.setCell (p := ⟨r, 1, none⟩) hlow _⟩
end
theorem cutB_size (c : UInt8) (s : ByteArray) : (cutB c s).1.size ≤ s.size ∧ (cutB c s).2.1.size ≤ s.size := by
 have e : ∀ l : List UInt8, (⟨l.toArray⟩ : ByteArray).size = l.length := fun l => rfl
 have h1 : (cut s.data.toList [c]).1.length ≤ s.size ∧ (cut s.data.toList [c]).2.1.length ≤ s.size := by
  rw [← Txt.len]
  unfold cut
  split
  ·exact ⟨by simp; omega, by simp⟩
  ·exact ⟨by simp, by simp⟩
 unfold cutB
 exact ⟨by rw [e]; exact h1.1, by rw [e]; exact h1.2⟩
def atOf (r : Nat) (W : World) : Nat := match W.cell? ⟨r, 1, none⟩ with
 | some u => (RowKit.intOf u).toNat
 | none => 0
theorem atOf_box {r : Nat} {v : Value} {i : Nat} {fin : Int} {W : World} (h : RBox r v i fin W) : atOf r W = i := by
 unfold atOf
 rw [(rbox_cells h).2.1]
 simp [RowKit.intOf]
theorem sets_snoc (out : List Setg) (x : Setg) : (out ++ [x]).flatMap setCells = out.flatMap setCells ++ [.string x.1, .string x.2] := by simp [setCells]
def SetsPost (r : Nat) (a : Option Addr) (n c : Nat) (fin : Int) (ws : List Wd) (i : Nat) (w : World) (e : Ending) (w' : World) : Prop :=
 ((∃ l j v, setsAt ws i [] = (some l, j) ∧ e = .returned v ∧ RSetsT w' v l ∧ RBox r (.slice a n c) j fin w') ∨ (∃ j, setsAt ws i [] = (none, j) ∧ e = thrown (colAt ws fin j))) ∧ Frm (fun k => k = r) w w'
structure StI (w0 : World) (r : Nat) (a : Option Addr) (n c : Nat) (fin : Int) (ws : List Wd) (i : Nat) (w : World) (k : Nat) (out : List Setg) (v : Value) (W : World) : Prop where
 st : RdS w0 r a n c fin (i + k) W
 row : W.ownsRow w.heap.size 109 2 v k (out.flatMap setCells)
 len : out.length = k
 same : setsAt ws i [] = setsAt ws (i + k) out
 frm : Frm (fun x => x = r) w W
 sz : ∀ x ∈ out, x.1.size ≤ 70000 ∧ x.2.size ≤ 70000
 k1000 : k ≤ 1000
theorem StI.reads {w0 : World} {r : Nat} {a : Option Addr} {n c : Nat} {fin : Int} {ws : List Wd} {i : Nat} {w : World} {k : Nat} {out : List Setg} {v : Value} {W : World} (h : StI w0 r a n c fin ws i w k out v W) : RSetsT W v out :=
 ⟨sets_reads (B := w.heap.size) (fun x hx => by have := h.sz x hx; unfold maxLen; omega) (by rw [h.len]; exact h.row), fun _ => typ_owns h.row⟩
theorem StI.to {w0 : World} {r : Nat} {a : Option Addr} {n c : Nat} {fin : Int} {ws : List Wd} {i : Nat} {w : World} {k : Nat} {out : List Setg} {v : Value} {W W' : World} (h : StI w0 r a n c fin ws i w k out v W) (hb : Below W.heap.size W W') : StI w0 r a n c fin ws i w k out v W' :=
 ⟨h.st.to hb, ownsRow_below h.row hb, h.len, h.same, h.frm.trans (Frm.of_below (S := fun _ => False) hb) (fun _ _ h => h.elim), h.sz, h.k1000⟩
theorem StI.push {w0 : World} {r : Nat} {a : Option Addr} {n c : Nat} {fin : Int} {ws : List Wd} {i : Nat} {w : World} {k : Nat} {out : List Setg} {v v9 : Value} {W w9 : World} (h : StI w0 r a n c fin ws i w k out v W) (hlow : w0.heap.size ≤ r) (hrw : r < w.heap.size) {x : Setg} (hx : x.1.size ≤ 70000 ∧ x.2.size ≤ 70000)
  (hg : W.grownBy w9 v.ownBlock) (ho : w9.ownsRow w.heap.size 109 2 v9 (k + 1) (out.flatMap setCells ++ [.string x.1, .string x.2])) :
  RdS w0 r a n c fin (i + k) w9 ∧ Frm (fun x => x = r) w w9 ∧ RSets w9 [v9] (out ++ [x]) ∧ (∀ y ∈ out ++ [x], y.1.size ≤ 70000 ∧ y.2.size ≤ 70000) := by
 have hne : ∀ j, v.ownBlock = some j → w.heap.size ≤ j := fun j e => (h.row.lt j e).1
 have hrW : r < W.heap.size := (Array.getElem?_eq_some_iff.1 h.st.box).1
 have hsz : ∀ y ∈ out ++ [x], y.1.size ≤ 70000 ∧ y.2.size ≤ 70000 := fun y hy => by
  rcases List.mem_append.1 hy with hy | hy
  ·exact h.sz y hy
  ·rw [List.mem_singleton] at hy; rw [hy]; exact hx
 refine ⟨⟨(hg.block r hrW (fun e => by have := hne r e.symm; omega)).trans h.st.box, bel_own h.st.bel h.row (by omega) hg h.st.bel.size⟩, h.frm.grown hg (fun j e => .inl (hne j e)), ?_, hsz⟩
 refine sets_reads (B := w.heap.size) (fun y hy => by have := hsz y hy; unfold maxLen; omega) ?_
 rw [List.length_append, h.len, sets_snoc]
 exact ho
theorem StI.next {w0 : World} {r : Nat} {a : Option Addr} {n c : Nat} {fin : Int} {ws : List Wd} {i : Nat} {w : World} {k : Nat} {out : List Setg} {v9 : Value} {w10 : World} (hS : RdS w0 r a n c fin (i + k) w10) (hF : Frm (fun x => x = r) w w10) {x : Setg} (hsz : ∀ y ∈ out ++ [x], y.1.size ≤ 70000 ∧ y.2.size ≤ 70000) (hlen : out.length = k) (hlow : w0.heap.size ≤ r) (hrw : r < w.heap.size) (hk : k + 1 ≤ 1000)
  (ho : w10.ownsRow w.heap.size 109 2 v9 (k + 1) (out.flatMap setCells ++ [.string x.1, .string x.2])) (hs : setsAt ws i [] = setsAt ws (i + k + 1) (out ++ [x])) :
  StI w0 r a n c fin ws i w (k + 1) (out ++ [x]) v9 (w10.setCell ⟨r, 1, none⟩ (.int .i64 (((i + k : Nat) : Int) + 1))) :=
 ⟨hS.on hlow, by rw [sets_snoc]; exact own_set ho hrw 1 _, by rw [List.length_append, hlen]; rfl, hs, frm_cell hF 1 _, hsz, hk⟩
set_option maxRecDepth 10000 in
set_option maxHeartbeats 8000000 in
theorem settings_any {w0 w : World} {r : Nat} {a : Option Addr} {n c : Nat} {fin : Int} {ws : List Wd} {i : Nat} (C : RdC w0 r a n c fin ws) (S : RdS w0 r a n c fin i w) : Calls Tryz.prog 183 #[rp r] w (SetsPost r a n c fin ws i w) := by
 have hrw : r < w.heap.size := (Array.getElem?_eq_some_iff.1 S.box).1
 have hst : StI w0 r a n c fin ws i w 0 [] (.slice none 0 0) w := ⟨S, World.ownsRow_nil _ _ _ _, rfl, rfl, Frm.refl _ _, (fun x hx => by simp at hx), Nat.zero_le _⟩
 have hn1 := C.n1000
 obtain ⟨HC, HS, Hst⟩ := hd3 C S hst; clear C S hst
 go_enter Tryz.func183, Tryz.ntmps183
 go_wp2_with fail
 go_loopw [3] (fun v wr => ∃ (k : Nat) (out : List Setg), StI w0 r a n c fin ws i w k out v wr) (fun _ wr => n - atOf r wr)
 case atStart => exact ⟨0, [], Hst.out⟩
 case round =>
  obtain ⟨k, out, hI⟩ := hrel
  obtain ⟨a1, c1, rfl⟩ := own_shape hI.row
  have hP := HC.out.peek hI.st
  have hmeas : atOf r wr = i + k := atOf_box hI.st.box
  obtain ⟨s, hs⟩ : ∃ s, s = peekB ws (i + k) := ⟨_, rfl⟩
  have hsz : s.size ≤ 70000 := by rw [hs]; exact HC.out.peek_size _
  rw [← hs] at hP
  have hCo := fun (W : World) => Tryz.strings_Contains_one s 61 W
  obtain ⟨hb, hhb⟩ : ∃ b, b = hasB 61 s := ⟨_, rfl⟩
  rw [show decide (0 ≤ indexByte s.data.toList 61) = hb from hhb.symm] at hCo
  obtain ⟨wo, hwo⟩ : ∃ W, W = wr := ⟨_, rfl⟩
  rw [← hwo] at hI hP hmeas ⊢
  clear hwo wr
  obtain ⟨HI, HP, HCo, Hs, Hhb, Hmeas⟩ := hd6 hI hP hCo hs hhb hmeas; clear hI hP hCo hs hhb hmeas
  go_wp2_with fail
  refine HP.out.mono ?_
  rintro e w1 ⟨rfl, q1, rfl⟩
  have hI1 := HI.out.to (bel_drewN (Below.refl _ _) q1)
  generalize wo.drewN q1 = W1 at hI1 ⊢
  have HI1 := hd hI1; clear hI1
  go_wp2_with fail
  refine (HCo.out _).mono ?_
  rintro e w1 ⟨rfl, rfl⟩
  cases hb with
  | false =>
   go_wp2_with fail
   go_ret
   exact ⟨.inl ⟨out, i + k, _, by rw [HI1.out.same]; exact setsAt_end (by rw [← Hs.out]; exact Hhb.out.symm), rfl, HI1.out.reads, HI1.out.st.box⟩, HI1.out.frm⟩
  | true =>
   have hP2 := HC.out.peek HI1.out.st
   rw [← Hs.out] at hP2
   have HP2 := hd hP2; clear hP2
   go_wp2_with fail
   refine HP2.out.mono ?_
   rintro e w1 ⟨rfl, q2, rfl⟩
   have hI2 := HI1.out.to (bel_drewN (Below.refl _ _) q2)
   generalize w1.drewN q2 = W2 at hI2 ⊢
   obtain ⟨mx, hmx⟩ := (HC.out.dr hI2.st).max
   have hCut := Tryz.strings_Cut s ⟨#[61]⟩ mx W2 (by omega) hmx
   clear hmx
   obtain ⟨nm, hnm⟩ : ∃ x : ByteArray, x = ⟨(cut s.data.toList [61]).1.toArray⟩ := ⟨_, rfl⟩
   obtain ⟨vl, hvl⟩ : ∃ x : ByteArray, x = ⟨(cut s.data.toList [61]).2.1.toArray⟩ := ⟨_, rfl⟩
   obtain ⟨fl, hfl⟩ : ∃ x : Bool, x = (cut s.data.toList [61]).2.2 := ⟨_, rfl⟩
   simp only [← hnm, ← hvl, ← hfl] at hCut
   have hsg : setgB s = (nm, vl) := by unfold setgB cutB; rw [hnm, hvl]
   have hsgz : nm.size ≤ 70000 ∧ vl.size ≤ 70000 := by
    have := cutB_size 61 s
    have e1 : nm = (cutB 61 s).1 := hnm
    have e2 : vl = (cutB 61 s).2.1 := hvl
    rw [e1, e2]
    omega
   have hlt : i + k < n := by rw [HC.out.len]; exact has_lt (by rw [← Hs.out]; exact Hhb.out.symm)
   obtain ⟨HCut, HI2, Hnm, Hvl, Hfl, Hsg, Hsgz⟩ := hd7 hCut hI2 hnm hvl hfl hsg hsgz; clear hCut hI2 hnm hvl hfl hsg hsgz
   go_wp2_with fail
   refine HCut.out.mono ?_
   rintro e w1 ⟨rfl, q3, rfl⟩
   have hI3 := HI2.out.to (bel_drewN (Below.refl _ _) q3)
   generalize W2.drewN q3 = W3 at hI3 ⊢
   have hrow3 := hI3.row
   have hbW3 : w.heap.size ≤ W3.heap.size := hI3.frm.size
   have hk1 := hI3.k1000
   obtain ⟨N, hN⟩ : ∃ N, N = out.flatMap setCells := ⟨_, rfl⟩
   rw [← hN] at hrow3
   obtain ⟨HI3, Hrow3, HN⟩ := hd3 hI3 hrow3 hN; clear hI3 hrow3 hN
   go_wp2_with (at_builtin; (refine wpList_append_lit elem_set rfl (.tmp 18) (.tmp 22) rfl w.heap.size (.slice a1 k c1) k N rfl Hrow3.out 1 #[.string nm, .string vl] rfl rfl (by simp [Value.oneCell']) (by omega) (by unfold maxLen; omega) hbW3 ?_; intro v9 w9 hown9 hg9 hm9; obtain ⟨a9, c9, rfl⟩ := own_shape hown9; obtain ⟨Hown9, Hg9⟩ := hd2 hown9 hg9; clear hown9 hg9 hm9))
   have ho9 := Hown9.out
   rw [HN.out] at ho9
   obtain ⟨hS9, hF9, hR9, hZ9⟩ := HI3.out.push HC.out.low hrw (x := (nm, vl)) Hsgz.out Hg9.out ho9
   have hW := wish04_any hR9
   obtain ⟨b, hb⟩ : ∃ b, b = wishIs (out ++ [(nm, vl)]) := ⟨_, rfl⟩
   rw [← hb] at hW
   obtain ⟨Ho9, HS9, HF9, HR9, HZ9, HW, Hb⟩ := hd7 ho9 hS9 hF9 hR9 hZ9 hW hb; clear ho9 hS9 hF9 hR9 hZ9 hW hb
   refine HW.out.mono ?_
   rintro e w10 ⟨rfl, hb10⟩
   have hS10 := HS9.out.to hb10
   have hF10 := HF9.out.trans (Frm.of_below (S := fun _ => False) hb10) (fun _ _ h => h.elim)
   have ho10 := ownsRow_below Ho9.out hb10
   cases b with
   | false =>
    have hWn := HC.out.want hS10
    obtain ⟨HS10, HF10, Ho10, HWn, Hb10⟩ := hd5 hS10 hF10 ho10 hWn hb10; clear hS10 hF10 ho10 hWn hb10
    go_wp2_with fail
    refine HWn.out.mono ?_
    rintro e w11 ⟨rfl, q4, rfl⟩
    go_wp2_with fail
    refine ⟨rfl, .inr ⟨i + k, ?_, rfl⟩, HF10.out.drewN q4⟩
    rw [HI3.out.same]
    exact setsAt_no (by rw [← Hs.out]; exact Hhb.out.symm) (by rw [← Hs.out, Hsg.out]; exact Hb.out.symm)
   | true =>
    obtain ⟨m, hm⟩ : ∃ m, m = i + k := ⟨_, rfl⟩
    have hsm : setsAt ws i [] = setsAt ws (i + k + 1) (out ++ [(nm, vl)]) := by
     rw [HI3.out.same, setsAt_on (by rw [← Hs.out]; exact Hhb.out.symm) (by rw [← Hs.out, Hsg.out]; exact Hb.out.symm), ← Hs.out, Hsg.out]
    have hnx := StI.next hS10 hF10 HZ9.out HI3.out.len HC.out.low hrw (by omega) ho10 hsm
    rw [← hm] at hS10 hnx hlt
    obtain ⟨_, c1', _, c3'⟩ := rbox_cells hS10.box
    have hme := Hmeas.out
    rw [← hm] at hme
    obtain ⟨HS10, HF10, Ho10, Hb10, Hm, Hsm, Hnx⟩ := hd7 hS10 hF10 ho10 hb10 hm hsm hnx; clear hS10 hF10 ho10 hb10 hm hsm hnx
    go_wp2_with fail
    refine (want_yes w10 r).mono ?_
    rintro e w11 ⟨rfl, hw11⟩
    subst hw11
    go_wp2_with fail
    go_roundw
    case rel => exact ⟨k + 1, _, Hnx.out⟩
    case measure =>
     rw [atOf_box (i := m + 1) (fin := fin) (v := .slice a n c) ?_, hme]
     ·omega
     ·have := Hnx.out.st.box
      rw [show i + (k + 1) = m + 1 by rw [Hm.out]; rfl] at this
      exact this
end Go.Proofs.YteailgjiifdgcaaGreatDoor

/- The walk of cooperref03.Same. No condition. -/
namespace Go.Proofs.YteailgjiifdgcaaGreatDoor
open Go.RowKit Go.Shelf Go.Lib VerN

theorem spn_neqs (s t a b : ByteArray) (W : World) : (binOp .neq 34 (.agg #[.string s, .string t]) (.agg #[.string a, .string b])).run Tryz.prog W = .ok (.bool (!(decide (s = a) && decide (t = b)))) W := by
 have u9 := Tryz.underlying9
 have hS : Tryz.prog.underlying 34 = some (.struct (Tryz.prog.fieldsOf 34)) := by kernel_rfl
 have hp : Tryz.prog.stoodInHeld 34 = false := by kernel_rfl
 rw [run_neq_struct, show (10000 : Nat) = 9999 + 1 from rfl, run_equalIn_agg W 9999 34 _ _ hS hp]
 simp only [Program.fieldsOf, Tryz.underlying34]
 go_simp
 have e1 := Txt.eq_dec s a
 have e2 := Txt.eq_dec t b
 by_cases h1 : s = a <;> by_cases h2 : t = b <;> simp [h1, h2] at e1 e2 ⊢ <;> simp_all
set_option maxRecDepth 10000 in
set_option maxHeartbeats 1000000 in
theorem sameRefS_any {w : World} {v u : Value} {l m : List BSp} (h : RSps w [v] l) (hm : RSps w [u] m) : Calls Tryz.prog 18 #[v, u] w fun e w' => e = .returned (.bool (decide (l = m))) ∧ ∃ q, w' = w.drewN q := by
 obtain ⟨a, cap, rfl, hz, g⟩ := sps_open h
 obtain ⟨a2, cap2, rfl, hz2, g2⟩ := sps_open hm
 obtain ⟨n, hn⟩ : ∃ n, n = l.length := ⟨_, rfl⟩
 obtain ⟨n2, hn2⟩ : ∃ n, n = m.length := ⟨_, rfl⟩
 obtain ⟨r, hr⟩ : ∃ r, r = decide (l = m) := ⟨_, rfl⟩
 have q1 := fun s t a b => spn_neqs s t a b
 rw [← hr]
 rw [← hn] at hz h ⊢
 rw [← hn2] at hz2 hm ⊢
 obtain ⟨Hh, Hm, Hg, Hg2, Hn, Hn2, Hr, Hq1⟩ := hd8 h hm g g2 hn hn2 hr q1; clear h hm g g2 hn hn2 hr q1
 go_enter Tryz.func18, Tryz.ntmps18
 by_cases hne : n = n2
 case neg =>
  have k1 : ((n : Int) != (n2 : Int)) = true := by simp; omega
  have hf : r = false := by rw [Hr.out, decide_eq_false_iff_not]; intro e; exact hne (by rw [Hn.out, Hn2.out, e])
  obtain ⟨Hf, Hne⟩ := hd2 hf hne; clear hf hne
  go_wp2_with fail
  go_ret
  exact ⟨ret_bool Hf.out.symm, 0, rfl⟩
 have k1 : ((n : Int) != (n2 : Int)) = false := by simp; omega
 have Hne := hd hne; clear hne
 go_wp2_with fail
 clear k1
 go_loopw [13] (fun i wr => ∃ k : Nat, k ≤ n ∧ i = .int .i64 k ∧ (∀ j (h1 : j < l.length) (h2 : j < m.length), j < k → l[j] = m[j]) ∧ ∃ q, wr = w.drewN q) (fun i _ => n - (RowKit.intOf i).toNat)
 case atStart => exact ⟨0, Nat.zero_le _, rfl, fun _ _ _ h => by omega, 0, rfl⟩
 case round =>
  obtain ⟨k, hk, rfl, hno, q, rfl⟩ := hrel
  by_cases hlt : k < n
  ·have hkl : k < l.length := by have := Hn.out; omega
   have hkm : k < m.length := by have := Hn2.out; have := Hne.out; omega
   obtain ⟨b, off, rfl, d0, d1, _, _⟩ := Hg.out k _ (List.getElem?_eq_getElem hkl)
   obtain ⟨b2, off2, rfl, f0, f1, _, _⟩ := Hg2.out k _ (List.getElem?_eq_getElem hkm)
   have hnx : l[k] = m[k] → ∀ j (h1 : j < l.length) (h2 : j < m.length), j < k + 1 → l[j] = m[j] := fun h j h1 h2 hjk => by
    by_cases e : j = k
    ·subst e; exact h
    ·exact hno j h1 h2 (by omega)
   have hbd : l[k] ≠ m[k] → l ≠ m := fun h e => h (by subst e; rfl)
   obtain ⟨x, hx⟩ : ∃ x, x = l[k] := ⟨_, rfl⟩
   obtain ⟨y, hy⟩ : ∃ x, x = m[k] := ⟨_, rfl⟩
   rw [← hx] at d0 d1 hnx hbd
   rw [← hy] at f0 f1 hnx hbd
   have q2 := Hq1.out x.1 x.2 y.1 y.2
   have hxy : (decide (x.1 = y.1) && decide (x.2 = y.2)) = decide (x = y) := by
    rw [Bool.eq_iff_iff]
    simp [Prod.ext_iff]
   rw [hxy] at q2
   obtain ⟨s, hs⟩ : ∃ s, s = x.1 := ⟨_, rfl⟩
   obtain ⟨t, ht⟩ : ∃ s, s = x.2 := ⟨_, rfl⟩
   obtain ⟨s', hs'⟩ : ∃ s, s = y.1 := ⟨_, rfl⟩
   obtain ⟨t', ht'⟩ : ∃ s, s = y.2 := ⟨_, rfl⟩
   rw [← hs, ← ht, ← hs', ← ht'] at q2
   rw [← hs] at d0
   rw [← ht] at d1
   rw [← hs'] at f0
   rw [← ht'] at f1
   have k5 : (0 : Int) ≤ (k : Int) := by omega
   have k6 : (k : Int) < (n : Int) := by omega
   have k7 : (k : Int) < (n2 : Int) := by have := Hne.out; omega
   clear hxy
   by_cases e : x = y
   ·have hq := hnx e
    rw [decide_eq_true e] at q2
    simp only [Bool.not_true] at q2
    clear e
    obtain ⟨Hno, Hnx, Hbd, Hx, Hy, Hs, Ht, Hs', Ht', Hq⟩ := hd10 hno hnx hbd hx hy hs ht hs' ht' hq; clear hno hnx hbd hx hy hs ht hs' ht' hq
    go_wp2_with fail
    go_region
    go_wp2_with fail
    go_roundw
    case rel => exact ⟨k + 1, by omega, by go_num, Hq.out, _, rfl⟩
    case measure => simp [RowKit.intOf]; omega
   ·have hf : r = false := by rw [Hr.out, decide_eq_false_iff_not]; exact hbd e
    rw [decide_eq_false e] at q2
    simp only [Bool.not_false] at q2
    clear e
    obtain ⟨Hno, Hnx, Hbd, Hx, Hy, Hs, Ht, Hs', Ht', Hf⟩ := hd10 hno hnx hbd hx hy hs ht hs' ht' hf; clear hno hnx hbd hx hy hs ht hs' ht' hf
    go_wp2_with fail
    go_region
    go_wp2_with fail
    go_ret
    exact ⟨ret_bool Hf.out.symm, _, rfl⟩
  ·obtain rfl : n = k := by omega
   have hf : r = true := by
    rw [Hr.out, decide_eq_true_eq]
    exact List.ext_getElem (by rw [← Hn.out, ← Hn2.out, Hne.out]) (fun j h1 h2 => hno j h1 h2 (by have := Hn.out; omega))
   obtain ⟨Hno, Hf⟩ := hd2 hno hf; clear hno hf
   go_wp2_with fail
   go_ret
   exact ⟨ret_bool Hf.out.symm, _, rfl⟩
end Go.Proofs.YteailgjiifdgcaaGreatDoor

/- The walks of recipe.set and cooperref06.set: the set of a text behind an at sign. Condition: the library's variables as they were laid; a text of at most 70000 bytes. -/
namespace Go.Proofs.YteailgjiifdgcaaGreatDoor
open Go.Shelf Go.RowKit Go.Lib VerN
attribute [local go_sem ↓] Go.wp_at_zero Go.wp_at_succ

theorem sps_nil1 (w : World) : RSps w [.slice none 0 0] [] := ⟨_, 0, rfl, Nat.zero_le _, Nat.zero_le _, fun i x hi => by simp at hi⟩
theorem rdPost_to {t : ByteArray} {w w' : World} {e : Ending} (h : RdPost t w e w') : RefRdPost t w e w' := by
 obtain ⟨h, hb⟩ := h
 refine ⟨?_, hb⟩
 rcases h with ⟨v, rfl, ⟨h0, rfl⟩ | ⟨h0, h1, h2, h3⟩⟩ | ⟨rfl, h0, h1⟩
 ·exact .inl ⟨_, rfl, .inl h0, by unfold rdV; rw [if_pos h0]; exact spsT_nil (sps_nil1 _)⟩
 ·refine .inl ⟨_, rfl, .inr ⟨h1, h2⟩, ?_⟩
  unfold rdV
  rw [if_neg h0]
  obtain ⟨l, hl⟩ := rd_ok t h1
  rw [← hl] at h3 ⊢
  exact ⟨sps_reads (fun x hx => by have := smallB_tB l x hx; unfold maxLen; omega) h3, fun _ => typ_owns h3⟩
 ·refine .inr ⟨_, rfl, ?_, sps_nil1 _⟩
  rintro (h | ⟨k1, k2⟩)
  ·exact h0 h
  ·rcases h1 with ⟨p, hp, hk⟩ | h1
   ·rw [k1 p hp] at hk; cases hk
   ·obtain ⟨l, hl⟩ := rd_ok t k1
    exact h1 l hl (k2 l hl)
theorem spsRd_any (t : ByteArray) (ht : t.size ≤ 70000) {w : World} (hD : Doors w) : Calls Tryz.prog 16 #[.string t] w (RefRdPost t w) := (spsRead_any t ht hD).mono fun _ _ h => rdPost_to h
def SetPost (t : ByteArray) (w : World) (e : Ending) (w' : World) : Prop :=
 ∃ a n c, e = .returned (.tuple #[.slice a n c, .bool (setOk t)]) ∧ (setOk t = true → RSpsT w' (.slice a n c) (rdV t)) ∧ Below w.heap.size w w'
open Classical in
theorem setOk_yes {t : ByteArray} (h : Rd3 t) {x : BSp} {r : List BSp} (hr : rdV t = x :: r) (hx : (decide (x.1 = ⟨#[]⟩) && decide (x.2 = ⟨#[]⟩)) = false) : setOk t = true := by
 unfold setOk
 rw [decide_eq_true_eq]
 refine ⟨h, by rw [hr]; simp, by rw [hr]; rintro e; simp at e; rw [e] at hx; simp at hx⟩
open Classical in
theorem setOk_one {t : ByteArray} {x : BSp} {r : List BSp} (hr : rdV t = x :: r) (hx : (decide (x.1 = ⟨#[]⟩) && decide (x.2 = ⟨#[]⟩)) = true) : setOk t = false := by
 unfold setOk
 rw [decide_eq_false_iff_not]
 rintro ⟨_, _, h⟩
 rw [hr] at h
 simp only [Bool.and_eq_true, decide_eq_true_eq] at hx
 exact h (by rw [List.head?_cons]; exact congrArg some (Prod.ext hx.1 hx.2))
open Classical in
theorem setOk_nil {t : ByteArray} (hr : rdV t = []) : setOk t = false := by
 unfold setOk
 rw [decide_eq_false_iff_not]
 rintro ⟨_, h, _⟩
 exact h hr
open Classical in
theorem setOk_no {t : ByteArray} (h : ¬ Rd3 t) : setOk t = false := by
 unfold setOk
 rw [decide_eq_false_iff_not]
 exact fun k => h k.1
theorem bytes_e (x : ByteArray) : (x.toList == (⟨#[]⟩ : ByteArray).toList) = decide (x = ⟨#[]⟩) := Txt.eq_dec _ _
theorem toList_e : (⟨#[]⟩ : ByteArray).toList = [] := by rw [Lib.toList_data]
set_option maxRecDepth 10000 in
set_option maxHeartbeats 4000000 in
theorem set_any (t : ByteArray) (ht : t.size ≤ 70000) {w : World} (hD : Doors w) : Calls Tryz.prog 182 #[.string t] w (SetPost t w) := by
 have hR := spsRd_any t ht hD
 obtain ⟨HR, HD⟩ := hd2 hR hD; clear hR hD
 go_enter Tryz.func182, Tryz.ntmps182
 go_wp2_with fail
 refine HR.out.mono ?_
 rintro e w1 ⟨⟨v, rfl, hr, hv⟩ | ⟨v, rfl, hr, hv⟩, hb⟩
 ·obtain ⟨a, c, rfl⟩ := sps_shape hv.1
  have hat := sps_at hv.1
  obtain ⟨n, hn⟩ : ∃ n, n = (rdV t).length := ⟨_, rfl⟩
  rw [← hn] at hv ⊢
  match hL : rdV t with
  | [] =>
   have hf := setOk_nil hL
   rw [hL] at hn
   obtain rfl : n = 0 := hn
   clear hat hL
   obtain ⟨Hr, Hv, Hf, Hb⟩ := hd4 hr hv hf hb; clear hr hv hf hb
   go_wp2_with fail
   go_quiet (fail)
   go_wp2_with fail
   go_ret2
   exact ⟨_, _, _, by rw [Hf.out]; rfl, (fun k => by rw [Hf.out] at k; cases k), bel_drewN Hb.out _⟩
  | x :: rr =>
   obtain ⟨b, off, rfl, c0, c1⟩ := hat 0 x (by rw [hL]; rfl)
   simp only [Nat.zero_mul, Nat.add_zero] at c0 c1
   have hn1 : 0 < n := by rw [hn, hL]; simp
   have k1 : decide ((0 : Int) < (n : Int)) = true := decide_eq_true (by omega)
   have k2 : ((n : Int) == 0) = false := by rw [beq_eq_false_iff_ne]; omega
   have q1 := fun (W : World) => spn_neqs x.1 x.2 ⟨#[]⟩ ⟨#[]⟩ W
   obtain ⟨y, hy⟩ : ∃ y, y = x.1 := ⟨_, rfl⟩
   obtain ⟨z, hz⟩ : ∃ y, y = x.2 := ⟨_, rfl⟩
   have hyes := setOk_yes hr hL
   have hone := setOk_one hL
   rw [← hy, ← hz] at hyes hone q1
   rw [← hy] at c0
   rw [← hz] at c1
   have x1 := bytes_e y
   have x2 := bytes_e z
   rw [toList_e] at x1 x2
   have k5 : (0 : Int) < (n : Int) := by omega
   obtain ⟨p1, hp1⟩ : ∃ p, p = decide (y = ⟨#[]⟩) := ⟨_, rfl⟩
   obtain ⟨p2, hp2⟩ : ∃ p, p = decide (z = ⟨#[]⟩) := ⟨_, rfl⟩
   rw [← hp1] at x1
   rw [← hp2] at x2
   rw [← hp1, ← hp2] at hyes hone q1
   clear hat
   cases p1 with
   | false =>
    have hf := hyes rfl
    obtain ⟨Hr, Hv, Hf, Hb, HL, Hn, Hy, Hz, Hyes, Hone, Hp1, Hp2⟩ := hd12 hr hv hf hb hL hn hy hz hyes hone hp1 hp2; clear hr hv hf hb hL hn hy hz hyes hone hp1 hp2
    go_wp2_with fail
    go_quiet (fail)
    go_wp2_with fail
    go_ret2
    exact ⟨_, _, _, by rw [Hf.out]; rfl, (fun _ => spsT_below Hv.out (bel_drewN (Below.refl _ _) _)), bel_drewN Hb.out _⟩
   | true =>
    cases p2 with
    | false =>
     have hf := hyes rfl
     obtain ⟨Hr, Hv, Hf, Hb, HL, Hn, Hy, Hz, Hyes, Hone, Hp1, Hp2⟩ := hd12 hr hv hf hb hL hn hy hz hyes hone hp1 hp2; clear hr hv hf hb hL hn hy hz hyes hone hp1 hp2
     go_wp2_with fail
     go_quiet (fail)
     go_wp2_with fail
     go_ret2
     exact ⟨_, _, _, by rw [Hf.out]; rfl, (fun _ => spsT_below Hv.out (bel_drewN (Below.refl _ _) _)), bel_drewN Hb.out _⟩
    | true =>
     have hf := hone rfl
     obtain ⟨Hr, Hv, Hf, Hb, HL, Hn, Hy, Hz, Hyes, Hone, Hp1, Hp2⟩ := hd12 hr hv hf hb hL hn hy hz hyes hone hp1 hp2; clear hr hv hf hb hL hn hy hz hyes hone hp1 hp2
     go_wp2_with fail
     go_quiet (fail)
     go_wp2_with fail
     go_ret2
     exact ⟨_, _, _, by rw [Hf.out]; rfl, (fun k => by rw [Hf.out] at k; cases k), bel_drewN Hb.out _⟩
 ·have hf := setOk_no hr
  obtain ⟨a, c, rfl⟩ := sps_shape hv
  obtain ⟨Hr, Hv, Hf, Hb⟩ := hd4 hr hv hf hb; clear hr hv hf hb
  go_wp2_with fail
  go_quiet (fail)
  go_wp2_with fail
  go_ret2
  exact ⟨_, _, _, by rw [Hf.out]; rfl, (fun k => by rw [Hf.out] at k; cases k), bel_drewN Hb.out _⟩
end Go.Proofs.YteailgjiifdgcaaGreatDoor

/- The walk of the reader's wish. Condition: the library's variables as they were laid; at most a thousand words of at most 70000 bytes. -/
namespace Go.Proofs.YteailgjiifdgcaaGreatDoor
open Go.Shelf Go.RowKit Go.Lib VerN VarM
open LexM (Wd)
attribute [local go_sem ↓] Go.wp_at_zero Go.wp_at_succ

def WishPost (r : Nat) (a : Option Addr) (n c : Nat) (fin : Int) (ws : List Wd) (i : Nat) (w : World) (e : Ending) (w' : World) : Prop :=
 ((∃ s j v1 v2, wishW ws i = (some s, j) ∧ e = .returned (.agg #[.string s.1, v1, v2]) ∧ RSpsT w' v1 s.2.1 ∧ RSetsT w' v2 s.2.2 ∧ RBox r (.slice a n c) j fin w') ∨ (∃ j, wishW ws i = (none, j) ∧ e = thrown (colAt ws fin j))) ∧ Frm (fun k => k = r) w w'
abbrev SpcBox (k : Nat) (x y z : Value) (W : World) : Prop := W.heap[k]? = some (.cells #[x, y, z] 51 (0, 0))
theorem spc_cells {k : Nat} {x y z : Value} {W : World} (h : SpcBox k x y z W) : W.cell? ⟨k, 0, none⟩ = some x ∧ W.cell? ⟨k, 1, none⟩ = some y ∧ W.cell? ⟨k, 2, none⟩ = some z ∧ W.frozen? ⟨k, 0, none⟩ = false ∧ W.frozen? ⟨k, 1, none⟩ = false ∧ W.frozen? ⟨k, 2, none⟩ = false :=
 ⟨cells_at h 0, cells_at h 1, cells_at h 2, frozen_at h 0, frozen_at h 1, frozen_at h 2⟩
theorem frm_keep {S : Nat → Prop} {W W' : World} (hF : Frm S W W') {k : Nat} {o : Obj} (h : W.heap[k]? = some o) (hS : ¬ S k) : W'.heap[k]? = some o := heap_to h hF hS
theorem wish_no2 {W : World} {r g g1 : Nat} {v : Value} {i : Nat} {fin : Int} {x0 x1 : Value} {a0 a1 b0 b1 : Option Addr} {n0 n1 m0 m1 c0 c1 d0 d1 : Nat} (h : RBox r v i fin W) (h0 : SpcBox g x0 (.slice a0 n0 c0) (.slice b0 m0 d0) W) (h1 : SpcBox g1 x1 (.slice a1 n1 c1) (.slice b1 m1 d1) W) : No2 W (fun k => k = r ∨ k = g ∨ k = g1) := by
 rintro k (rfl | rfl | rfl)
 ·exact no2_of h (by decide) (by decide)
 ·exact no2_of h0 (by decide) (by decide)
 ·exact no2_of h1 (by decide) (by decide)
theorem wish_end {W7 W8 : World} {r g g1 : Nat} {v : Value} {i : Nat} {fin : Int} {x y z p q s u : Value} (h0 : SpcBox g x y z W7) (h : RBox r v i fin W7) (hr : r ≠ g) (hr1 : r ≠ g1) (hg : g ≠ g1) (hW : W8 = (((W7.setCell ⟨g1, 2, none⟩ u).setCell ⟨g, 0, none⟩ p).setCell ⟨g, 1, none⟩ q).setCell ⟨g, 2, none⟩ s) : SpcBox g p q s W8 ∧ RBox r v i fin W8 := by
 rw [hW]
 refine ⟨?_, heap_other (heap_other (heap_other (heap_other h hr1) hr) hr) hr⟩
 have k0 := heap_setCell_same _ g 0 _ _ p (heap_other (b := g1) (i := 2) (u := u) h0 hg)
 have k1 := heap_setCell_same _ g 1 _ _ q k0
 have k2 := heap_setCell_same _ g 2 _ _ s k1
 exact k2
structure WsI (w0 : World) (r : Nat) (a : Option Addr) (n c : Nat) (fin : Int) (i : Nat) (w : World) (W : World) : Prop where
 st : RdS w0 r a n c fin i W
 frm : Frm (fun k => k = r) w W
 g0 : SpcBox w.heap.size (.string ⟨#[]⟩) (.slice none 0 0) (.slice none 0 0) W
theorem WsI.to {w0 : World} {r : Nat} {a : Option Addr} {n c : Nat} {fin : Int} {i : Nat} {w W W' : World} (h : WsI w0 r a n c fin i w W) (hb : Below W.heap.size W W') : WsI w0 r a n c fin i w W' :=
 ⟨h.st.to hb, h.frm.trans (Frm.of_below (S := fun _ => False) hb) (fun _ _ h => h.elim), heap_below hb h.g0⟩
structure WsJ (w0 : World) (r : Nat) (a : Option Addr) (n c : Nat) (fin : Int) (i : Nat) (w : World) (g g1 : Nat) (nm : ByteArray) (va : Option Addr) (vn vc : Nat) (L : List BSp) (W : World) : Prop where
 st : RdS w0 r a n c fin i W
 frm : Frm (fun k => k = r) w W
 g0 : SpcBox g (.string ⟨#[]⟩) (.slice none 0 0) (.slice none 0 0) W
 g1 : SpcBox g1 (.string nm) (.slice va vn vc) (.slice none 0 0) W
 rd : RSpsT W (.slice va vn vc) L
theorem all_reads (W : World) : RSpsT (W.alloc (.cells #[.string ⟨#[]⟩, .string ⟨#[]⟩] 34)) (.slice (some ⟨W.heap.size, 0, none⟩) 1 1) allV := by
 refine ⟨?_, fun _ k hk => by cases hk; exact ⟨_, _, heap_alloc_new W _⟩⟩
 refine ⟨_, 1, rfl, Nat.le_refl _, by unfold maxLen; omega, fun i x hi => ?_⟩
 have h := heap_alloc_new W (.cells #[.string ⟨#[]⟩, .string ⟨#[]⟩] 34)
 match i, hi with
 | 0, hi =>
  simp [allV] at hi
  subst hi
  refine ⟨W.heap.size, 0, [.string ⟨#[]⟩, .string ⟨#[]⟩], rfl, rfl, fun j u hu => ?_, rfl, Nat.zero_le _, Nat.zero_le _⟩
  rw [Nat.zero_mul, Nat.add_zero, Nat.zero_add]
  match j, hu with
  | 0, hu => simp at hu; subst hu; exact cells_at h 0
  | 1, hu => simp at hu; subst hu; exact cells_at h 1
 | i + 1, hi => simp [allV] at hi
theorem wishW_no {ws : List Wd} {i : Nat} (h : nameB (peekB ws i) = false) : wishW ws i = (none, i) := by
 unfold wishW
 rw [if_neg (by rw [h]; simp)]
theorem wishW_yes {ws : List Wd} {i : Nat} {s nm : ByteArray} {L : List BSp} (h : nameB (peekB ws i) = true) (hs : s = peekB ws i) (hnm : nm = (cutB 64 s).1) (hL : L = spansB s) : (∀ l j, setsAt ws (i + 1) [] = (some l, j) → wishW ws i = (some (nm, L, l), j)) ∧ (∀ j, setsAt ws (i + 1) [] = (none, j) → wishW ws i = (none, j)) := by
 subst hs hnm hL
 constructor
 ·intro l j e
  unfold wishW
  rw [if_pos h, e]
  rfl
 ·intro j e
  unfold wishW
  rw [if_pos h, e]
  rfl
set_option maxRecDepth 10000 in
set_option maxHeartbeats 8000000 in
theorem wish_any {w0 w : World} {r : Nat} {a : Option Addr} {n c : Nat} {fin : Int} {ws : List Wd} {i : Nat} (C : RdC w0 r a n c fin ws) (S : RdS w0 r a n c fin i w) (hi : i ≤ 1000) : Calls Tryz.prog 132 #[rp r] w (WishPost r a n c fin ws i w) := by
 have hrw : r < w.heap.size := (Array.getElem?_eq_some_iff.1 S.box).1
 have hn1 := C.n1000
 obtain ⟨s, hs⟩ : ∃ s, s = peekB ws i := ⟨_, rfl⟩
 have hsz : s.size ≤ 70000 := by rw [hs]; exact C.peek_size _
 have hI0 : WsI w0 r a n c fin i w (w.alloc (.cells #[.string ⟨#[]⟩, .slice none 0 0, .slice none 0 0] 51)) := ⟨S.to (below_alloc1 w _), (Frm.refl _ _).alloc _, heap_alloc_new _ _⟩
 have hP := C.peek hI0.st
 rw [← hs] at hP
 obtain ⟨nm, hnm⟩ : ∃ x : ByteArray, x = ⟨(cut s.data.toList [64]).1.toArray⟩ := ⟨_, rfl⟩
 obtain ⟨tl, htl⟩ : ∃ x : ByteArray, x = ⟨(cut s.data.toList [64]).2.1.toArray⟩ := ⟨_, rfl⟩
 obtain ⟨fl, hfl⟩ : ∃ x : Bool, x = (cut s.data.toList [64]).2.2 := ⟨_, rfl⟩
 have hsgz : nm.size ≤ 70000 ∧ tl.size ≤ 70000 := by
  have := cutB_size 64 s
  have e1 : nm = (cutB 64 s).1 := hnm
  have e2 : tl = (cutB 64 s).2.1 := htl
  rw [e1, e2]
  omega
 have hnm2 : nm = (cutB 64 s).1 := hnm
 have hNm := fun (W : World) => name_any nm (by omega) W
 obtain ⟨nk, hnk⟩ : ∃ b, b = nameOf nm.data.toList := ⟨_, rfl⟩
 rw [← hnk] at hNm
 have hnb : nameB (peekB ws i) = (nk && (!fl || setOk tl)) := by
  rw [← hs]
  unfold nameB
  rw [hnk, hfl, htl, hnm]
  rfl
 have hsb : spansB s = if fl = true then rdV tl else allV := by
  unfold spansB
  rw [hfl, htl]
  rfl
 obtain ⟨HC, HS, HI0, HP, Hs, Hsgz, Hnm2, Hnk, Hnb, Hsb⟩ := hd10 C S hI0 hP hs hsgz hnm2 hnk hnb hsb; clear C S hI0 hP hs hsgz hnm2 hnk hnb hsb
 go_enter Tryz.func132, Tryz.ntmps132
 go_wp2_with fail
 refine HP.out.mono ?_
 rintro e w1 ⟨rfl, q1, rfl⟩
 have hI1 := HI0.out.to (bel_drewN (Below.refl _ _) q1)
 generalize (w.alloc (.cells #[.string ⟨#[]⟩, .slice none 0 0, .slice none 0 0] 51)).drewN q1 = w2 at hI1 ⊢
 obtain ⟨mx, hmx⟩ := (HC.out.dr hI1.st).max
 have hCut := Tryz.strings_Cut s ⟨#[64]⟩ mx w2 (by omega) hmx
 clear hmx
 simp only [← hnm, ← htl, ← hfl] at hCut
 obtain ⟨HCut, HI1, Hnm, Htl, Hfl⟩ := hd5 hCut hI1 hnm htl hfl; clear hCut hI1 hnm htl hfl
 go_wp2_with fail
 refine HCut.out.mono ?_
 rintro e w3 ⟨rfl, q2, rfl⟩
 have hI2 := HI1.out.to (bel_drewN (Below.refl _ _) q2)
 generalize w2.drewN q2 = w3 at hI2 ⊢
 have HI2 := hd hI2; clear hI2
 go_upto_region 3 with (fail)
 obtain ⟨g, hg⟩ : ∃ k, k = w.heap.size := ⟨_, rfl⟩
 obtain ⟨g1, hg1⟩ : ∃ k, k = w3.heap.size + 1 := ⟨_, rfl⟩
 obtain ⟨va, hva⟩ : ∃ k : Option Addr, k = some ⟨w3.heap.size, 0, none⟩ := ⟨_, rfl⟩
 obtain ⟨w4, hw4⟩ : ∃ W, W = ((w3.alloc (.cells #[.string ⟨#[]⟩, .string ⟨#[]⟩] 34)).alloc (.cells #[.string nm, .slice va 1 1, .slice none 0 0] 51)) := ⟨_, rfl⟩
 have hb34 : Below w3.heap.size w3 w4 := by rw [hw4]; exact (below_alloc1 _ _).alloc (by simp) _
 have hJ : WsJ w0 r a n c fin i w g g1 nm va 1 1 allV w4 := by
  refine ⟨HI2.out.st.to hb34, ?_, ?_, ?_, ?_⟩
  ·exact HI2.out.frm.trans (Frm.of_below (S := fun _ => False) hb34) (fun _ _ h => h.elim)
  ·rw [hg]; exact heap_below hb34 HI2.out.g0
  ·rw [hw4, hg1]; exact heap_new_at (by simp)
  ·rw [hw4, hva]; exact spsT_below (all_reads w3) (below_alloc1 _ _)
 have hrg : r < g := by rw [hg]; exact hrw
 have hgg : g < g1 := by rw [hg1, hg]; have := HI2.out.frm.size; omega
 have hwg : w.heap.size ≤ g := Nat.le_of_eq hg.symm
 rw [← hva, ← hw4, ← hg, ← hg1]
 clear hva hw4 hg hg1 hb34
 have HJ := hd hJ; clear hJ
 cases fl with
 | false =>
  cases nk with
  | false =>
   have hNo := wishW_no (ws := ws) (i := i) (by rw [Hnb.out]; rfl)
   have hIs := HJ.out.st
   have hIf := HJ.out.frm
   obtain ⟨HIs, HIf⟩ := hd2 hIs hIf; clear hIs hIf
   have hWn := HC.out.want HIs.out
   obtain ⟨HWn, HNo⟩ := hd2 hWn hNo; clear hWn hNo
   go_wp2_with fail
   refine (hNm _).mono ?_
   rintro e wN ⟨rfl, hwN⟩
   subst hwN
   go_wp2_with fail
   refine HWn.out.mono ?_
   rintro e w6 ⟨rfl, q5, rfl⟩
   go_wp2_with fail
   exact ⟨rfl, .inr ⟨i, HNo.out, rfl⟩, HIf.out.drewN q5⟩
  | true =>
   have hYe := wishW_yes (L := allV) (by rw [Hnb.out]; rfl) Hs.out Hnm2.out (by rw [Hsb.out]; rfl)
   have HI := HJ
   have hSt := settings_any HC.out (HI.out.st.on HC.out.low)
   obtain ⟨_, c1', _, c3'⟩ := rbox_cells HI.out.st.box
   obtain ⟨HSt, HYe⟩ := hd2 hSt hYe; clear hSt hYe
   go_wp2_with fail
   refine (hNm _).mono ?_
   rintro e wN ⟨rfl, hwN⟩
   subst hwN
   go_wp2_with fail
   refine (want_yes _ r).mono ?_
   rintro e w6 ⟨rfl, hw6⟩
   subst hw6
   go_wp2_with fail
   refine HSt.out.mono ?_
   rintro e w7 ⟨⟨l, j, v, hse, rfl, hv, hbx⟩ | ⟨j, hse, rfl⟩, hfr⟩
   ·obtain ⟨a3, c3, rfl⟩ := sets_shape hv.1
    have hfw := (frm_cell HI.out.frm 1 (.int .i64 ((i : Int) + 1))).trans hfr (fun _ _ h => h)
    obtain ⟨z, hz⟩ : ∃ n, n = l.length := ⟨_, rfl⟩
    rw [← hz] at hv ⊢
    have hk0 : SpcBox g (.string ⟨#[]⟩) (.slice none 0 0) (.slice none 0 0) w7 := frm_keep hfr (heap_other (b := r) (i := 1) HI.out.g0 (by omega)) (by omega)
    have hk1 : SpcBox g1 (.string nm) (.slice va 1 1) (.slice none 0 0) w7 := frm_keep hfr (heap_other (b := r) (i := 1) HI.out.g1 (by omega)) (by omega)
    obtain ⟨_, _, _, f00, f01, f02⟩ := spc_cells hk0
    obtain ⟨x10, x11, _, f10, f11, f12⟩ := spc_cells hk1
    have hvv := HI.out.rd
    obtain ⟨Hse, Hv, Hbx, Hfr, Hfw, Hk0, Hk1, Hvv, Hz⟩ := hd9 hse hv hbx hfr hfw hk0 hk1 hvv hz; clear hse hv hbx hfr hfw hk0 hk1 hvv hz
    go_wp2_with fail
    obtain ⟨W8, hW8⟩ : ∃ W, W = (((w7.setCell ⟨g1, 2, none⟩ (.slice a3 z c3)).setCell ⟨g, 0, none⟩ (.string nm)).setCell ⟨g, 1, none⟩ (.slice va 1 1)).setCell ⟨g, 2, none⟩ (.slice a3 z c3) := ⟨_, rfl⟩
    rw [← hW8]
    have hfin := wish_end (g1 := g1) Hk0.out (i := j) Hbx.out (by omega) (by omega) (by omega) hW8
    have hF8 : Frm (fun k => k = r) w W8 := by rw [hW8]; exact (((Hfw.out.setCell (p := ⟨g1, 2, none⟩) (.inl (show w.heap.size ≤ g1 by omega)) _).setCell (p := ⟨g, 0, none⟩) (.inl hwg) _).setCell (p := ⟨g, 1, none⟩) (.inl hwg) _).setCell (p := ⟨g, 2, none⟩) (.inl hwg) _
    have hT8 : Frm (fun k => k = r ∨ k = g ∨ k = g1) w7 W8 := by
     rw [hW8]
     exact ((((Frm.refl _ w7).setCell (p := ⟨g1, 2, none⟩) (.inr (.inr (.inr rfl))) _).setCell (p := ⟨g, 0, none⟩) (.inr (.inr (.inl rfl))) _).setCell (p := ⟨g, 1, none⟩) (.inr (.inr (.inl rfl))) _).setCell (p := ⟨g, 2, none⟩) (.inr (.inr (.inl rfl))) _
    refine bodyPost_ret (results_cell_row rfl _ _ _ _ _ _ _ rfl hfin.1 Tryz.underlying51 rfl (by kernel_rfl)) rfl ?_
    refine ⟨.inl ⟨(nm, allV, l), j, .slice va 1 1, .slice a3 z c3, HYe.out.1 _ _ Hse.out, rfl, ?_, ?_, hfin.2⟩, hF8⟩
    ·have h7 : Frm (fun k => k = r ∨ k = g ∨ k = g1) w6 w7 := (Frm.setCell (S := fun k => k = r ∨ k = g ∨ k = g1) (Frm.refl _ w6) (p := ⟨r, 1, none⟩) (.inr (.inl rfl)) _).trans (T := fun k => k = r) Hfr.out (fun _ _ h => .inl h)
     exact sps_other Hvv.out (h7.trans hT8 (fun _ _ h => h)) (wish_no2 HI.out.st.box HI.out.g0 HI.out.g1)
    ·exact sets_other Hv.out hT8 (wish_no2 Hbx.out Hk0.out Hk1.out)
   ·have hfw := (frm_cell HI.out.frm 1 (.int .i64 ((i : Int) + 1))).trans hfr (fun _ _ h => h)
    obtain ⟨Hse, Hfr, Hfw⟩ := hd3 hse hfr hfw; clear hse hfr hfw
    go_wp2_with fail
    exact ⟨rfl, .inr ⟨j, HYe.out.2 _ Hse.out, rfl⟩, Hfw.out⟩
 | true =>
  have hSet := set_any tl (by have := Hsgz.out; omega) (HC.out.dr HJ.out.st)
  obtain ⟨ok, hok⟩ : ∃ b, b = setOk tl := ⟨_, rfl⟩
  unfold SetPost at hSet
  rw [← hok] at hSet
  obtain ⟨HSet, Hok⟩ := hd2 hSet hok; clear hSet hok
  go_wp2_with fail
  refine HSet.out.mono ?_
  rintro e w5 ⟨a2, n2, c2, rfl, hrd, hb5⟩
  have hg15 := heap_below hb5 HJ.out.g1
  have hg05 := heap_below hb5 HJ.out.g0
  obtain ⟨_, _, _, _, fz1, _⟩ := spc_cells hg15
  have hst5 := HJ.out.st.to hb5
  have hfr5 := HJ.out.frm.trans (Frm.of_below (S := fun _ => False) hb5) (fun _ _ h => h.elim)
  obtain ⟨w6, hw6⟩ : ∃ W, W = w5.setCell ⟨g1, 1, none⟩ (.slice a2 n2 c2) := ⟨_, rfl⟩
  have hIs : RdS w0 r a n c fin i w6 := by rw [hw6]; exact ⟨heap_other hst5.box (by omega), hst5.bel.setCell (p := ⟨g1, 1, none⟩) (by have := HC.out.low; show w0.heap.size ≤ g1; omega) _⟩
  have hIf : Frm (fun k => k = r) w w6 := by rw [hw6]; exact hfr5.setCell (p := ⟨g1, 1, none⟩) (.inl (by show w.heap.size ≤ g1; omega)) _
  have hJ6 : ok = true → WsJ w0 r a n c fin i w g g1 nm a2 n2 c2 (rdV tl) w6 := fun k => by
   refine ⟨hIs, hIf, ?_, ?_, ?_⟩
   ·rw [hw6]; exact heap_other hg05 (by omega)
   ·rw [hw6]; exact heap_setCell_same _ g1 1 _ _ _ hg15
   ·rw [hw6]
    exact sps_other (hrd k) (Frm.setCell (S := fun k => k = g1) (Frm.refl _ _) (p := ⟨g1, 1, none⟩) (.inr rfl) _) (fun k hk => by rw [show k = g1 from hk]; exact no2_of hg15 (by decide) (by decide))
  obtain ⟨Hrd, Hb5, Hg15, Hg05, Hst5, Hfr5, HIs, HIf, HJ6⟩ := hd9 hrd hb5 hg15 hg05 hst5 hfr5 hIs hIf hJ6; clear hrd hb5 hg15 hg05 hst5 hfr5 hIs hIf hJ6
  cases nk with
  | false =>
   have hNo := wishW_no (ws := ws) (i := i) (by rw [Hnb.out]; rfl)
   go_upto_region 6 with (fail)
   rw [← hw6]
   clear hw6
   have hWn := HC.out.want HIs.out
   obtain ⟨HWn, HNo⟩ := hd2 hWn hNo; clear hWn hNo
   go_wp2_with fail
   refine (hNm _).mono ?_
   rintro e wN ⟨rfl, hwN⟩
   subst hwN
   go_wp2_with fail
   refine HWn.out.mono ?_
   rintro e w6 ⟨rfl, q5, rfl⟩
   go_wp2_with fail
   exact ⟨rfl, .inr ⟨i, HNo.out, rfl⟩, HIf.out.drewN q5⟩
  | true =>
   cases ok with
   | false =>
    have hNo := wishW_no (ws := ws) (i := i) (by rw [Hnb.out, ← Hok.out]; rfl)
    go_upto_region 6 with (fail)
    rw [← hw6]
    clear hw6
    have hWn := HC.out.want HIs.out
    obtain ⟨HWn, HNo⟩ := hd2 hWn hNo; clear hWn hNo
    go_wp2_with fail
    refine (hNm _).mono ?_
    rintro e wN ⟨rfl, hwN⟩
    subst hwN
    go_wp2_with fail
    refine HWn.out.mono ?_
    rintro e w6 ⟨rfl, q5, rfl⟩
    go_wp2_with fail
    exact ⟨rfl, .inr ⟨i, HNo.out, rfl⟩, HIf.out.drewN q5⟩
   | true =>
    have hYe := wishW_yes (L := rdV tl) (by rw [Hnb.out, ← Hok.out]; rfl) Hs.out Hnm2.out (by rw [Hsb.out]; rfl)
    have HI := Lib.hid (HJ6.out rfl)
    go_upto_region 6 with (fail)
    rw [← hw6]
    clear hw6
    have hSt := settings_any HC.out (HI.out.st.on HC.out.low)
    obtain ⟨_, c1', _, c3'⟩ := rbox_cells HI.out.st.box
    obtain ⟨HSt, HYe⟩ := hd2 hSt hYe; clear hSt hYe
    go_wp2_with fail
    refine (hNm _).mono ?_
    rintro e wN ⟨rfl, hwN⟩
    subst hwN
    go_wp2_with fail
    refine (want_yes _ r).mono ?_
    rintro e w6 ⟨rfl, hw6⟩
    subst hw6
    go_wp2_with fail
    refine HSt.out.mono ?_
    rintro e w7 ⟨⟨l, j, v, hse, rfl, hv, hbx⟩ | ⟨j, hse, rfl⟩, hfr⟩
    ·obtain ⟨a3, c3, rfl⟩ := sets_shape hv.1
     have hfw := (frm_cell HI.out.frm 1 (.int .i64 ((i : Int) + 1))).trans hfr (fun _ _ h => h)
     obtain ⟨z, hz⟩ : ∃ n, n = l.length := ⟨_, rfl⟩
     rw [← hz] at hv ⊢
     have hk0 : SpcBox g (.string ⟨#[]⟩) (.slice none 0 0) (.slice none 0 0) w7 := frm_keep hfr (heap_other (b := r) (i := 1) HI.out.g0 (by omega)) (by omega)
     have hk1 : SpcBox g1 (.string nm) (.slice a2 n2 c2) (.slice none 0 0) w7 := frm_keep hfr (heap_other (b := r) (i := 1) HI.out.g1 (by omega)) (by omega)
     obtain ⟨_, _, _, f00, f01, f02⟩ := spc_cells hk0
     obtain ⟨x10, x11, _, f10, f11, f12⟩ := spc_cells hk1
     have hvv := HI.out.rd
     obtain ⟨Hse, Hv, Hbx, Hfr, Hfw, Hk0, Hk1, Hvv, Hz⟩ := hd9 hse hv hbx hfr hfw hk0 hk1 hvv hz; clear hse hv hbx hfr hfw hk0 hk1 hvv hz
     go_wp2_with fail
     obtain ⟨W8, hW8⟩ : ∃ W, W = (((w7.setCell ⟨g1, 2, none⟩ (.slice a3 z c3)).setCell ⟨g, 0, none⟩ (.string nm)).setCell ⟨g, 1, none⟩ (.slice a2 n2 c2)).setCell ⟨g, 2, none⟩ (.slice a3 z c3) := ⟨_, rfl⟩
     rw [← hW8]
     have hfin := wish_end (g1 := g1) Hk0.out (i := j) Hbx.out (by omega) (by omega) (by omega) hW8
     have hF8 : Frm (fun k => k = r) w W8 := by rw [hW8]; exact (((Hfw.out.setCell (p := ⟨g1, 2, none⟩) (.inl (show w.heap.size ≤ g1 by omega)) _).setCell (p := ⟨g, 0, none⟩) (.inl hwg) _).setCell (p := ⟨g, 1, none⟩) (.inl hwg) _).setCell (p := ⟨g, 2, none⟩) (.inl hwg) _
     have hT8 : Frm (fun k => k = r ∨ k = g ∨ k = g1) w7 W8 := by
      rw [hW8]
      exact ((((Frm.refl _ w7).setCell (p := ⟨g1, 2, none⟩) (.inr (.inr (.inr rfl))) _).setCell (p := ⟨g, 0, none⟩) (.inr (.inr (.inl rfl))) _).setCell (p := ⟨g, 1, none⟩) (.inr (.inr (.inl rfl))) _).setCell (p := ⟨g, 2, none⟩) (.inr (.inr (.inl rfl))) _
     refine bodyPost_ret (results_cell_row rfl _ _ _ _ _ _ _ rfl hfin.1 Tryz.underlying51 rfl (by kernel_rfl)) rfl ?_
     refine ⟨.inl ⟨(nm, rdV tl, l), j, .slice a2 n2 c2, .slice a3 z c3, HYe.out.1 _ _ Hse.out, rfl, ?_, ?_, hfin.2⟩, hF8⟩
     ·have h7 : Frm (fun k => k = r ∨ k = g ∨ k = g1) w6 w7 := (Frm.setCell (S := fun k => k = r ∨ k = g ∨ k = g1) (Frm.refl _ w6) (p := ⟨r, 1, none⟩) (.inr (.inl rfl)) _).trans (T := fun k => k = r) Hfr.out (fun _ _ h => .inl h)
      exact sps_other Hvv.out (h7.trans hT8 (fun _ _ h => h)) (wish_no2 HI.out.st.box HI.out.g0 HI.out.g1)
     ·exact sets_other Hv.out hT8 (wish_no2 Hbx.out Hk0.out Hk1.out)
    ·have hfw := (frm_cell HI.out.frm 1 (.int .i64 ((i : Int) + 1))).trans hfr (fun _ _ h => h)
     obtain ⟨Hse, Hfr, Hfw⟩ := hd3 hse hfr hfw; clear hse hfr hfw
     go_wp2_with fail
     exact ⟨rfl, .inr ⟨j, HYe.out.2 _ Hse.out, rfl⟩, Hfw.out⟩
end Go.Proofs.YteailgjiifdgcaaGreatDoor
