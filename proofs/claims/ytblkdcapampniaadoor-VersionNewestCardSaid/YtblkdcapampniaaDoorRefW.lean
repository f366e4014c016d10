/- The walks of the document's part and before of versions. Condition: the text's reach. -/
import Derived.Test.YtblkdcapampniaaDoorRefV
set_option linter.unusedVariables false
set_option linter.unusedSimpArgs false
namespace Go.Proofs.YtblkdcapampniaaDoor
open Go.RowKit Go.Lib VerN

theorem lead_is {l : List UInt8} (hne : l ≠ []) : lead l = (decide (l = [48]) || decide (l[0]'(List.length_pos_iff.2 hne) ≠ 48)) := by
  match l, hne with
  | x :: r, _ =>
    unfold lead
    simp
theorem part_split (l : List UInt8) : partL l = (letOk l || (digs l && (decide (l.length ≤ 9) && lead l))) := by
  unfold partL digOk digs
  cases l.isEmpty <;> cases l.all isDig <;> cases decide (l.length ≤ 9) <;> rfl
set_option maxRecDepth 10000 in
set_option maxHeartbeats 1000000 in
theorem part1_any (s : ByteArray) (hs : s.size ≤ 9223372036854775807) (w : World) : Calls Tryd.prog 47 #[.string s] w fun e w' => e = .returned (.bool (partL s.data.toList)) ∧ w = w' := by
  have hL := fun W => letters1_any s hs W
  have hD := fun W => digits1_any s hs W
  have hp := part_split s.data.toList
  have hlen := Txt.len s
  have hlead := fun h => lead_is (l := s.data.toList) h
  obtain ⟨r, hr⟩ : ∃ r, r = partL s.data.toList := ⟨_, rfl⟩
  obtain ⟨x, hx⟩ : ∃ r, r = letOk s.data.toList := ⟨_, rfl⟩
  obtain ⟨y, hy⟩ : ∃ r, r = digs s.data.toList := ⟨_, rfl⟩
  rw [← hr] at hp ⊢
  rw [← hx] at hL hp
  rw [← hy] at hD hp
  cases x with
  | true =>
    have h0 : r = true := by rw [hp]; rfl
    have HL := Lib.hid hL; have HD := Lib.hid hD; have Hp := Lib.hid hp; have Hlen := Lib.hid hlen; have Hlead := Lib.hid hlead; have Hr := Lib.hid hr; have Hx := Lib.hid hx; have Hy := Lib.hid hy; have H0 := Lib.hid h0; clear hL hD hp hlen hlead hr hx hy h0
    go_enter Tryd.func47, Tryd.ntmps47
    go_wp2_with fail
    refine (HL.out _).mono ?_
    rintro e w1 ⟨rfl, rfl⟩
    go_wp2_with fail
    go_ret
    exact ⟨ret_bool H0.out.symm, rfl⟩
  | false =>
    cases y with
    | false =>
      have h0 : r = false := by rw [hp]; rfl
      have HL := Lib.hid hL; have HD := Lib.hid hD; have Hp := Lib.hid hp; have Hlen := Lib.hid hlen; have Hlead := Lib.hid hlead; have Hr := Lib.hid hr; have Hx := Lib.hid hx; have Hy := Lib.hid hy; have H0 := Lib.hid h0; clear hL hD hp hlen hlead hr hx hy h0
      go_enter Tryd.func47, Tryd.ntmps47
      go_wp2_with fail
      refine (HL.out _).mono ?_
      rintro e w1 ⟨rfl, rfl⟩
      go_wp2_with fail
      refine (HD.out _).mono ?_
      rintro e w1 ⟨rfl, rfl⟩
      go_wp2_with fail
      go_ret
      exact ⟨ret_bool H0.out.symm, rfl⟩
    | true =>
      have hne : s.data.toList ≠ [] := fun e => by rw [e] at hy; cases hy
      have h1 : 0 < s.size := by rw [← hlen]; exact List.length_pos_iff.2 hne
      have hq : r = (decide (s.size ≤ 9) && (decide (s.data.toList = [48]) || decide (s[0] ≠ 48))) := by
        rw [hp, hlead hne, show decide (s.size ≤ 9) = decide (s.data.toList.length ≤ 9) by rw [hlen]]; rfl
      obtain ⟨n, hn⟩ : ∃ n, n = s[0].toNat := ⟨_, rfl⟩
      have hn256 : n < 256 := by rw [hn]; exact s[0].toNat_lt
      have hsk : s[0].toNat = n := hn.symm
      have hn48 : decide (s[0] ≠ 48) = decide (n ≠ 48) := by
        by_cases h : s[0] = 48
        · rw [decide_eq_false (by simpa using h), decide_eq_false]
          rw [hn, h]; decide
        · rw [decide_eq_true h, decide_eq_true]
          intro e
          exact h (UInt8.toNat_inj.1 (by rw [hsk, e]; rfl))
      have hone : (s.toList == [48]) = decide (s.data.toList = [48]) := by
        rw [toList_data]
        by_cases h : s.data.toList = [48]
        · rw [h]; rfl
        · rw [decide_eq_false h]; exact beq_eq_false_iff_ne.2 h
      rw [hn48] at hq
      by_cases h9 : s.size ≤ 9
      · have k1 : decide ((s.size : Int) ≤ 9) = true := decide_eq_true (by omega)
        obtain ⟨b, hb⟩ : ∃ b, b = decide (s.data.toList = [48]) := ⟨_, rfl⟩
        rw [← hb] at hone hq
        rw [decide_eq_true h9] at hq
        clear hn hn48 hb
        cases b with
        | true =>
          have h0 : r = true := by rw [hq]; rfl
          have HL := Lib.hid hL; have HD := Lib.hid hD; have Hp := Lib.hid hp; have Hlen := Lib.hid hlen; have Hlead := Lib.hid hlead; have Hr := Lib.hid hr; have Hx := Lib.hid hx; have Hy := Lib.hid hy; have H0 := Lib.hid h0; have Hq := Lib.hid hq; clear hL hD hp hlen hlead hr hx hy h0 hq
          go_enter Tryd.func47, Tryd.ntmps47
          go_wp2_with fail
          refine (HL.out _).mono ?_
          rintro e w1 ⟨rfl, rfl⟩
          go_wp2_with fail
          refine (HD.out _).mono ?_
          rintro e w1 ⟨rfl, rfl⟩
          go_wp2_with fail
          go_ret
          exact ⟨ret_bool H0.out.symm, rfl⟩
        | false =>
          have h0 : ((n : Int) != 48) = r := by
            rw [hq]
            by_cases h : n = 48
            · subst h; rfl
            · rw [decide_eq_true h]; simp; omega
          have HL := Lib.hid hL; have HD := Lib.hid hD; have Hp := Lib.hid hp; have Hlen := Lib.hid hlen; have Hlead := Lib.hid hlead; have Hr := Lib.hid hr; have Hx := Lib.hid hx; have Hy := Lib.hid hy; have H0 := Lib.hid h0; have Hq := Lib.hid hq; clear hL hD hp hlen hlead hr hx hy h0 hq
          go_enter Tryd.func47, Tryd.ntmps47
          go_wp2_with fail
          refine (HL.out _).mono ?_
          rintro e w1 ⟨rfl, rfl⟩
          go_wp2_with fail
          refine (HD.out _).mono ?_
          rintro e w1 ⟨rfl, rfl⟩
          go_wp2_with fail
          go_ret
          exact ⟨ret_bool H0.out, rfl⟩
      · have k1 : decide ((s.size : Int) ≤ 9) = false := decide_eq_false (by omega)
        have h0 : r = false := by rw [hq, decide_eq_false h9]; rfl
        clear hn hn48
        have HL := Lib.hid hL; have HD := Lib.hid hD; have Hp := Lib.hid hp; have Hlen := Lib.hid hlen; have Hlead := Lib.hid hlead; have Hr := Lib.hid hr; have Hx := Lib.hid hx; have Hy := Lib.hid hy; have H0 := Lib.hid h0; have Hq := Lib.hid hq; have Hone := Lib.hid hone; clear hL hD hp hlen hlead hr hx hy h0 hq hone
        go_enter Tryd.func47, Tryd.ntmps47
        go_wp2_with fail
        refine (HL.out _).mono ?_
        rintro e w1 ⟨rfl, rfl⟩
        go_wp2_with fail
        refine (HD.out _).mono ?_
        rintro e w1 ⟨rfl, rfl⟩
        go_wp2_with fail
        go_ret
        exact ⟨ret_bool H0.out.symm, rfl⟩
end Go.Proofs.YtblkdcapampniaaDoor
