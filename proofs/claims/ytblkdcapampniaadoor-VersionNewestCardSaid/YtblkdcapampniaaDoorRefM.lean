/- The walks of the document's May, Less and Compare of versions. Condition: texts of at most a million bytes. -/
import Derived.Test.YtblkdcapampniaaDoorRefC
set_option linter.unusedVariables false
set_option linter.unusedSimpArgs false
namespace Go.Proofs.YtblkdcapampniaaDoor
open Go.RowKit Go.Lib VerN

theorem may_parts (s : ByteArray) : mayL s.data.toList = (decide (s.size ≠ 0) && decide (s.size ≤ 40) && (cutS 46 s).all (fun p => partL p.data.toList) && decide ((cutS 46 s).length ≤ 8)) := by
  unfold mayL
  rw [← cutS_data, List.all_map, Txt.len, List.length_map]
  have e : decide (s.data.toList ≠ []) = decide (s.size ≠ 0) := decide_eq_decide.2 (not_congr (nil_size s))
  rw [e]
  rfl
set_option maxRecDepth 10000 in
set_option maxHeartbeats 2000000 in
theorem may1_any (s : ByteArray) (hs : s.size ≤ 1000000) (w : World) : Calls Tryd.prog 18 #[.string s] w fun e w' => e = .returned (.bool (mayL s.data.toList)) ∧ Below w.heap.size w w' := by
  have hm := may_parts s
  obtain ⟨r, hr⟩ : ∃ r, r = mayL s.data.toList := ⟨_, rfl⟩
  rw [← hr] at hm ⊢
  by_cases h0 : s.size = 0
  · have k1 : s.toList.isEmpty = true := by rw [Txt.no_dec, decide_eq_true h0]
    have hf : r = false := by rw [hm, decide_eq_false (p := s.size ≠ 0) (by simpa using h0)]; rfl
    have Hm := Lib.hid hm; have Hr := Lib.hid hr; have Hf := Lib.hid hf; clear hm hr hf
    go_enter Tryd.func18, Tryd.ntmps18
    go_wp2_with fail
    go_ret
    exact ⟨ret_bool Hf.out.symm, Below.refl _ _⟩
  · have k1 : s.toList.isEmpty = false := by rw [Txt.no_dec, decide_eq_false h0]
    by_cases h40 : 40 < s.size
    · have k2 : decide ((40 : Int) < (s.size : Int)) = true := decide_eq_true (by omega)
      have hf : r = false := by rw [hm, decide_eq_false (p := s.size ≤ 40) (by omega)]; simp
      have Hm := Lib.hid hm; have Hr := Lib.hid hr; have Hf := Lib.hid hf; clear hm hr hf
      go_enter Tryd.func18, Tryd.ntmps18
      go_wp2_with fail
      go_ret
      exact ⟨ret_bool Hf.out.symm, Below.refl _ _⟩
    · have k2 : decide ((40 : Int) < (s.size : Int)) = false := decide_eq_false (by omega)
      have hC := cut1_any s hs 46 (by omega) w
      rw [show UInt8.ofNat 46 = (46 : UInt8) from rfl] at hC
      obtain ⟨ps, hps⟩ : ∃ ps, ps = cutS 46 s := ⟨_, rfl⟩
      have hv : r = (ps.all (fun p => partL p.data.toList) && decide (ps.length ≤ 8)) := by rw [hm, decide_eq_true h0, decide_eq_true (by omega : s.size ≤ 40), hps]; rfl
      have hpz : ∀ p ∈ ps, p.size ≤ 1000000 := fun p hp => by
        rw [hps] at hp
        have := cutS_piece hp
        omega
      have hl41 : ps.length ≤ 41 := by
        rw [hps, cutS_len]
        have := (cutL_len 46 s.data.toList).2
        rw [Txt.len] at this
        omega
      rw [← hps] at hC
      have Hm := Lib.hid hm; have Hr := Lib.hid hr; have HC := Lib.hid hC; have Hps := Lib.hid hps; have Hv := Lib.hid hv; have Hpz := Lib.hid hpz; clear hm hr hC hps hv hpz
      go_enter Tryd.func18, Tryd.ntmps18
      go_wp2_with fail
      refine HC.out.mono ?_
      rintro e w1 ⟨v, rfl, hown, hb⟩
      obtain ⟨a, cap, rfl⟩ := own_shape hown
      obtain ⟨n, hn⟩ : ∃ n, n = ps.length := ⟨_, rfl⟩
      rw [← hn] at hown hl41 ⊢
      have Hown := Lib.hid hown; have Hb := Lib.hid hb; have Hn := Lib.hid hn; clear hown hb hn
      go_wp2_with fail
      go_loop [4, 16] (fun _ i => ∃ k : Nat, k ≤ n ∧ i = .int .i64 k ∧ (ps.take k).all (fun p => partL p.data.toList) = true) (fun _ i => n - (RowKit.intOf i).toNat)
      case atStart => exact ⟨0, Nat.zero_le _, rfl, by simp⟩
      case round =>
        obtain ⟨k, hk, rfl, hall⟩ := hrel
        by_cases hlt : k < n
        · have hkp : k < ps.length := by rw [← Hn.out]; exact hlt
          obtain ⟨g, cap', hv0, c0⟩ := texts_cell Hown.out k hkp
          simp only [Value.slice.injEq] at hv0
          obtain ⟨ha, hrest⟩ := hv0
          subst ha
          clear hrest
          obtain ⟨x, hx⟩ : ∃ x, x = ps[k] := ⟨_, rfl⟩
          rw [← hx] at c0
          have hP := part1_any x (by have := Hpz.out x (by rw [hx]; exact List.getElem_mem hkp); omega) w1
          obtain ⟨q, hq⟩ : ∃ q, q = partL x.data.toList := ⟨_, rfl⟩
          rw [← hq] at hP
          have k3 : (k : Int) < (n : Int) := by omega
          have hyes : q = true → (ps.take (k + 1)).all (fun p => partL p.data.toList) = true := fun h => by
            rw [List.take_succ_eq_append_getElem hkp, List.all_append, hall, ← hx]
            simp only [List.all_cons, List.all_nil, Bool.and_true, Bool.true_and]
            rw [← hq]; exact h
          have hno : q = false → r = false := fun h => by
            rw [Hv.out, Bool.eq_false_iff]
            intro h2
            rw [Bool.and_eq_true] at h2
            have := List.all_eq_true.1 h2.1 ps[k] (List.getElem_mem hkp)
            rw [← hx, ← hq, h] at this
            cases this
          have Hx := Lib.hid hx; have HP := Lib.hid hP; have Hq := Lib.hid hq; have Hall := Lib.hid hall; have Hyes := Lib.hid hyes; have Hno := Lib.hid hno; clear hx hP hq hall hyes hno
          go_wp2_with fail
          refine HP.out.mono ?_
          rintro e w2 ⟨rfl, rfl⟩
          cases q with
          | true =>
            have hnx := Hyes.out rfl
            have Hnx := Lib.hid hnx; clear hnx
            go_wp2_with fail
            go_round
            case rel => exact ⟨k + 1, by omega, by go_num, Hnx.out⟩
            case measure => simp [RowKit.intOf]; omega
          | false =>
            have hf := Hno.out rfl
            have Hf := Lib.hid hf; clear hf
            go_wp2_with fail
            go_ret
            exact ⟨ret_bool Hf.out.symm, Hb.out⟩
        · obtain rfl : k = n := by omega
          have hf : decide ((k : Int) ≤ 8) = r := by
            rw [Hv.out, ← Hn.out]
            rw [List.take_of_length_le (by rw [← Hn.out]; exact Nat.le_refl _)] at hall
            rw [hall, Bool.true_and]
            by_cases h : k ≤ 8
            · rw [decide_eq_true h, decide_eq_true]; omega
            · rw [decide_eq_false h, decide_eq_false]; omega
          have Hall := Lib.hid hall; have Hf := Lib.hid hf; clear hall hf
          go_wp2_with fail
          go_ret
          exact ⟨ret_bool Hf.out, Hb.out⟩
end Go.Proofs.YtblkdcapampniaaDoor
