/- The walks of the document's Less and Compare of versions. Condition: texts of at most a million bytes. -/
import Derived.Test.YtblkdcapampniaaDoorRefM
set_option linter.unusedVariables false
set_option linter.unusedSimpArgs false
namespace Go.Proofs.YtblkdcapampniaaDoor
open Go.RowKit Go.Lib VerN

theorem getD_data (c : UInt8) (s : ByteArray) (i : Nat) : ((cutS c s).getD i noTxt).data.toList = (cutL c s.data.toList).getD i [] := by
  rw [← cutS_data]
  by_cases h : i < (cutS c s).length
  · rw [getD_lt (by rw [List.length_map]; exact h), List.getElem_map, List.getD, List.getElem?_eq_getElem h]; rfl
  · rw [getD_ge (by rw [List.length_map]; omega), List.getD, List.getElem?_eq_none (by omega)]; rfl
theorem getD_size (c : UInt8) (s : ByteArray) (hs : s.size ≤ 1000000) (i : Nat) : ((cutS c s).getD i noTxt).size ≤ 1000000 := by
  by_cases h : i < (cutS c s).length
  · rw [List.getD, List.getElem?_eq_getElem h]
    have := cutS_piece (List.getElem_mem h)
    show (cutS c s)[i].size ≤ 1000000
    omega
  · rw [List.getD, List.getElem?_eq_none (by omega)]; decide
set_option maxRecDepth 10000 in
set_option maxHeartbeats 4000000 in
theorem less1_any (a b : ByteArray) (ha : a.size ≤ 1000000) (hb : b.size ≤ 1000000) (w : World) : Calls Tryd.prog 41 #[.string a, .string b] w fun e w' => e = .returned (.bool (lessL a.data.toList b.data.toList)) ∧ Below w.heap.size w w' := by
  obtain ⟨r, hr⟩ : ∃ r, r = lessL a.data.toList b.data.toList := ⟨_, rfl⟩
  have hP := fun W => may1_any a ha W
  have hQ := fun W => may1_any b hb W
  obtain ⟨p, hp⟩ : ∃ x, x = mayL a.data.toList := ⟨_, rfl⟩
  obtain ⟨q, hq⟩ : ∃ x, x = mayL b.data.toList := ⟨_, rfl⟩
  have hv : r = if p = false ∨ q = false then !p && q else lessFrom (cutL 46 a.data.toList) (cutL 46 b.data.toList) 0 (max (cutL 46 a.data.toList).length (cutL 46 b.data.toList).length) := by rw [hr, hp, hq]; rfl
  rw [← hr]
  rw [← hp] at hP
  rw [← hq] at hQ
  cases p with
  | false =>
    have h0 : q = r := by rw [hv]; simp
    have Hr := Lib.hid hr; have HP := Lib.hid hP; have HQ := Lib.hid hQ; have Hp := Lib.hid hp; have Hq := Lib.hid hq; have Hv := Lib.hid hv; have H0 := Lib.hid h0; clear hr hP hQ hp hq hv h0
    go_enter Tryd.func41, Tryd.ntmps41
    go_wp2_with fail
    refine (HP.out _).mono ?_
    rintro e w1 ⟨rfl, hb1⟩
    have hP2 := HP.out w1
    have Hb1 := Lib.hid hb1; have HP2 := Lib.hid hP2; clear hb1 hP2
    go_wp2_with fail
    refine HP2.out.mono ?_
    rintro e w2 ⟨rfl, hb2⟩
    have hb3 := Hb1.out.trans (hb2.mono Hb1.out.size)
    have hQ2 := HQ.out w2
    have Hb2 := Lib.hid hb2; have Hb3 := Lib.hid hb3; have HQ2 := Lib.hid hQ2; clear hb2 hb3 hQ2
    go_wp2_with fail
    refine HQ2.out.mono ?_
    rintro e w3 ⟨rfl, hb4⟩
    have hb5 := Hb3.out.trans (hb4.mono Hb3.out.size)
    have Hb4 := Lib.hid hb4; have Hb5 := Lib.hid hb5; clear hb4 hb5
    go_wp2_with fail
    go_ret
    exact ⟨ret_bool H0.out, Hb5.out⟩
  | true =>
    cases q with
    | false =>
      have h0 : r = false := by rw [hv]; rfl
      have Hr := Lib.hid hr; have HP := Lib.hid hP; have HQ := Lib.hid hQ; have Hp := Lib.hid hp; have Hq := Lib.hid hq; have Hv := Lib.hid hv; have H0 := Lib.hid h0; clear hr hP hQ hp hq hv h0
      go_enter Tryd.func41, Tryd.ntmps41
      go_wp2_with fail
      refine (HP.out _).mono ?_
      rintro e w1 ⟨rfl, hb1⟩
      have hQ2 := HQ.out w1
      have Hb1 := Lib.hid hb1; have HQ2 := Lib.hid hQ2; clear hb1 hQ2
      go_wp2_with fail
      refine HQ2.out.mono ?_
      rintro e w2 ⟨rfl, hb2⟩
      have hb3 := Hb1.out.trans (hb2.mono Hb1.out.size)
      have hP2 := HP.out w2
      have Hb2 := Lib.hid hb2; have Hb3 := Lib.hid hb3; have HP2 := Lib.hid hP2; clear hb2 hb3 hP2
      go_wp2_with fail
      refine HP2.out.mono ?_
      rintro e w3 ⟨rfl, hb4⟩
      have hb5 := Hb3.out.trans (hb4.mono Hb3.out.size)
      have Hb4 := Lib.hid hb4; have Hb5 := Lib.hid hb5; clear hb4 hb5
      go_wp2_with fail
      go_ret
      exact ⟨ret_bool H0.out.symm, Hb5.out⟩
    | true =>
      obtain ⟨ps, hps⟩ : ∃ x, x = cutS 46 a := ⟨_, rfl⟩
      obtain ⟨qs, hqs⟩ : ∃ x, x = cutS 46 b := ⟨_, rfl⟩
      obtain ⟨xs, hxs⟩ : ∃ x, x = cutL 46 a.data.toList := ⟨_, rfl⟩
      obtain ⟨ys, hys⟩ : ∃ x, x = cutL 46 b.data.toList := ⟨_, rfl⟩
      have h0 : r = lessFrom xs ys 0 (max xs.length ys.length) := by rw [hv, hxs, hys]; rfl
      obtain ⟨m, hm⟩ : ∃ m, m = xs.length := ⟨_, rfl⟩
      obtain ⟨n, hn⟩ : ∃ m, m = ys.length := ⟨_, rfl⟩
      have hm8 : m ≤ 8 := by rw [hm, hxs]; exact ((may_iff _).1 hp.symm).2.2.2
      have hn8 : n ≤ 8 := by rw [hn, hys]; exact ((may_iff _).1 hq.symm).2.2.2
      have hC := fun W => cut1_any a ha 46 (by omega) W
      have hC2 := fun W => cut1_any b hb 46 (by omega) W
      rw [show UInt8.ofNat 46 = (46 : UInt8) from rfl, cutS_len, ← hxs, ← hm, ← hps] at hC
      rw [show UInt8.ofNat 46 = (46 : UInt8) from rfl, cutS_len, ← hys, ← hn, ← hqs] at hC2
      rw [← hm, ← hn] at h0
      obtain ⟨N, hN⟩ : ∃ N, N = max m n := ⟨_, rfl⟩
      rw [← hN] at h0
      have gx : ∀ i, (ps.getD i noTxt).data.toList = xs.getD i [] := fun i => by rw [hps, hxs]; exact getD_data 46 a i
      have gy : ∀ i, (qs.getD i noTxt).data.toList = ys.getD i [] := fun i => by rw [hqs, hys]; exact getD_data 46 b i
      have zx : ∀ i, (ps.getD i noTxt).size ≤ 1000000 := fun i => by rw [hps]; exact getD_size 46 a ha i
      have zy : ∀ i, (qs.getD i noTxt).size ≤ 1000000 := fun i => by rw [hqs]; exact getD_size 46 b hb i
      have Hr := Lib.hid hr; have HP := Lib.hid hP; have HQ := Lib.hid hQ; have Hp := Lib.hid hp; have Hq := Lib.hid hq; have Hv := Lib.hid hv; have H0 := Lib.hid h0; have Hps := Lib.hid hps; have Hqs := Lib.hid hqs; have Hxs := Lib.hid hxs; have Hys := Lib.hid hys; have Hm := Lib.hid hm; have Hn := Lib.hid hn; have HC := Lib.hid hC; have HC2 := Lib.hid hC2; have Hgx := Lib.hid gx; have Hgy := Lib.hid gy; have Hzx := Lib.hid zx; have Hzy := Lib.hid zy; have HN := Lib.hid hN; clear hr hP hQ hp hq hv h0 hps hqs hxs hys hm hn hC hC2 gx gy zx zy hN
      go_enter Tryd.func41, Tryd.ntmps41
      go_wp2_with fail
      refine (HP.out _).mono ?_
      rintro e w1 ⟨rfl, hb1⟩
      have hQ2 := HQ.out w1
      have Hb1 := Lib.hid hb1; have HQ2 := Lib.hid hQ2; clear hb1 hQ2
      go_wp2_with fail
      refine HQ2.out.mono ?_
      rintro e w2 ⟨rfl, hb2⟩
      have hb3 := Hb1.out.trans (hb2.mono Hb1.out.size)
      have hC3 := HC.out w2
      have Hb2 := Lib.hid hb2; have Hb3 := Lib.hid hb3; have HC3 := Lib.hid hC3; clear hb2 hb3 hC3
      go_wp2_with fail
      refine HC3.out.mono ?_
      rintro e w3 ⟨v1, rfl, o1, hb4⟩
      have hb5 := Hb3.out.trans (hb4.mono Hb3.out.size)
      have hC4 := HC2.out w3
      obtain ⟨a1, cap1, rfl⟩ := own_shape o1
      have Hb4 := Lib.hid hb4; have Hb5 := Lib.hid hb5; have HC4 := Lib.hid hC4; have Ho1 := Lib.hid o1; clear hb4 hb5 hC4 o1
      go_wp2_with fail
      refine HC4.out.mono ?_
      rintro e w4 ⟨v2, rfl, o2, hb6⟩
      have hb7 := Hb5.out.trans (hb6.mono Hb5.out.size)
      have o3 := ownsRow_below Ho1.out hb6
      obtain ⟨a2, cap2, rfl⟩ := own_shape o2
      have Hb6 := Lib.hid hb6; have Hb7 := Lib.hid hb7; have Ho2 := Lib.hid o2; have Ho3 := Lib.hid o3; clear hb6 hb7 o2 o3
      clear Ho1 HC HC2 HC3 HC4 HQ2 HP HQ Hb1 Hb2 Hb3 Hb4 Hb5 Hb6
      go_wp2_with fail
      go_loop [7] (fun i => ∃ k : Nat, k ≤ N ∧ i = .int .i64 k ∧ r = lessFrom xs ys k (N - k)) (fun i => N - (RowKit.intOf i).toNat)
      case atStart => exact ⟨0, Nat.zero_le _, rfl, H0.out⟩
      case round =>
        obtain ⟨k, hk, rfl, hrk⟩ := hrel
        by_cases hlt : k < N
        · obtain ⟨x, hx⟩ : ∃ x, x = ps.getD k noTxt := ⟨_, rfl⟩
          obtain ⟨y, hy⟩ : ∃ x, x = qs.getD k noTxt := ⟨_, rfl⟩
          have hX := at1_any Ho3.out (by omega) k (by have := HN.out; omega)
          have hY := at1_any Ho2.out (by omega) k (by have := HN.out; omega)
          rw [← hx] at hX
          rw [← hy] at hY
          have hB1 := before_any x y (by rw [hx]; have := Hzx.out k; omega) (by rw [hy]; have := Hzy.out k; omega) w4
          have hB2 := before_any y x (by rw [hy]; have := Hzy.out k; omega) (by rw [hx]; have := Hzx.out k; omega) w4
          obtain ⟨u, hu⟩ : ∃ u, u = before x.data.toList y.data.toList := ⟨_, rfl⟩
          obtain ⟨v, hv⟩ : ∃ u, u = before y.data.toList x.data.toList := ⟨_, rfl⟩
          rw [← hu] at hB1
          rw [← hv] at hB2
          have hr2 : r = if u = true then true else if v = true then false else lessFrom xs ys (k + 1) (N - (k + 1)) := by
            rw [hrk, show N - k = (N - (k + 1)) + 1 by omega, lessFrom, hu, hv, hx, hy, Hgx.out, Hgy.out]
          have hor : (k < m) ∨ (¬ k < m ∧ k < n) := by have := HN.out; omega
          have Hx := Lib.hid hx; have Hy := Lib.hid hy; have HX := Lib.hid hX; have HY := Lib.hid hY; have HB1 := Lib.hid hB1; have HB2 := Lib.hid hB2; have Hu := Lib.hid hu; have Hv := Lib.hid hv; have Hrk := Lib.hid hrk; have Hr2 := Lib.hid hr2; clear hx hy hX hY hB1 hB2 hu hv hrk hr2
          rcases hor with h1 | ⟨h1, h2⟩
          · have k1 : decide ((k : Int) < (m : Int)) = true := decide_eq_true (by omega)
            cases u with
            | true =>
              have hf : r = true := by rw [Hr2.out]; rfl
              have Hf := Lib.hid hf; clear hf
              go_wp2_with fail
              refine HX.out.mono ?_
              rintro e w5 ⟨rfl, rfl⟩
              go_wp2_with fail
              refine HY.out.mono ?_
              rintro e w5 ⟨rfl, rfl⟩
              go_wp2_with fail
              refine HB1.out.mono ?_
              rintro e w5 ⟨rfl, rfl⟩
              go_wp2_with fail
              go_ret
              exact ⟨ret_bool Hf.out.symm, Hb7.out⟩
            | false =>
              cases v with
              | true =>
                have hf : r = false := by rw [Hr2.out]; rfl
                have Hf := Lib.hid hf; clear hf
                go_wp2_with fail
                refine HX.out.mono ?_
                rintro e w5 ⟨rfl, rfl⟩
                go_wp2_with fail
                refine HY.out.mono ?_
                rintro e w5 ⟨rfl, rfl⟩
                go_wp2_with fail
                refine HB1.out.mono ?_
                rintro e w5 ⟨rfl, rfl⟩
                go_wp2_with fail
                refine HY.out.mono ?_
                rintro e w5 ⟨rfl, rfl⟩
                go_wp2_with fail
                refine HX.out.mono ?_
                rintro e w5 ⟨rfl, rfl⟩
                go_wp2_with fail
                refine HB2.out.mono ?_
                rintro e w5 ⟨rfl, rfl⟩
                go_wp2_with fail
                go_ret
                exact ⟨ret_bool Hf.out.symm, Hb7.out⟩
              | false =>
                have hf : r = lessFrom xs ys (k + 1) (N - (k + 1)) := by rw [Hr2.out]; rfl
                have Hf := Lib.hid hf; clear hf
                go_wp2_with fail
                refine HX.out.mono ?_
                rintro e w5 ⟨rfl, rfl⟩
                go_wp2_with fail
                refine HY.out.mono ?_
                rintro e w5 ⟨rfl, rfl⟩
                go_wp2_with fail
                refine HB1.out.mono ?_
                rintro e w5 ⟨rfl, rfl⟩
                go_wp2_with fail
                refine HY.out.mono ?_
                rintro e w5 ⟨rfl, rfl⟩
                go_wp2_with fail
                refine HX.out.mono ?_
                rintro e w5 ⟨rfl, rfl⟩
                go_wp2_with fail
                refine HB2.out.mono ?_
                rintro e w5 ⟨rfl, rfl⟩
                go_wp2_with fail
                go_round
                case rel => exact ⟨k + 1, by omega, by go_num, Hf.out⟩
                case measure => simp [RowKit.intOf]; omega
          · have k1 : decide ((k : Int) < (m : Int)) = false := decide_eq_false (by omega)
            have k2 : decide ((k : Int) < (n : Int)) = true := decide_eq_true (by omega)
            cases u with
            | true =>
              have hf : r = true := by rw [Hr2.out]; rfl
              have Hf := Lib.hid hf; clear hf
              go_wp2_with fail
              refine HX.out.mono ?_
              rintro e w5 ⟨rfl, rfl⟩
              go_wp2_with fail
              refine HY.out.mono ?_
              rintro e w5 ⟨rfl, rfl⟩
              go_wp2_with fail
              refine HB1.out.mono ?_
              rintro e w5 ⟨rfl, rfl⟩
              go_wp2_with fail
              go_ret
              exact ⟨ret_bool Hf.out.symm, Hb7.out⟩
            | false =>
              cases v with
              | true =>
                have hf : r = false := by rw [Hr2.out]; rfl
                have Hf := Lib.hid hf; clear hf
                go_wp2_with fail
                refine HX.out.mono ?_
                rintro e w5 ⟨rfl, rfl⟩
                go_wp2_with fail
                refine HY.out.mono ?_
                rintro e w5 ⟨rfl, rfl⟩
                go_wp2_with fail
                refine HB1.out.mono ?_
                rintro e w5 ⟨rfl, rfl⟩
                go_wp2_with fail
                refine HY.out.mono ?_
                rintro e w5 ⟨rfl, rfl⟩
                go_wp2_with fail
                refine HX.out.mono ?_
                rintro e w5 ⟨rfl, rfl⟩
                go_wp2_with fail
                refine HB2.out.mono ?_
                rintro e w5 ⟨rfl, rfl⟩
                go_wp2_with fail
                go_ret
                exact ⟨ret_bool Hf.out.symm, Hb7.out⟩
              | false =>
                have hf : r = lessFrom xs ys (k + 1) (N - (k + 1)) := by rw [Hr2.out]; rfl
                have Hf := Lib.hid hf; clear hf
                go_wp2_with fail
                refine HX.out.mono ?_
                rintro e w5 ⟨rfl, rfl⟩
                go_wp2_with fail
                refine HY.out.mono ?_
                rintro e w5 ⟨rfl, rfl⟩
                go_wp2_with fail
                refine HB1.out.mono ?_
                rintro e w5 ⟨rfl, rfl⟩
                go_wp2_with fail
                refine HY.out.mono ?_
                rintro e w5 ⟨rfl, rfl⟩
                go_wp2_with fail
                refine HX.out.mono ?_
                rintro e w5 ⟨rfl, rfl⟩
                go_wp2_with fail
                refine HB2.out.mono ?_
                rintro e w5 ⟨rfl, rfl⟩
                go_wp2_with fail
                go_round
                case rel => exact ⟨k + 1, by omega, by go_num, Hf.out⟩
                case measure => simp [RowKit.intOf]; omega
        · obtain rfl : k = N := by omega
          have k1 : decide (k < m) = false := decide_eq_false (by have := HN.out; omega)
          have k2 : decide (k < n) = false := decide_eq_false (by have := HN.out; omega)
          have hf : r = false := by rw [hrk, Nat.sub_self]; rfl
          have Hrk := Lib.hid hrk; have Hf := Lib.hid hf; clear hrk hf
          go_wp2_with fail
          go_ret
          exact ⟨ret_bool Hf.out.symm, Hb7.out⟩
set_option maxRecDepth 10000 in
theorem compare1_any (a b : ByteArray) (ha : a.size ≤ 1000000) (hb : b.size ≤ 1000000) (w : World) : Calls Tryd.prog 17 #[.string a, .string b] w fun e w' => e = .returned (.int .i64 (compareL a.data.toList b.data.toList)) ∧ Below w.heap.size w w' := by
  have hL := less1_any a b ha hb w
  have hM := fun W => less1_any b a hb ha W
  have hv := compareD_is a.data.toList b.data.toList
  unfold compareD at hv
  obtain ⟨r, hr⟩ : ∃ r, r = compareL a.data.toList b.data.toList := ⟨_, rfl⟩
  obtain ⟨u, hu⟩ : ∃ u, u = lessL a.data.toList b.data.toList := ⟨_, rfl⟩
  obtain ⟨v, hv2⟩ : ∃ u, u = lessL b.data.toList a.data.toList := ⟨_, rfl⟩
  rw [← hr] at hv ⊢
  rw [← hu] at hL hv
  rw [← hv2] at hM hv
  cases u with
  | true =>
    have h0 : r = -1 := by rw [← hv]; rfl
    have HL := Lib.hid hL; have HM := Lib.hid hM; have Hv := Lib.hid hv; have Hr := Lib.hid hr; have Hu := Lib.hid hu; have Hv2 := Lib.hid hv2; have H0 := Lib.hid h0; clear hL hM hv hr hu hv2 h0
    go_enter Tryd.func17, Tryd.ntmps17
    go_wp2_with fail
    refine HL.out.mono ?_
    rintro e w1 ⟨rfl, hb1⟩
    have Hb1 := Lib.hid hb1; clear hb1
    go_wp2_with fail
    go_ret
    exact ⟨ret_int H0.out.symm, Hb1.out⟩
  | false =>
    cases v with
    | true =>
      have h0 : r = 1 := by rw [← hv]; rfl
      have HL := Lib.hid hL; have HM := Lib.hid hM; have Hv := Lib.hid hv; have Hr := Lib.hid hr; have Hu := Lib.hid hu; have Hv2 := Lib.hid hv2; have H0 := Lib.hid h0; clear hL hM hv hr hu hv2 h0
      go_enter Tryd.func17, Tryd.ntmps17
      go_wp2_with fail
      refine HL.out.mono ?_
      rintro e w1 ⟨rfl, hb1⟩
      have hM1 := HM.out w1
      have Hb1 := Lib.hid hb1; have HM1 := Lib.hid hM1; clear hb1 hM1
      go_wp2_with fail
      refine HM1.out.mono ?_
      rintro e w2 ⟨rfl, hb2⟩
      have hb3 := Hb1.out.trans (hb2.mono Hb1.out.size)
      have Hb2 := Lib.hid hb2; have Hb3 := Lib.hid hb3; clear hb2 hb3
      go_wp2_with fail
      go_ret
      exact ⟨ret_int H0.out.symm, Hb3.out⟩
    | false =>
      have h0 : r = 0 := by rw [← hv]; rfl
      have HL := Lib.hid hL; have HM := Lib.hid hM; have Hv := Lib.hid hv; have Hr := Lib.hid hr; have Hu := Lib.hid hu; have Hv2 := Lib.hid hv2; have H0 := Lib.hid h0; clear hL hM hv hr hu hv2 h0
      go_enter Tryd.func17, Tryd.ntmps17
      go_wp2_with fail
      refine HL.out.mono ?_
      rintro e w1 ⟨rfl, hb1⟩
      have hM1 := HM.out w1
      have Hb1 := Lib.hid hb1; have HM1 := Lib.hid hM1; clear hb1 hM1
      go_wp2_with fail
      refine HM1.out.mono ?_
      rintro e w2 ⟨rfl, hb2⟩
      have hb3 := Hb1.out.trans (hb2.mono Hb1.out.size)
      have Hb2 := Lib.hid hb2; have Hb3 := Lib.hid hb3; clear hb2 hb3
      go_wp2_with fail
      go_ret
      exact ⟨ret_int H0.out.symm, Hb3.out⟩
end Go.Proofs.YtblkdcapampniaaDoor
