/- The walk of cnf.Text: the text of clauses. Condition: the library's variables as they were laid, and at most 4000 clauses of at most 4000 numbers. -/
import Derived.Test.YtalliggdfoeahaaGreatDoorCrdM
import Derived.Test.YtalliggdfoeahaaGreatDoorDoor
import Derived.Test.YtalliggdfoeahaaGreatDoorBld
set_option linter.unusedVariables false
set_option linter.unusedSimpArgs false
namespace Go.Proofs.YtalliggdfoeahaaGreatDoor
open Go.RowKit Go.Lib Go.Sort
open CnfM (InR)

theorem cat_data (a b : ByteArray) : (a ++ b).data.toList = a.data.toList ++ b.data.toList := by simp [ByteArray.data_append]
theorem cat_size (a b : ByteArray) : (a ++ b).size = a.size + b.size := by rw [← Txt.len, cat_data, List.length_append, Txt.len, Txt.len]
set_option maxRecDepth 10000 in
set_option maxHeartbeats 4000000 in
theorem cnfText_any {w : World} {v : Value} {l : List (List Int)} (h : RIss w [v] l) (hs : Small l) (x : Int) (hx : InR x) (hD : Doors w) : Calls Tryz.prog 6 #[.int .i64 x, v] w fun e w' => e = .returned (.string ⟨(cnfL x l).toArray⟩) ∧ Below w.heap.size w w' := by
  obtain ⟨a, cap, rfl, hz, g⟩ := rows_open h
  obtain ⟨n, hn⟩ : ∃ n, n = l.length := ⟨_, rfl⟩
  have hn4 : n ≤ 4000 := by rw [hn]; exact hs.1
  have h0 := bld_new w
  have hbel0 : Below w.heap.size w (w.alloc (.cells #[.pointer none, .slice none 0 0] 49)) := (Below.refl _ _).alloc (Nat.le_refl _) _
  rw [← hn] at hz h ⊢
  obtain ⟨w1, hw1⟩ : ∃ w1, w1 = w.alloc (.cells #[.pointer none, .slice none 0 0] 49) := ⟨_, rfl⟩
  rw [← hw1] at h0
  rw [← hw1] at hbel0
  obtain ⟨X1, hX1⟩ : ∃ X : ByteArray, X = ⟨(itoa x).toArray⟩ := ⟨_, rfl⟩
  obtain ⟨X2, hX2⟩ : ∃ X : ByteArray, X = ⟨(itoa n).toArray⟩ := ⟨_, rfl⟩
  have hX1s : X1.size ≤ 21 := by rw [hX1]; exact (Txt.len _).symm ▸ itoa_21 hx
  have hX2s : X2.size ≤ 21 := by rw [hX2]; exact (Txt.len _).symm ▸ itoa_21 (x := (n : Int)) ⟨by omega, by omega⟩
  have hI1 := itoa_any x hx.1 hx.2 (hD.from (Nat.le_refl _) hbel0)
  rw [← hX1] at hI1
  have hI2 := fun (W : World) (k : Below w.heap.size w W) => itoa_any (n : Int) (by omega) (by omega) (hD.from (Nat.le_refl _) k)
  obtain ⟨H, hH⟩ : ∃ H, H = headL x n := ⟨_, rfl⟩
  have hHl : H.length ≤ 50 := by rw [hH]; exact headL_len hx ⟨by omega, by omega⟩
  rw [← hX2] at hI2
  have Hh := Lib.hid h; have Hg := Lib.hid g; have Hn := Lib.hid hn; have Hs := Lib.hid hs; have Hx := Lib.hid hx; have HD := Lib.hid hD; have H0 := Lib.hid h0; have Hbel0 := Lib.hid hbel0; have HI1 := Lib.hid hI1; have HI2 := Lib.hid hI2; have HH := Lib.hid hH; have HHl := Lib.hid hHl; have HX1 := Lib.hid hX1; have HX2 := Lib.hid hX2; clear h g hn hs hx hD h0 hbel0 hI1 hI2 hH hHl hX1 hX2
  go_enter Tryz.func6, Tryz.ntmps6
  go_upto_region 2 with (fail)
  rw [← hw1]
  clear hw1
  go_wp2_with fail
  refine HI1.out.mono ?_
  rintro e w2 ⟨rfl, hb2⟩
  have hbel2 := Hbel0.out.trans (hb2.mono Hbel0.out.size)
  have hB2 := bld_below H0.out hb2
  have hI := HI2.out _ hbel2
  have Hb2 := Lib.hid hb2; have Hbel2 := Lib.hid hbel2; have HB2 := Lib.hid hB2; have HI := Lib.hid hI; clear hb2 hbel2 hB2 hI
  go_wp2_with fail
  refine HI.out.mono ?_
  rintro e w3 ⟨rfl, hb3⟩
  have hbel3 := Hbel2.out.trans (hb3.mono Hbel2.out.size)
  have hB3 := bld_below HB2.out hb3
  obtain ⟨T, hT⟩ : ∃ T : ByteArray, T = ((((⟨#[112, 32, 99, 110, 102, 32]⟩ : ByteArray) ++ X1) ++ ⟨#[32]⟩) ++ X2) ++ ⟨#[10]⟩ := ⟨_, rfl⟩
  have hTd : T.data.toList = H := by rw [hT, HH.out, HX1.out, HX2.out]; simp [cat_data, headL]
  have hTs : T.size ≤ 50 := by rw [← Txt.len, hTd]; exact HHl.out
  have hzb : w.heap.size ≤ w3.heap.size := hbel3.size
  have hS := bld_string hB3 T (by simp; omega) hzb
  rw [hTd, List.nil_append] at hS
  have Hb3 := Lib.hid hb3; have Hbel3 := Lib.hid hbel3; have HB3 := Lib.hid hB3; have HT := Lib.hid hT; have HTd := Lib.hid hTd; have HTs := Lib.hid hTs; have HS := Lib.hid hS; clear hb3 hbel3 hB3 hT hTd hTs hS
  go_wp2_with fail
  rw [← HT.out]
  refine HS.out.mono ?_
  rintro e w4 ⟨rfl, hB4, hb4, _⟩
  have hbel4 := Hbel3.out.trans hb4
  have HB4 := Lib.hid hB4; have Hb4 := Lib.hid hb4; have Hbel4 := Lib.hid hbel4; clear hB4 hb4 hbel4
  go_wp2_with fail
  go_loopw [22] (fun i wr => ∃ k : Nat, k ≤ n ∧ i = .int .i64 k ∧ Bld w.heap.size w.heap.size (H ++ (l.take k).flatMap clauseL) wr ∧ Below w.heap.size w wr) (fun i _ => n - (intOf i).toNat)
  case atStart => exact ⟨0, Nat.zero_le _, rfl, by simpa using HB4.out, Hbel4.out⟩
  case round =>
    obtain ⟨k, hk, rfl, hB, hbel⟩ := hrel
    by_cases hlt : k < n
    · have hkl : k < l.length := by have := Hn.out; omega
      obtain ⟨b, off, u, rfl, d, hu⟩ := Hg.out k hkl
      obtain ⟨c, hc⟩ : ∃ c, c = l[k] := ⟨_, rfl⟩
      rw [← hc] at hu
      have hcm : c ∈ l := by rw [hc]; exact List.getElem_mem hkl
      obtain ⟨a2, cap2, rfl, hz2, g2⟩ := ints_open hu
      obtain ⟨m, hm⟩ : ∃ m, m = c.length := ⟨_, rfl⟩
      rw [← hm] at hz2 d
      have d1 := cell_later hbel d
      obtain ⟨pre, hpre⟩ : ∃ p, p = H ++ (l.take k).flatMap clauseL := ⟨_, rfl⟩
      rw [← hpre] at hB
      have hprel : pre.length ≤ 353000000 := by rw [hpre, List.length_append]; have := Hs.out.take k; have := HHl.out; omega
      have hsucc := clauses_succ hkl
      rw [← hc] at hsucc
      have hcr := (Hs.out.2 c hcm).2
      have hwl := fun j => Hs.out.words hcm j
      have hB0 : Bld w.heap.size w.heap.size (pre ++ wordsL (c.take 0)) wr := by simpa [wordsL] using hB
      have k5 : (0 : Int) ≤ (k : Int) := by omega
      have k6 : (k : Int) < (n : Int) := by omega
      clear d
      have Hu := Lib.hid hu; have Hc := Lib.hid hc; have Hcm := Lib.hid hcm; have Hm := Lib.hid hm; have Hg2 := Lib.hid g2; have HB := Lib.hid hB; have Hpre := Lib.hid hpre; have Hprel := Lib.hid hprel; have Hsucc := Lib.hid hsucc; have Hcr := Lib.hid hcr; have Hwl := Lib.hid hwl; have HB0 := Lib.hid hB0; have Hbel := Lib.hid hbel; clear hu hc hcm hm g2 hB hpre hprel hsucc hcr hwl hB0 hbel
      go_wp2_with fail
      go_loopw [28] (fun i wq => ∃ j : Nat, j ≤ m ∧ i = .int .i64 j ∧ Bld w.heap.size w.heap.size (pre ++ wordsL (c.take j)) wq ∧ Below w.heap.size w wq) (fun i _ => m - (intOf i).toNat)
      case atStart => exact ⟨0, Nat.zero_le _, rfl, HB0.out, Hbel.out⟩
      case round =>
        obtain ⟨j, hj, rfl, hBj, hbelj⟩ := hrel
        by_cases hjm : j < m
        · have hjl : j < c.length := by have := Hm.out; omega
          obtain ⟨b2, off2, rfl, d2, hr2⟩ := Hg2.out j hjl
          obtain ⟨y, hy⟩ : ∃ y, y = c[j] := ⟨_, rfl⟩
          rw [← hy] at d2 hr2
          have d3 := cell_later hbelj d2
          have hyr : InR y := Hcr.out y (by rw [hy]; exact List.getElem_mem hjl)
          obtain ⟨Y, hY⟩ : ∃ Y : ByteArray, Y = ⟨(itoa y).toArray⟩ := ⟨_, rfl⟩
          have hYs : Y.size ≤ 21 := by rw [hY]; exact (Txt.len _).symm ▸ itoa_21 hyr
          have hI := itoa_any y hyr.1 hyr.2 (HD.out.from (Nat.le_refl _) hbelj)
          rw [← hY] at hI
          have hnext := wordsL_succ hjl
          rw [← hy] at hnext
          have k7 : (0 : Int) ≤ (j : Int) := by omega
          have k8 : (j : Int) < (m : Int) := by omega
          clear d2
          have Hy := Lib.hid hy; have Hyr := Lib.hid hyr; have HY := Lib.hid hY; have HI := Lib.hid hI; have Hnext := Lib.hid hnext; have HBj := Lib.hid hBj; have Hbelj := Lib.hid hbelj; have Hr2 := Lib.hid hr2; clear hy hyr hY hI hnext hBj hbelj hr2
          go_wp2_with fail
          refine HI.out.mono ?_
          rintro e w5 ⟨rfl, hb5⟩
          have hbel5 := Hbelj.out.trans (hb5.mono Hbelj.out.size)
          have hB5 := bld_below HBj.out hb5
          obtain ⟨Z, hZ⟩ : ∃ Z : ByteArray, Z = Y ++ ⟨#[32]⟩ := ⟨_, rfl⟩
          have hZd : Z.data.toList = itoa y ++ [32] := by rw [hZ, HY.out]; simp [cat_data]
          have hZs : Z.size ≤ 22 := by rw [hZ, cat_size]; show Y.size + 1 ≤ 22; omega
          have hS := bld_string hB5 Z (by have := Hwl.out j; have := Hprel.out; rw [List.length_append]; omega) hbel5.size
          rw [hZd, List.append_assoc, ← Hnext.out] at hS
          have Hb5 := Lib.hid hb5; have Hbel5 := Lib.hid hbel5; have HB5 := Lib.hid hB5; have HZ := Lib.hid hZ; have HZd := Lib.hid hZd; have HZs := Lib.hid hZs; have HS := Lib.hid hS; clear hb5 hbel5 hB5 hZ hZd hZs hS
          go_wp2_with fail
          rw [← HZ.out]
          refine HS.out.mono ?_
          rintro e w6 ⟨rfl, hB6, hb6, _⟩
          have hbel6 := Hbel5.out.trans hb6
          have HB6 := Lib.hid hB6; have Hb6 := Lib.hid hb6; have Hbel6 := Lib.hid hbel6; clear hB6 hb6 hbel6
          go_wp2_with fail
          go_roundw
          case rel => exact ⟨j + 1, by omega, by go_num, HB6.out, Hbel6.out⟩
          case measure => simp [intOf]; omega
        · obtain rfl : j = m := by omega
          rw [List.take_of_length_le (Nat.le_of_eq Hm.out.symm)] at hBj
          have hS := bld_string hBj ⟨#[48, 10]⟩ (by
            have h1 := Hwl.out j
            rw [List.take_of_length_le (Nat.le_of_eq Hm.out.symm)] at h1
            have := Hprel.out
            show (pre ++ wordsL c).length + 2 ≤ _
            rw [List.length_append]; omega) hbelj.size
          have e2 : (pre ++ wordsL c) ++ (⟨#[48, 10]⟩ : ByteArray).data.toList = H ++ (l.take (k + 1)).flatMap clauseL := by rw [Hsucc.out, Hpre.out]; simp
          rw [e2] at hS
          have HBj := Lib.hid hBj; have Hbelj := Lib.hid hbelj; have HS := Lib.hid hS; clear hBj hbelj hS
          go_wp2_with fail
          refine HS.out.mono ?_
          rintro e w6 ⟨rfl, hB6, hb6, _⟩
          have hbel6 := Hbelj.out.trans hb6
          have HB6 := Lib.hid hB6; have Hb6 := Lib.hid hb6; have Hbel6 := Lib.hid hbel6; clear hB6 hb6 hbel6
          go_wp2_with fail
          go_roundw
          case rel => exact ⟨k + 1, by omega, by go_num, HB6.out, Hbel6.out⟩
          case measure => simp [intOf]; omega
    · obtain rfl : k = n := by omega
      rw [List.take_of_length_le (Nat.le_of_eq Hn.out.symm)] at hB
      have e3 : H ++ l.flatMap clauseL = cnfL x l := by rw [HH.out, Hn.out]; rfl
      rw [e3] at hB
      have hne : cnfL x l ≠ [] := by unfold cnfL headL; simp
      have hDn := bld_done hB hne
      have HB := Lib.hid hB; have Hbel := Lib.hid hbel; have Hne := Lib.hid hne; have HDn := Lib.hid hDn; have He3 := Lib.hid e3; clear hB hbel hne hDn e3
      go_wp2_with fail
      refine HDn.out.mono ?_
      rintro e w5 ⟨rfl, hb5⟩
      have hbel5 := Hbel.out.trans hb5
      have Hb5 := Lib.hid hb5; have Hbel5 := Lib.hid hbel5; clear hb5 hbel5
      go_wp2_with fail
      go_ret
      exact ⟨rfl, Hbel5.out⟩
end Go.Proofs.YtalliggdfoeahaaGreatDoor
