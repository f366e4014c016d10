/- The walk of cooperlaw12.CnfReads: the law. Condition: the library's variables as they were laid, and the text's reach. -/
import Derived.Test.YtalliggdfoeahaaGreatDoorCrdR
import Derived.Test.YtalliggdfoeahaaGreatDoorCnfC
set_option linter.unusedVariables false
set_option linter.unusedSimpArgs false
namespace Go.Proofs.YtalliggdfoeahaaGreatDoor
open Go.RowKit Go.Lib Go.Sort VerN
open CnfM (InR)

set_option maxRecDepth 10000 in
set_option maxHeartbeats 1000000 in
theorem cnfReads_true (s : ByteArray) (hz : s.size ≤ 9223372036854775807) {w : World} (hD : Doors w) : Calls Tryz.prog 3 #[.string s] w fun e w' => e = .returned (.bool true) ∧ Below w.heap.size w w' := by
  by_cases hbig : 3000 < s.size
  · have k1 : decide ((3000 : Int) < (s.size : Int)) = true := by simp; omega
    have hF := fixed12 w
    have HF := Lib.hid hF; have HD := Lib.hid hD; clear hF hD
    go_enter Tryz.func3, Tryz.ntmps3
    go_wp2_with fail
    refine HF.out.mono ?_
    rintro e w1 ⟨rfl, hb1⟩
    have Hb1 := Lib.hid hb1; clear hb1
    go_wp2_with fail
    go_ret
    exact ⟨rfl, Hb1.out⟩
  · have k1 : decide ((3000 : Int) < (s.size : Int)) = false := by simp; omega
    have hR := cnfRead_any s (by omega) hD
    unfold ReadPost at hR
    have HR := Lib.hid hR; have HD := Lib.hid hD; clear hR hD
    go_enter Tryz.func3, Tryz.ntmps3
    go_wp2_with fail
    refine HR.out.mono ?_
    rintro e w1 ⟨rfl | ⟨x, v, L, rfl, hx, hsm, hri, htx, hat⟩, hb1⟩
    · have hF := fixed12 w1
      have HF := Lib.hid hF; have Hb1 := Lib.hid hb1; clear hF hb1
      go_wp2_with fail
      refine HF.out.mono ?_
      rintro e w2 ⟨rfl, hb2⟩
      have Hb2 := Lib.hid hb2; clear hb2
      go_wp2_with fail
      go_ret
      exact ⟨rfl, Hb1.out.trans (Hb2.out.mono Hb1.out.size)⟩
    · obtain ⟨a, cap, rfl, hzl, _⟩ := rows_open hri
      have hF := fixed12 w1
      have hT := fun (W : World) (h : Below w1.heap.size w1 W) => cnfText_any (stays_slice (stays_slice (stays_int .i64)) _ _ _ _ hri h) hsm x hx (HD.out.below (hb1.trans (h.mono hb1.size)))
      have hA := fun (W : World) (h : Below w1.heap.size w1 W) => atoms_any (stays_slice (stays_slice (stays_int .i64)) _ _ _ _ hri h)
      obtain ⟨at_, hat_⟩ : ∃ z, z = atomsOf 0 L := ⟨_, rfl⟩
      rw [← hat_] at hat hA
      have ht : (⟨(cnfL x L).toArray⟩ : ByteArray) = s := Txt.ext htx
      rw [ht] at hT
      have k2 : (s.toList == s.toList) = true := by simp
      have k3 : decide (at_ ≤ x) = true := decide_eq_true hat
      obtain ⟨n, hn⟩ : ∃ n, n = L.length := ⟨_, rfl⟩
      rw [← hn] at hT hA ⊢
      have HF := Lib.hid hF; have HT := Lib.hid hT; have HA := Lib.hid hA; have Hb1 := Lib.hid hb1; have Hx := Lib.hid hx; have Hsm := Lib.hid hsm; have Hri := Lib.hid hri; have Htx := Lib.hid htx; have Hat_ := Lib.hid hat_; have Ht := Lib.hid ht; have Hn := Lib.hid hn; clear hF hT hA hb1 hx hsm hri htx hat_ ht hn
      go_wp2_with fail
      refine HF.out.mono ?_
      rintro e w2 ⟨rfl, hb2⟩
      have hT2 := HT.out w2 hb2
      have Hb2 := Lib.hid hb2; have HT2 := Lib.hid hT2; clear hb2 hT2
      go_wp2_with fail
      refine HT2.out.mono ?_
      rintro e w3 ⟨rfl, hb3⟩
      have hb23 := Hb2.out.trans (hb3.mono Hb2.out.size)
      have hA3 := HA.out w3 hb23
      have Hb3 := Lib.hid hb3; have Hb23 := Lib.hid hb23; have HA3 := Lib.hid hA3; clear hb3 hb23 hA3
      go_wp2_with fail
      refine HA3.out.mono ?_
      rintro e w4 ⟨rfl, rfl⟩
      go_wp2_with fail
      go_ret
      exact ⟨rfl, Hb1.out.trans (Hb23.out.mono Hb1.out.size)⟩
end Go.Proofs.YtalliggdfoeahaaGreatDoor
