/- The walk of cooperlaw01.VersionMay: the law. Condition: the library's variables as they were laid. -/
import Derived.Test.YtblkdcapampniaaDoorVerM
import Derived.Test.YtblkdcapampniaaDoorSpnB
set_option linter.unusedVariables false
set_option linter.unusedSimpArgs false
namespace Go.Proofs.YtblkdcapampniaaDoor
open Go.RowKit Go.Lib VerN

set_option maxRecDepth 10000 in
set_option maxHeartbeats 2000000 in
theorem versionMay_true (s : ByteArray) {w0 : World} (hD : Doors w0) (hsz : s.size ≤ 9223372036854775807) : Calls Tryd.prog 12 #[.string s] w0 fun e w' => e = .returned (.bool true) ∧ Below w0.heap.size w0 w' := by
  have hw := Below.refl w0.heap.size w0
  have hb0 := Below.refl w0.heap.size w0
  have hF := fun (W : World) (k : Below w0.heap.size w0 W) => fixed01_any (hD.below (below_on hw k))
  by_cases hbig : 3000 < s.size
  · have k1 : decide ((3000 : Int) < (s.size : Int)) = true := by simp; omega
    have Hw := Lib.hid hw; have Hb0 := Lib.hid hb0; have HF := Lib.hid hF; have HD := Lib.hid hD; clear hw hb0 hF hD
    go_enter Tryd.func12, Tryd.ntmps12
    go_wp2_with fail
    refine (HF.out _ Hb0.out).mono ?_
    rintro e w1 ⟨rfl, hs⟩
    have hb1 := Hb0.out.trans (hs.mono Hb0.out.size)
    have Hs := Lib.hid hs; have Hb1 := Lib.hid hb1; clear hs hb1
    go_wp2_with fail
    go_ret
    exact ⟨by first | rfl | simp, below_on Hw.out Hb1.out⟩
  · have k1 : decide ((3000 : Int) < (s.size : Int)) = false := by simp; omega
    have hA := fun (W : World) (k : Below w0.heap.size w0 W) => verParts_any s (by omega) (hD.below (below_on hw k))
    have hM := fun (W : World) (k : Below w0.heap.size w0 W) => verMay_any s (by omega) (hD.below (below_on hw k))
    have hN := fun (W : World) (_ : Below w0.heap.size w0 W) => may1_any s (by omega) W
    have hC := fun (W : World) (_ : Below w0.heap.size w0 W) => cut1_any s (by omega) 46 (by omega) W
    simp only [show UInt8.ofNat 46 = (46 : UInt8) from rfl] at hC
    unfold partsOut at hA
    have hps : ∀ x ∈ cutS 46 s, x.size ≤ maxLen := fun x hx => by have := cutS_piece hx; unfold maxLen; omega
    obtain ⟨p, hp⟩ : ∃ x, x = mayL s.data.toList := ⟨_, rfl⟩
    obtain ⟨ps, hpp⟩ : ∃ x, x = cutS 46 s := ⟨_, rfl⟩
    simp only [← hp, ← hpp] at hA hM hN hC hps
    clear hp hpp
    have Hw := Lib.hid hw; have Hb0 := Lib.hid hb0; have HF := Lib.hid hF; have HD := Lib.hid hD; have HA := Lib.hid hA; have HM := Lib.hid hM; have HN := Lib.hid hN; have HC := Lib.hid hC; have Hps := Lib.hid hps; clear hw hb0 hF hD hA hM hN hC hps
    go_enter Tryd.func12, Tryd.ntmps12
    go_wp2_with fail
    refine (HA.out _ Hb0.out).mono ?_
    rintro e w1 ⟨v, rfl, hno, hyes, hb1⟩
    cases p with
    | false =>
      obtain rfl := hno rfl
      clear hno hyes
      have Hb1 := Lib.hid hb1; clear hb1
      go_wp2_with fail
      refine (HM.out _ Hb1.out).mono ?_
      rintro e w2 ⟨rfl, hs⟩
      have hb2 := Hb1.out.trans (hs.mono Hb1.out.size)
      have Hs := Lib.hid hs; have Hb2 := Lib.hid hb2; clear hs hb2
      go_wp2_with fail
      refine (HN.out _ Hb2.out).mono ?_
      rintro e w3 ⟨rfl, hs⟩
      have hb3 := Hb2.out.trans (hs.mono Hb2.out.size)
      have Hs := Lib.hid hs; have Hb3 := Lib.hid hb3; clear hs hb3
      go_wp2_with fail
      refine (HN.out _ Hb3.out).mono ?_
      rintro e w4 ⟨rfl, hs⟩
      have hb4 := Hb3.out.trans (hs.mono Hb3.out.size)
      have Hs := Lib.hid hs; have Hb4 := Lib.hid hb4; clear hs hb4
      go_wp2_with fail
      refine (HF.out _ Hb4.out).mono ?_
      rintro e w5 ⟨rfl, hs⟩
      have hb5 := Hb4.out.trans (hs.mono Hb4.out.size)
      have Hs := Lib.hid hs; have Hb5 := Lib.hid hb5; clear hs hb5
      go_wp2_with fail
      go_ret
      exact ⟨by first | rfl | simp, below_on Hw.out Hb5.out⟩
    | true =>
      have hrd := hyes rfl
      clear hno hyes
      obtain ⟨a, cap, rfl, _, _⟩ := txts_open hrd
      have Hb1 := Lib.hid hb1; have Hrd := Lib.hid hrd; clear hb1 hrd
      go_wp2_with fail
      refine (HM.out _ Hb1.out).mono ?_
      rintro e w2 ⟨rfl, hs⟩
      have hb2 := Hb1.out.trans (hs.mono Hb1.out.size)
      have hrd := stays_texts Hrd.out hs
      clear Hrd
      have Hs := Lib.hid hs; have Hb2 := Lib.hid hb2; have Hrd := Lib.hid hrd; clear hs hb2 hrd
      go_wp2_with fail
      refine (HN.out _ Hb2.out).mono ?_
      rintro e w3 ⟨rfl, hs⟩
      have hb3 := Hb2.out.trans (hs.mono Hb2.out.size)
      have hrd := stays_texts Hrd.out hs
      clear Hrd
      have Hs := Lib.hid hs; have Hb3 := Lib.hid hb3; have Hrd := Lib.hid hrd; clear hs hb3 hrd
      go_wp2_with fail
      refine (HN.out _ Hb3.out).mono ?_
      rintro e w4 ⟨rfl, hs⟩
      have hb4 := Hb3.out.trans (hs.mono Hb3.out.size)
      have hrd := stays_texts Hrd.out hs
      clear Hrd
      have Hs := Lib.hid hs; have Hb4 := Lib.hid hb4; have Hrd := Lib.hid hrd; clear hs hb4 hrd
      go_wp2_with fail
      refine (HF.out _ Hb4.out).mono ?_
      rintro e w5 ⟨rfl, hs⟩
      have hb5 := Hb4.out.trans (hs.mono Hb4.out.size)
      have hrd := stays_texts Hrd.out hs
      clear Hrd
      have Hs := Lib.hid hs; have Hb5 := Lib.hid hb5; have Hrd := Lib.hid hrd; clear hs hb5 hrd
      go_wp2_with fail
      refine (HC.out _ Hb5.out).mono ?_
      rintro e w9 ⟨u, rfl, hown, hs⟩
      have hr2 := own_texts hown Hps.out
      have hb9 := Hb5.out.trans (hs.mono Hb5.out.size)
      have hr1 := stays_texts Hrd.out hs
      obtain ⟨a2, cap2, rfl, _, _⟩ := txts_open hr2
      have hE := same1_any hr1 hr2
      rw [decide_eq_true rfl] at hE
      have Hr1 := Lib.hid hr1; have Hr2 := Lib.hid hr2; have Hb9 := Lib.hid hb9; have HE := Lib.hid hE; have Hown := Lib.hid hown; have Hs := Lib.hid hs; clear hr1 hr2 hb9 hE hown hs
      go_wp2_with fail
      refine HE.out.mono ?_
      rintro e w10 ⟨rfl, q, rfl⟩
      go_wp2_with fail
      go_ret
      exact ⟨by first | rfl | simp, below_on Hw.out (bel_drewN Hb9.out q)⟩
end Go.Proofs.YtblkdcapampniaaDoor
