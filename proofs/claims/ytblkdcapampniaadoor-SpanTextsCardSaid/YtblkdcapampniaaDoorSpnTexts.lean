/- The walk of cooperlaw02.SpanTexts: the law. Condition: the library's variables as they were laid. -/
import Derived.Test.YtblkdcapampniaaDoorSpnK
set_option linter.unusedVariables false
set_option linter.unusedSimpArgs false
namespace Go.Proofs.YtblkdcapampniaaDoor
open Go.RowKit Go.Lib VerN

set_option maxRecDepth 10000 in
set_option maxHeartbeats 2000000 in
theorem spanTexts_true (lo hi : ByteArray) {w : World} (hD : Doors w) : Calls Tryd.prog 7 #[.agg #[.string lo, .string hi]] w fun e w' => e = .returned (.bool true) ∧ Below w.heap.size w w' := by
  obtain ⟨w0, hW0⟩ : ∃ W0, W0 = w.alloc (.cells #[.string lo, .string hi] 33) := ⟨_, rfl⟩
  obtain ⟨nb, hnb⟩ : ∃ nb, nb = w.heap.size := ⟨_, rfl⟩
  have hw : Below w.heap.size w w0 := by rw [hW0]; exact below_alloc1 _ _
  have hb0 : Below w0.heap.size w0 w0 := Below.refl _ _
  have ha : w0.heap[nb]? = some (.cells #[.string lo, .string hi] 33 (0, 0)) := by rw [hW0, hnb]; exact pbox1_0 _ _ _
  obtain ⟨a0, a1, a2, a3⟩ := pair_cells ha
  have hG := fun (W : World) (k : Below w0.heap.size w0 W) => great2_any lo hi W
  have hF := fun (W : World) (k : Below w0.heap.size w0 W) => fixed02_any (hD.below (below_on hw k))
  obtain ⟨gr, hgr⟩ : ∃ x, x = (decide (3000 < lo.size) || decide (3000 < hi.size)) := ⟨_, rfl⟩
  rw [← hgr] at hG
  have HG := Lib.hid hG; have HF := Lib.hid hF; have Hw := Lib.hid hw; have Hb0 := Lib.hid hb0; have Hgr := Lib.hid hgr; have HD := Lib.hid hD; have Ha := Lib.hid ha; clear hG hF hw hb0 hgr hD ha
  go_enter Tryd.func7, Tryd.ntmps7
  go_upto_region 1 with (fail)
  rw [← hW0, ← hnb]
  clear hW0 hnb
  go_wp2_with fail
  refine (HG.out _ Hb0.out).mono ?_
  rintro e w1 ⟨rfl, hs⟩
  have hb1 := Hb0.out.trans (hs.mono Hb0.out.size)
  have ha := heap_below hs Ha.out
  clear Ha a0 a1 a2 a3
  obtain ⟨a0, a1, a2, a3⟩ := pair_cells ha
  have Hs := Lib.hid hs; have Hb1 := Lib.hid hb1; have Ha := Lib.hid ha; clear hs hb1 ha
  cases gr with
  | false =>
    have hz : lo.size ≤ 3000 ∧ hi.size ≤ 3000 := by
      have := Hgr.out
      have h1 := Bool.or_eq_false_iff.1 this.symm
      exact ⟨by simpa using h1.1, by simpa using h1.2⟩
    have hl : lo.size ≤ 1000000 := by omega
    have hh : hi.size ≤ 1000000 := by omega
    have hz1 := txR_size lo hi
    have hT := fun (W : World) (k : Below w0.heap.size w0 W) => spanText_any lo hi hl hh (HD.out.below (below_on Hw.out k))
    have hU := fun (W : World) (_ : Below w0.heap.size w0 W) => refText_any lo hi hl hh W
    have hM := fun (W : World) (_ : Below w0.heap.size w0 W) => refMay2_any lo hi hl hh W
    obtain ⟨p, hp⟩ : ∃ x, x = mayS (lo.data.toList, hi.data.toList) := ⟨_, rfl⟩
    obtain ⟨tx, htx⟩ : ∃ x, x = txS lo hi := ⟨_, rfl⟩
    rw [← hp] at hM
    rw [← htx] at hT
    have hno : p = false → tx.toList.isEmpty = true := fun h => by
      rw [Txt.no_dec, htx]
      unfold txS
      rw [← hp, h]
      rfl
    have hyes : p = true → txR lo hi = tx ∧ spV tx = (lo, hi) ∧ spOk tx.data.toList = true ∧ tx.size ≤ 100000 := fun h => by
      have h1 : txR lo hi = tx := by rw [htx]; unfold txS; rw [← hp, h]; rfl
      have h2 := read_text (s := (lo.data.toList, hi.data.toList)) (by rw [← hp, h])
      rw [← txS_data, ← htx] at h2
      refine ⟨h1, ?_, h2.2, by rw [← h1]; omega⟩
      unfold spV
      rw [if_pos h2.2]
      have h3 := spB_data tx
      rw [h2.1] at h3
      have h4 := Prod.mk.inj h3
      exact Prod.ext (Txt.ext h4.1) (Txt.ext h4.2)
    clear hp htx
    have HT := Lib.hid hT; have HU := Lib.hid hU; have HM := Lib.hid hM; have Hno := Lib.hid hno; have Hyes := Lib.hid hyes; have Hz := Lib.hid hz; have Hz1 := Lib.hid hz1; clear hT hU hM hno hyes hz hz1
    go_wp2_with fail
    refine (HT.out _ Hb1.out).mono ?_
    rintro e w2 ⟨rfl, hs⟩
    have hb2 := Hb1.out.trans (hs.mono Hb1.out.size)
    have ha := heap_below hs Ha.out
    clear Ha a0 a1 a2 a3
    obtain ⟨a0, a1, a2, a3⟩ := pair_cells ha
    have Hs := Lib.hid hs; have Hb2 := Lib.hid hb2; have Ha := Lib.hid ha; clear hs hb2 ha
    go_wp2_with fail
    refine (HM.out _ Hb2.out).mono ?_
    rintro e w3 ⟨rfl, hs⟩
    have hb3 := Hb2.out.trans (hs.mono Hb2.out.size)
    have ha := heap_below hs Ha.out
    clear Ha a0 a1 a2 a3
    obtain ⟨a0, a1, a2, a3⟩ := pair_cells ha
    have Hs := Lib.hid hs; have Hb3 := Lib.hid hb3; have Ha := Lib.hid ha; clear hs hb3 ha
    cases p with
    | false =>
      have k1 := Hno.out rfl
      go_wp2_with fail
      refine (HF.out _ Hb3.out).mono ?_
      rintro e w4 ⟨rfl, hs⟩
      have hb4 := Hb3.out.trans (hs.mono Hb3.out.size)
      have ha := heap_below hs Ha.out
      clear Ha a0 a1 a2 a3
      obtain ⟨a0, a1, a2, a3⟩ := pair_cells ha
      have Hs := Lib.hid hs; have Hb4 := Lib.hid hb4; have Ha := Lib.hid ha; clear hs hb4 ha
      go_wp2_with fail
      go_ret
      exact ⟨by first | rfl | simp, below_on Hw.out Hb4.out⟩
    | true =>
      obtain ⟨he1, he2, he3, he4⟩ := Hyes.out rfl
      have hR := fun (W : World) (k : Below w0.heap.size w0 W) => spanRead_any tx he4 (HD.out.below (below_on Hw.out k))
      have hU2 := HU.out
      simp only [he2, he3] at hR
      simp only [he1] at hU2
      have hq := spn_eqs lo hi lo hi
      clear he1 he2 he3
      have HR := Lib.hid hR; have HU2 := Lib.hid hU2; clear hR hU2
      go_wp2_with fail
      refine (HR.out _ Hb3.out).mono ?_
      rintro e w4 ⟨rfl, hs⟩
      have hb4 := Hb3.out.trans (hs.mono Hb3.out.size)
      have ha := heap_below hs Ha.out
      clear Ha a0 a1 a2 a3
      obtain ⟨a0, a1, a2, a3⟩ := pair_cells ha
      have Hs := Lib.hid hs; have Hb4 := Lib.hid hb4; have Ha := Lib.hid ha; clear hs hb4 ha
      go_upto_region 7 with (fail)
      obtain ⟨w5, hv⟩ : ∃ W, W = w4.alloc (.cells #[.string lo, .string hi] 33) := ⟨_, rfl⟩
      obtain ⟨gb, hg⟩ : ∃ g, g = w4.heap.size := ⟨_, rfl⟩
      have hs : Below w4.heap.size w4 w5 := by rw [hv]; exact below_alloc1 _ _
      have hb5 := Hb4.out.trans (hs.mono Hb4.out.size)
      have hgeb : w0.heap.size ≤ gb := by rw [hg]; exact Hb4.out.size
      have hneab : nb ≠ gb := by have := (Array.getElem?_eq_some_iff.1 Ha.out).1; omega
      have ha := heap_below hs Ha.out
      clear Ha a0 a1 a2 a3
      obtain ⟨a0, a1, a2, a3⟩ := pair_cells ha
      have hb : w5.heap[gb]? = some (.cells #[.string lo, .string hi] 33 (0, 0)) := by rw [hv, hg]; exact heap_alloc_new _ _
      obtain ⟨b0, b1, b2, b3⟩ := pair_cells hb
      rw [← hv, ← hg]
      clear hv hg
      have Hs := Lib.hid hs; have Hb5 := Lib.hid hb5; have Hgeb := Lib.hid hgeb; have Ha := Lib.hid ha; have Hb := Lib.hid hb; have Hneab := Lib.hid hneab; clear hs hb5 hgeb ha hb hneab
      go_wp2_with fail
      refine (HF.out _ Hb5.out).mono ?_
      rintro e w6 ⟨rfl, hs⟩
      have hb6 := Hb5.out.trans (hs.mono Hb5.out.size)
      have ha := heap_below hs Ha.out
      clear Ha a0 a1 a2 a3
      obtain ⟨a0, a1, a2, a3⟩ := pair_cells ha
      have hb := heap_below hs Hb.out
      clear Hb b0 b1 b2 b3
      obtain ⟨b0, b1, b2, b3⟩ := pair_cells hb
      have Hs := Lib.hid hs; have Hb6 := Lib.hid hb6; have Ha := Lib.hid ha; have Hb := Lib.hid hb; clear hs hb6 ha hb
      go_wp2_with fail
      refine (HU2.out _ Hb6.out).mono ?_
      rintro e w7 ⟨rfl, hs⟩
      have hb7 := Hb6.out.trans (hs.mono Hb6.out.size)
      have ha := heap_below hs Ha.out
      clear Ha a0 a1 a2 a3
      obtain ⟨a0, a1, a2, a3⟩ := pair_cells ha
      have hb := heap_below hs Hb.out
      clear Hb b0 b1 b2 b3
      obtain ⟨b0, b1, b2, b3⟩ := pair_cells hb
      have Hs := Lib.hid hs; have Hb7 := Lib.hid hb7; have Ha := Lib.hid ha; have Hb := Lib.hid hb; clear hs hb7 ha hb
      go_wp2_with fail
      go_ret
      exact ⟨by first | rfl | simp, below_on Hw.out Hb7.out⟩
  | true =>
    go_wp2_with fail
    refine (HF.out _ Hb1.out).mono ?_
    rintro e w2 ⟨rfl, hs⟩
    have hb2 := Hb1.out.trans (hs.mono Hb1.out.size)
    have ha := heap_below hs Ha.out
    clear Ha a0 a1 a2 a3
    obtain ⟨a0, a1, a2, a3⟩ := pair_cells ha
    have Hs := Lib.hid hs; have Hb2 := Lib.hid hb2; have Ha := Lib.hid ha; clear hs hb2 ha
    go_wp2_with fail
    go_ret
    exact ⟨by first | rfl | simp, below_on Hw.out Hb2.out⟩
end Go.Proofs.YtblkdcapampniaaDoor
