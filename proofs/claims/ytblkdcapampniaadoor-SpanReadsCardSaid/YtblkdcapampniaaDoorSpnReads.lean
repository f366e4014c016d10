/- The walk of cooperlaw02.SpanReads: the law. Condition: the library's variables as they were laid. -/
import Derived.Test.YtblkdcapampniaaDoorSpnRf
set_option linter.unusedVariables false
set_option linter.unusedSimpArgs false
namespace Go.Proofs.YtblkdcapampniaaDoor
open Go.RowKit Go.Lib VerN

theorem rfOk_is (s : ByteArray) : rfOk s = spOk s.data.toList ∧ (spOk s.data.toList = true → rfB s = spV s) := by
  by_cases h : 2 < (cutS 58 s).length
  · have h1 : spOk s.data.toList = false := read_many (by rw [← cutS_len]; exact h)
    refine ⟨by unfold rfOk; rw [if_pos h, h1], fun e => by rw [h1] at e; cases e⟩
  · have h1 := refOk_is s.data.toList (by rw [← cutS_len]; omega)
    refine ⟨by unfold rfOk; rw [if_neg h, h1.1], fun e => ?_⟩
    unfold spV
    rw [if_pos e]
    have h2 := rfB_data s
    rw [h1.2, ← spB_data] at h2
    have h3 := Prod.mk.inj h2
    exact Prod.ext (Txt.ext h3.1) (Txt.ext h3.2)
theorem spV_text (s : ByteArray) (h : spOk s.data.toList = true) : txS (spV s).1 (spV s).2 = s := by
  have h1 : spV s = spB s := by unfold spV; rw [if_pos h]
  refine Txt.ext ?_
  rw [txS_data, h1, spB_data]
  unfold spOk at h
  simp only [Bool.and_eq_true, decide_eq_true_eq] at h
  exact h.2
theorem spV_size (s : ByteArray) : (spV s).1.size ≤ s.size ∧ (spV s).2.size ≤ s.size := by
  have h := cut_small s
  have e : ∀ l : List UInt8, (⟨l.toArray⟩ : ByteArray).size = l.length := fun l => by show l.toArray.size = _; simp
  unfold spV spB
  split
  · split
    · exact ⟨by rw [e]; exact h.1, by rw [e]; exact h.2⟩
    · exact ⟨by rw [e]; exact h.1, by rw [e]; exact h.1⟩
  · exact ⟨Nat.zero_le _, Nat.zero_le _⟩
set_option maxRecDepth 10000 in
set_option maxHeartbeats 2000000 in
theorem spanReads_true (s : ByteArray) {w0 : World} (hD : Doors w0) (hsz : s.size ≤ 9223372036854775807) : Calls Tryd.prog 8 #[.string s] w0 fun e w' => e = .returned (.bool true) ∧ Below w0.heap.size w0 w' := by
  have hw := Below.refl w0.heap.size w0
  have hb0 := Below.refl w0.heap.size w0
  have hF := fun (W : World) (k : Below w0.heap.size w0 W) => fixed02_any (hD.below (below_on hw k))
  by_cases hbig : 3000 < s.size
  · have k1 : decide ((3000 : Int) < (s.size : Int)) = true := by simp; omega
    have Hw := Lib.hid hw; have Hb0 := Lib.hid hb0; have HF := Lib.hid hF; have HD := Lib.hid hD; clear hw hb0 hF hD
    go_enter Tryd.func8, Tryd.ntmps8
    go_wp2_with fail
    refine (HF.out _ Hb0.out).mono ?_
    rintro e w1 ⟨rfl, hs⟩
    have hb1 := Hb0.out.trans (hs.mono Hb0.out.size)
    have Hs := Lib.hid hs; have Hb1 := Lib.hid hb1; clear hs hb1
    go_wp2_with fail
    go_ret
    exact ⟨by first | rfl | simp, below_on Hw.out Hb1.out⟩
  · have k1 : decide ((3000 : Int) < (s.size : Int)) = false := by simp; omega
    have hA := fun (W : World) (k : Below w0.heap.size w0 W) => spanRead_any s (by omega) (hD.below (below_on hw k))
    have hB := fun (W : World) (_ : Below w0.heap.size w0 W) => refRead_any s (by omega) W
    have hrf := rfOk_is s
    have htx := spV_text s
    have hz := spV_size s
    obtain ⟨lo, hlo⟩ : ∃ x, x = (spV s).1 := ⟨_, rfl⟩
    obtain ⟨hi, hhi⟩ : ∃ x, x = (spV s).2 := ⟨_, rfl⟩
    obtain ⟨ok, hok⟩ : ∃ x, x = spOk s.data.toList := ⟨_, rfl⟩
    have hvv : spV s = (lo, hi) := by rw [hlo, hhi]
    rw [← hok, hvv] at hrf
    rw [← hlo, ← hhi] at hz
    rw [← hok, ← hlo, ← hhi] at htx
    unfold refReadPost at hB
    rw [hrf.1] at hB
    have hrb := hrf.2
    simp only [← hok, ← hlo, ← hhi] at hA
    have hno : ok = false → lo = ⟨#[]⟩ ∧ hi = ⟨#[]⟩ := fun h => by
      have e : spV s = (⟨#[]⟩, ⟨#[]⟩) := by unfold spV; rw [← hok, h]; rfl
      rw [hvv] at e
      exact Prod.mk.inj e
    have hT := fun (W : World) (k : Below w0.heap.size w0 W) => spanText_any lo hi (by omega) (by omega) (hD.below (below_on hw k))
    clear hrf hvv hlo hhi hok
    cases ok with
    | false =>
      obtain ⟨rfl, rfl⟩ := hno rfl
      have hq := spn_eqs ⟨#[]⟩ ⟨#[]⟩ ⟨#[]⟩ ⟨#[]⟩
      clear htx hrb hno hT
      have Hw := Lib.hid hw; have Hb0 := Lib.hid hb0; have HF := Lib.hid hF; have HD := Lib.hid hD; have HA := Lib.hid hA; have HB := Lib.hid hB; have Hz := Lib.hid hz; clear hw hb0 hF hD hA hB hz
      go_enter Tryd.func8, Tryd.ntmps8
      go_wp2_with fail
      refine (HA.out _ Hb0.out).mono ?_
      rintro e w1 ⟨rfl, hs⟩
      have hb1 := Hb0.out.trans (hs.mono Hb0.out.size)
      have Hs := Lib.hid hs; have Hb1 := Lib.hid hb1; clear hs hb1
      go_upto_region 4 with (fail)
      obtain ⟨w2, hv⟩ : ∃ W, W = w1.alloc (.cells #[.string ⟨#[]⟩, .string ⟨#[]⟩] 33) := ⟨_, rfl⟩
      obtain ⟨ga, hg⟩ : ∃ g, g = w1.heap.size := ⟨_, rfl⟩
      have hs : Below w1.heap.size w1 w2 := by rw [hv]; exact below_alloc1 _ _
      have hb2 := Hb1.out.trans (hs.mono Hb1.out.size)
      have hgea : w0.heap.size ≤ ga := by rw [hg]; exact Hb1.out.size
      have ha : w2.heap[ga]? = some (.cells #[.string ⟨#[]⟩, .string ⟨#[]⟩] 33 (0, 0)) := by rw [hv, hg]; exact heap_alloc_new _ _
      obtain ⟨a0, a1, a2, a3⟩ := pair_cells ha
      rw [← hv, ← hg]
      clear hv hg
      have Hs := Lib.hid hs; have Hb2 := Lib.hid hb2; have Hgea := Lib.hid hgea; have Ha := Lib.hid ha; clear hs hb2 hgea ha
      go_wp2_with fail
      refine (HB.out _ Hb2.out).mono ?_
      rintro e w3 ⟨x, y, rfl, hxy, hs⟩
      clear hxy
      have hb3 := Hb2.out.trans (hs.mono Hb2.out.size)
      have ha := heap_below hs Ha.out
      clear Ha a0 a1 a2 a3
      obtain ⟨a0, a1, a2, a3⟩ := pair_cells ha
      have Hs := Lib.hid hs; have Hb3 := Lib.hid hb3; have Ha := Lib.hid ha; clear hs hb3 ha
      go_upto_region 5 with (fail)
      obtain ⟨w4, hv⟩ : ∃ W, W = w3.alloc (.cells #[.string x, .string y] 33) := ⟨_, rfl⟩
      obtain ⟨gb, hg⟩ : ∃ g, g = w3.heap.size := ⟨_, rfl⟩
      have hs : Below w3.heap.size w3 w4 := by rw [hv]; exact below_alloc1 _ _
      have hb4 := Hb3.out.trans (hs.mono Hb3.out.size)
      have hgeb : w0.heap.size ≤ gb := by rw [hg]; exact Hb3.out.size
      have hneab : ga ≠ gb := by have := (Array.getElem?_eq_some_iff.1 Ha.out).1; omega
      have ha := heap_below hs Ha.out
      clear Ha a0 a1 a2 a3
      obtain ⟨a0, a1, a2, a3⟩ := pair_cells ha
      have hb : w4.heap[gb]? = some (.cells #[.string x, .string y] 33 (0, 0)) := by rw [hv, hg]; exact heap_alloc_new _ _
      obtain ⟨b0, b1, b2, b3⟩ := pair_cells hb
      rw [← hv, ← hg]
      clear hv hg
      have Hs := Lib.hid hs; have Hb4 := Lib.hid hb4; have Hgeb := Lib.hid hgeb; have Ha := Lib.hid ha; have Hb := Lib.hid hb; have Hneab := Lib.hid hneab; clear hs hb4 hgeb ha hb hneab
      go_wp2_with fail
      refine (HF.out _ Hb4.out).mono ?_
      rintro e w5 ⟨rfl, hs⟩
      have hb5 := Hb4.out.trans (hs.mono Hb4.out.size)
      have ha := heap_below hs Ha.out
      clear Ha a0 a1 a2 a3
      obtain ⟨a0, a1, a2, a3⟩ := pair_cells ha
      have hb := heap_below hs Hb.out
      clear Hb b0 b1 b2 b3
      obtain ⟨b0, b1, b2, b3⟩ := pair_cells hb
      have Hs := Lib.hid hs; have Hb5 := Lib.hid hb5; have Ha := Lib.hid ha; have Hb := Lib.hid hb; clear hs hb5 ha hb
      go_wp2_with fail
      go_ret
      exact ⟨by first | rfl | simp, below_on Hw.out Hb5.out⟩
    | true =>
      have htx := htx rfl
      have hrb := hrb rfl
      rw [htx] at hT
      have hq := spn_eqs lo hi lo hi
      clear hno htx
      have Hw := Lib.hid hw; have Hb0 := Lib.hid hb0; have HF := Lib.hid hF; have HD := Lib.hid hD; have HA := Lib.hid hA; have HB := Lib.hid hB; have Hz := Lib.hid hz; have Hrb := Lib.hid hrb; have HT := Lib.hid hT; clear hw hb0 hF hD hA hB hz hrb hT
      go_enter Tryd.func8, Tryd.ntmps8
      go_wp2_with fail
      refine (HA.out _ Hb0.out).mono ?_
      rintro e w1 ⟨rfl, hs⟩
      have hb1 := Hb0.out.trans (hs.mono Hb0.out.size)
      have Hs := Lib.hid hs; have Hb1 := Lib.hid hb1; clear hs hb1
      go_upto_region 4 with (fail)
      obtain ⟨w2, hv⟩ : ∃ W, W = w1.alloc (.cells #[.string lo, .string hi] 33) := ⟨_, rfl⟩
      obtain ⟨ga, hg⟩ : ∃ g, g = w1.heap.size := ⟨_, rfl⟩
      have hs : Below w1.heap.size w1 w2 := by rw [hv]; exact below_alloc1 _ _
      have hb2 := Hb1.out.trans (hs.mono Hb1.out.size)
      have hgea : w0.heap.size ≤ ga := by rw [hg]; exact Hb1.out.size
      have ha : w2.heap[ga]? = some (.cells #[.string lo, .string hi] 33 (0, 0)) := by rw [hv, hg]; exact heap_alloc_new _ _
      obtain ⟨a0, a1, a2, a3⟩ := pair_cells ha
      rw [← hv, ← hg]
      clear hv hg
      have Hs := Lib.hid hs; have Hb2 := Lib.hid hb2; have Hgea := Lib.hid hgea; have Ha := Lib.hid ha; clear hs hb2 hgea ha
      go_wp2_with fail
      refine (HB.out _ Hb2.out).mono ?_
      rintro e w3 ⟨x, y, rfl, hxy, hs⟩
      have hxy := hxy (by first | rfl | trivial)
      rw [Hrb.out] at hxy
      obtain ⟨rfl, rfl⟩ := Prod.mk.inj hxy
      clear hxy
      have hb3 := Hb2.out.trans (hs.mono Hb2.out.size)
      have ha := heap_below hs Ha.out
      clear Ha a0 a1 a2 a3
      obtain ⟨a0, a1, a2, a3⟩ := pair_cells ha
      have Hs := Lib.hid hs; have Hb3 := Lib.hid hb3; have Ha := Lib.hid ha; clear hs hb3 ha
      go_upto_region 5 with (fail)
      obtain ⟨w4, hv⟩ : ∃ W, W = w3.alloc (.cells #[.string x, .string y] 33) := ⟨_, rfl⟩
      obtain ⟨gb, hg⟩ : ∃ g, g = w3.heap.size := ⟨_, rfl⟩
      have hs : Below w3.heap.size w3 w4 := by rw [hv]; exact below_alloc1 _ _
      have hb4 := Hb3.out.trans (hs.mono Hb3.out.size)
      have hgeb : w0.heap.size ≤ gb := by rw [hg]; exact Hb3.out.size
      have hneab : ga ≠ gb := by have := (Array.getElem?_eq_some_iff.1 Ha.out).1; omega
      have ha := heap_below hs Ha.out
      clear Ha a0 a1 a2 a3
      obtain ⟨a0, a1, a2, a3⟩ := pair_cells ha
      have hb : w4.heap[gb]? = some (.cells #[.string x, .string y] 33 (0, 0)) := by rw [hv, hg]; exact heap_alloc_new _ _
      obtain ⟨b0, b1, b2, b3⟩ := pair_cells hb
      rw [← hv, ← hg]
      clear hv hg
      have Hs := Lib.hid hs; have Hb4 := Lib.hid hb4; have Hgeb := Lib.hid hgeb; have Ha := Lib.hid ha; have Hb := Lib.hid hb; have Hneab := Lib.hid hneab; clear hs hb4 hgeb ha hb hneab
      go_wp2_with fail
      refine (HF.out _ Hb4.out).mono ?_
      rintro e w5 ⟨rfl, hs⟩
      have hb5 := Hb4.out.trans (hs.mono Hb4.out.size)
      have ha := heap_below hs Ha.out
      clear Ha a0 a1 a2 a3
      obtain ⟨a0, a1, a2, a3⟩ := pair_cells ha
      have hb := heap_below hs Hb.out
      clear Hb b0 b1 b2 b3
      obtain ⟨b0, b1, b2, b3⟩ := pair_cells hb
      have Hs := Lib.hid hs; have Hb5 := Lib.hid hb5; have Ha := Lib.hid ha; have Hb := Lib.hid hb; clear hs hb5 ha hb
      go_wp2_with fail
      refine (HT.out _ Hb5.out).mono ?_
      rintro e w6 ⟨rfl, hs⟩
      have hb6 := Hb5.out.trans (hs.mono Hb5.out.size)
      have ha := heap_below hs Ha.out
      clear Ha a0 a1 a2 a3
      obtain ⟨a0, a1, a2, a3⟩ := pair_cells ha
      have hb := heap_below hs Hb.out
      clear Hb b0 b1 b2 b3
      obtain ⟨b0, b1, b2, b3⟩ := pair_cells hb
      have Hs := Lib.hid hs; have Hb6 := Lib.hid hb6; have Ha := Lib.hid ha; have Hb := Lib.hid hb; clear hs hb6 ha hb
      go_wp2_with fail
      go_ret
      exact ⟨by first | rfl | simp, below_on Hw.out Hb6.out⟩
end Go.Proofs.YtblkdcapampniaaDoor
