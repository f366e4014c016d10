/- The walk of the document's Meet of spans. Condition: texts of at most a million bytes. -/
import Derived.Test.YtblkdcapampniaaDoorSpnMt
set_option linter.unusedVariables false
namespace Go.Proofs.YtblkdcapampniaaDoor
open Go.RowKit Go.Lib VerN

set_option linter.unusedSimpArgs false
theorem refMt_val (lo hi lp hj : ByteArray) : (if lp.size ≠ 0 ∧ (lo.size = 0 ∨ lessL lo.data.toList lp.data.toList = true) then lp else lo) = laterS lo lp ∧ (if hj.size ≠ 0 ∧ (hi.size = 0 ∨ lessL hj.data.toList hi.data.toList = true) then hj else hi) = soonerS hi hj := by
  have h := refMeet_is (lo.data.toList, hi.data.toList) (lp.data.toList, hj.data.toList)
  have h1 := congrArg Prod.fst h
  have h2 := congrArg Prod.snd h
  refine ⟨Txt.ext ?_, Txt.ext ?_⟩
  · rw [laterS_data, if_data]
    simp only [← nil_size, ne_eq]
    exact h1
  · rw [soonerS_data, if_data]
    simp only [← nil_size, ne_eq]
    exact h2
set_option maxRecDepth 10000 in
set_option maxHeartbeats 8000000 in
theorem refMeet_any (lo hi lp hj : ByteArray) (hl : lo.size ≤ 1000000) (hh : hi.size ≤ 1000000) (hl2 : lp.size ≤ 1000000) (hh2 : hj.size ≤ 1000000) (w : World) : Calls Tryd.prog 34 #[.agg #[.string lo, .string hi], .agg #[.string lp, .string hj]] w fun e w' => e = .returned (.tuple #[.agg #[.string (mtV lo hi lp hj).1, .string (mtV lo hi lp hj).2], .bool (meetOk (lo.data.toList, hi.data.toList) (lp.data.toList, hj.data.toList))]) ∧ Below w.heap.size w w' := by
  obtain ⟨w0, hW0⟩ : ∃ W0, W0 = ((w.alloc (.cells #[.string lo, .string hi] 33)).alloc (.cells #[.string lp, .string hj] 33)).alloc (.cells #[.string ⟨#[]⟩, .string ⟨#[]⟩] 33) := ⟨_, rfl⟩
  obtain ⟨nb, hnb⟩ : ∃ nb, nb = w.heap.size := ⟨_, rfl⟩
  have hw : Below w.heap.size w w0 := by rw [hW0]; exact ((below_alloc1 _ _).alloc (below_alloc1 _ _).size _).alloc ((below_alloc1 _ _).alloc (below_alloc1 _ _).size _).size _
  have hb0 : Below w0.heap.size w0 w0 := Below.refl _ _
  have ha : w0.heap[nb]? = some (.cells #[.string lo, .string hi] 33 (0, 0)) := by rw [hW0, hnb]; exact pbox3_0 _ _ _ _ _ _ _
  obtain ⟨a0, a1, a2, a3⟩ := pair_cells ha
  have hb : w0.heap[nb + 1]? = some (.cells #[.string lp, .string hj] 33 (0, 0)) := by rw [hW0, hnb]; exact pbox3_1 _ _ _ _ _ _ _
  obtain ⟨b0, b1, b2, b3⟩ := pair_cells hb
  have hr : w0.heap[nb + 1 + 1]? = some (.cells #[.string ⟨#[]⟩, .string ⟨#[]⟩] 33 (0, 0)) := by rw [hW0, hnb]; exact pbox3_2 _ _ _ _ _ _ _
  obtain ⟨r0, r1, r2, r3⟩ := pair_cells hr
  have hA := fun (W : World) (_ : Below w0.heap.size w0 W) => refMay2_any lo hi hl hh W
  have hB := fun (W : World) (_ : Below w0.heap.size w0 W) => refMay2_any lp hj hl2 hh2 W
  have hX := fun (W : World) (_ : Below w0.heap.size w0 W) => less1_any lo lp hl hl2 W
  have hY := fun (W : World) (_ : Below w0.heap.size w0 W) => less1_any hj hi hh2 hh W
  have hO := fun (x y : ByteArray) (hx : x.size ≤ 1000000) (hy : y.size ≤ 1000000) (W : World) (_ : Below w0.heap.size w0 W) => refMay2_any x y hx hy W
  have hvv := refMt_val lo hi lp hj
  obtain ⟨p, hp⟩ : ∃ x, x = mayS (lo.data.toList, hi.data.toList) := ⟨_, rfl⟩
  obtain ⟨q, hq⟩ : ∃ x, x = mayS (lp.data.toList, hj.data.toList) := ⟨_, rfl⟩
  obtain ⟨rx, hrx⟩ : ∃ x, x = lessL lo.data.toList lp.data.toList := ⟨_, rfl⟩
  obtain ⟨ry, hry⟩ : ∃ x, x = lessL hj.data.toList hi.data.toList := ⟨_, rfl⟩
  obtain ⟨d1, k1⟩ : ∃ x, lp.toList.isEmpty = x := ⟨_, rfl⟩
  obtain ⟨d2, k2⟩ : ∃ x, lo.toList.isEmpty = x := ⟨_, rfl⟩
  obtain ⟨d3, k3⟩ : ∃ x, hj.toList.isEmpty = x := ⟨_, rfl⟩
  obtain ⟨d4, k4⟩ : ∃ x, hi.toList.isEmpty = x := ⟨_, rfl⟩
  rw [← hrx, ← hry] at hvv
  have hlv : laterS lo lp = if d1 = false ∧ (d2 = true ∨ rx = true) then lp else lo := by rw [← hvv.1, ← k1, ← k2]; simp only [Txt.no_dec, decide_eq_false_iff_not, ne_eq, decide_eq_true_eq]
  have hsv : soonerS hi hj = if d3 = false ∧ (d4 = true ∨ ry = true) then hj else hi := by rw [← hvv.2, ← k3, ← k4]; simp only [Txt.no_dec, decide_eq_false_iff_not, ne_eq, decide_eq_true_eq]
  have hok : meetOk (lo.data.toList, hi.data.toList) (lp.data.toList, hj.data.toList) = (p && q && mayS ((laterS lo lp).data.toList, (soonerS hi hj).data.toList)) := by
    unfold meetOk meetO
    rw [hp, hq, laterS_data, soonerS_data]
  have hval : mtV lo hi lp hj = if (p && q && mayS ((laterS lo lp).data.toList, (soonerS hi hj).data.toList)) = true then (laterS lo lp, soonerS hi hj) else (⟨#[]⟩, ⟨#[]⟩) := by unfold mtV; rw [hok]
  have hle : w.heap.size ≤ nb + 1 + 1 := by omega
  rw [← hp] at hA
  rw [← hq] at hB
  rw [← hrx] at hX
  rw [← hry] at hY
  rw [hlv, hsv] at hok hval
  clear hp hq hrx hry hvv hlv hsv
  have HA := Lib.hid hA; have HB := Lib.hid hB; have HO := Lib.hid hO; have HX := Lib.hid hX; have HY := Lib.hid hY; have Hok := Lib.hid hok; have Hval := Lib.hid hval; have Hle := Lib.hid hle; have Hw := Lib.hid hw; have Hb0 := Lib.hid hb0; have Ha := Lib.hid ha; have Hb := Lib.hid hb; have Hr := Lib.hid hr; clear hA hB hO hX hY hok hval hle hw hb0 ha hb hr
  go_enter Tryd.func34, Tryd.ntmps34
  go_upto_region 1 with (fail)
  rw [← hW0, ← hnb]
  clear hW0 hnb
  go_wp2_with fail
  refine (HA.out _ Hb0.out).mono ?_
  rintro e w1 ⟨rfl, hs⟩
  have hb1 := Hb0.out.trans (hs.mono Hb0.out.size)
  have ha := heap_below hs Ha.out
  clear Ha a0 a1 a2 a3
  obtain ⟨a0, a1, a2, a3⟩ := pair_cells ha
  have hb := heap_below hs Hb.out
  clear Hb b0 b1 b2 b3
  obtain ⟨b0, b1, b2, b3⟩ := pair_cells hb
  have hr := heap_below hs Hr.out
  clear Hr r0 r1 r2 r3
  obtain ⟨r0, r1, r2, r3⟩ := pair_cells hr
  have Hs := Lib.hid hs; have Hb1 := Lib.hid hb1; have Ha := Lib.hid ha; have Hb := Lib.hid hb; have Hr := Lib.hid hr; clear hs hb1 ha hb hr
  cases p with
  | false =>
    go_wp2_with fail
    refine bodyPost_spn2 rfl rfl rfl (pair_set _ _ Hr.out) rfl ?_
    exact ⟨ret_spn2 (by rw [Hval.out]; rfl) (by rw [Hval.out]; rfl) (by rw [Hok.out] <;> rfl), pair_bel _ _ (below_on Hw.out Hb1.out) Hle.out⟩
  | true =>
    go_wp2_with fail
    refine (HB.out _ Hb1.out).mono ?_
    rintro e w2 ⟨rfl, hs⟩
    have hb2 := Hb1.out.trans (hs.mono Hb1.out.size)
    have ha := heap_below hs Ha.out
    clear Ha a0 a1 a2 a3
    obtain ⟨a0, a1, a2, a3⟩ := pair_cells ha
    have hb := heap_below hs Hb.out
    clear Hb b0 b1 b2 b3
    obtain ⟨b0, b1, b2, b3⟩ := pair_cells hb
    have hr := heap_below hs Hr.out
    clear Hr r0 r1 r2 r3
    obtain ⟨r0, r1, r2, r3⟩ := pair_cells hr
    have Hs := Lib.hid hs; have Hb2 := Lib.hid hb2; have Ha := Lib.hid ha; have Hb := Lib.hid hb; have Hr := Lib.hid hr; clear hs hb2 ha hb hr
    cases q with
    | false =>
      go_wp2_with fail
      refine bodyPost_spn2 rfl rfl rfl (pair_set _ _ Hr.out) rfl ?_
      exact ⟨ret_spn2 (by rw [Hval.out]; rfl) (by rw [Hval.out]; rfl) (by rw [Hok.out] <;> rfl), pair_bel _ _ (below_on Hw.out Hb2.out) Hle.out⟩
    | true =>
      go_upto_region 4 with (fail)
      obtain ⟨w3, hv⟩ : ∃ W, W = w2.alloc (.cells #[.string lo, .string hi] 33) := ⟨_, rfl⟩
      obtain ⟨go, hg⟩ : ∃ g, g = w2.heap.size := ⟨_, rfl⟩
      have hs : Below w2.heap.size w2 w3 := by rw [hv]; exact below_alloc1 _ _
      have hb3 := Hb2.out.trans (hs.mono Hb2.out.size)
      have hgeo : w0.heap.size ≤ go := by rw [hg]; exact Hb2.out.size
      have hneao : nb ≠ go := by have := (Array.getElem?_eq_some_iff.1 Ha.out).1; omega
      have hnebo : nb + 1 ≠ go := by have := (Array.getElem?_eq_some_iff.1 Hb.out).1; omega
      have hnero : nb + 1 + 1 ≠ go := by have := (Array.getElem?_eq_some_iff.1 Hr.out).1; omega
      have ha := heap_below hs Ha.out
      clear Ha a0 a1 a2 a3
      obtain ⟨a0, a1, a2, a3⟩ := pair_cells ha
      have hb := heap_below hs Hb.out
      clear Hb b0 b1 b2 b3
      obtain ⟨b0, b1, b2, b3⟩ := pair_cells hb
      have hr := heap_below hs Hr.out
      clear Hr r0 r1 r2 r3
      obtain ⟨r0, r1, r2, r3⟩ := pair_cells hr
      have ho : w3.heap[go]? = some (.cells #[.string lo, .string hi] 33 (0, 0)) := by rw [hv, hg]; exact heap_alloc_new _ _
      obtain ⟨o0, o1, o2, o3⟩ := pair_cells ho
      rw [← hv, ← hg]
      clear hv hg
      have Hs := Lib.hid hs; have Hb3 := Lib.hid hb3; have Hgeo := Lib.hid hgeo; have Ha := Lib.hid ha; have Hb := Lib.hid hb; have Hr := Lib.hid hr; have Ho := Lib.hid ho; have Hneao := Lib.hid hneao; have Hnebo := Lib.hid hnebo; have Hnero := Lib.hid hnero; clear hs hb3 hgeo ha hb hr ho hneao hnebo hnero
      cases d1 with
      | false =>
        cases d2 with
        | false =>
          go_wp2_with fail
          refine (HX.out _ Hb3.out).mono ?_
          rintro e w4 ⟨rfl, hs⟩
          have hb4 := Hb3.out.trans (hs.mono Hb3.out.size)
          have ha := heap_below hs Ha.out
          clear Ha a0 a1 a2 a3
          obtain ⟨a0, a1, a2, a3⟩ := pair_cells ha
          have hb := heap_below hs Hb.out
          clear Hb b0 b1 b2 b3
          obtain ⟨b0, b1, b2, b3⟩ := pair_cells hb
          have hr := heap_below hs Hr.out
          clear Hr r0 r1 r2 r3
          obtain ⟨r0, r1, r2, r3⟩ := pair_cells hr
          have ho := heap_below hs Ho.out
          clear Ho o0 o1 o2 o3
          obtain ⟨o0, o1, o2, o3⟩ := pair_cells ho
          have Hs := Lib.hid hs; have Hb4 := Lib.hid hb4; have Ha := Lib.hid ha; have Hb := Lib.hid hb; have Hr := Lib.hid hr; have Ho := Lib.hid ho; clear hs hb4 ha hb hr ho
          cases rx with
          | false =>
            cases d3 with
            | false =>
              cases d4 with
              | false =>
                go_wp2_with fail
                refine (HY.out _ Hb4.out).mono ?_
                rintro e w5 ⟨rfl, hs⟩
                have hb5 := Hb4.out.trans (hs.mono Hb4.out.size)
                have ha := heap_below hs Ha.out
                clear Ha a0 a1 a2 a3
                obtain ⟨a0, a1, a2, a3⟩ := pair_cells ha
                have hb := heap_below hs Hb.out
                clear Hb b0 b1 b2 b3
                obtain ⟨b0, b1, b2, b3⟩ := pair_cells hb
                have hr := heap_below hs Hr.out
                clear Hr r0 r1 r2 r3
                obtain ⟨r0, r1, r2, r3⟩ := pair_cells hr
                have ho := heap_below hs Ho.out
                clear Ho o0 o1 o2 o3
                obtain ⟨o0, o1, o2, o3⟩ := pair_cells ho
                have Hs := Lib.hid hs; have Hb5 := Lib.hid hb5; have Ha := Lib.hid ha; have Hb := Lib.hid hb; have Hr := Lib.hid hr; have Ho := Lib.hid ho; clear hs hb5 ha hb hr ho
                cases ry with
                | false =>
                  have hZ := HO.out lo hi hl hh
                  obtain ⟨s, hs⟩ : ∃ z, z = mayS (lo.data.toList, hi.data.toList) := ⟨_, rfl⟩
                  rw [← hs] at hZ
                  have hok := Hok.out
                  have hval := Hval.out
                  simp only [reduceCtorEq, eq_self, and_self, true_and, and_true, false_and, and_false, or_true, true_or, or_false, false_or, or_self, if_true, if_false, ite_true, ite_false, Bool.true_and, Bool.and_true, ← hs] at hok hval
                  clear hs Hok Hval
                  have HZ := Lib.hid hZ; have Hok := Lib.hid hok; have Hval := Lib.hid hval; clear hZ hok hval
                  go_wp2_with fail
                  refine (HZ.out _ Hb5.out).mono ?_
                  rintro e w6 ⟨rfl, hs⟩
                  have hb6 := Hb5.out.trans (hs.mono Hb5.out.size)
                  have ha := heap_below hs Ha.out
                  clear Ha a0 a1 a2 a3
                  obtain ⟨a0, a1, a2, a3⟩ := pair_cells ha
                  have hb := heap_below hs Hb.out
                  clear Hb b0 b1 b2 b3
                  obtain ⟨b0, b1, b2, b3⟩ := pair_cells hb
                  have hr := heap_below hs Hr.out
                  clear Hr r0 r1 r2 r3
                  obtain ⟨r0, r1, r2, r3⟩ := pair_cells hr
                  have ho := heap_below hs Ho.out
                  clear Ho o0 o1 o2 o3
                  obtain ⟨o0, o1, o2, o3⟩ := pair_cells ho
                  have Hs := Lib.hid hs; have Hb6 := Lib.hid hb6; have Ha := Lib.hid ha; have Hb := Lib.hid hb; have Hr := Lib.hid hr; have Ho := Lib.hid ho; clear hs hb6 ha hb hr ho
                  cases s with
                  | false =>
                    go_wp2_with fail
                    refine bodyPost_spn2 rfl rfl rfl (pair_set _ _ Hr.out) rfl ?_
                    exact ⟨ret_spn2 (by rw [Hval.out]; rfl) (by rw [Hval.out]; rfl) (by rw [Hok.out] <;> rfl), pair_bel _ _ (below_on Hw.out Hb6.out) Hle.out⟩
                  | true =>
                    go_wp2_with fail
                    refine bodyPost_spn2 rfl rfl rfl (pair_set _ _ Hr.out) rfl ?_
                    exact ⟨ret_spn2 (by rw [Hval.out]; rfl) (by rw [Hval.out]; rfl) (by rw [Hok.out] <;> rfl), pair_bel _ _ (below_on Hw.out Hb6.out) Hle.out⟩
                | true =>
                  go_upto_region 8 with (fail)
                  obtain ⟨w6, hv⟩ : ∃ W, W = w5.setCell ⟨go, 1, none⟩ (.string hj) := ⟨_, rfl⟩
                  have hb6 : Below w0.heap.size w0 w6 := by rw [hv]; exact Hb5.out.setCell (p := ⟨go, 1, none⟩) Hgeo.out _
                  have ha : w6.heap[nb]? = some (.cells #[.string lo, .string hi] 33 (0, 0)) := by rw [hv, Below.heap_setCell _ _ _ _ Hneao.out]; exact Ha.out
                  clear Ha a0 a1 a2 a3
                  obtain ⟨a0, a1, a2, a3⟩ := pair_cells ha
                  have hb : w6.heap[nb + 1]? = some (.cells #[.string lp, .string hj] 33 (0, 0)) := by rw [hv, Below.heap_setCell _ _ _ _ Hnebo.out]; exact Hb.out
                  clear Hb b0 b1 b2 b3
                  obtain ⟨b0, b1, b2, b3⟩ := pair_cells hb
                  have hr : w6.heap[nb + 1 + 1]? = some (.cells #[.string ⟨#[]⟩, .string ⟨#[]⟩] 33 (0, 0)) := by rw [hv, Below.heap_setCell _ _ _ _ Hnero.out]; exact Hr.out
                  clear Hr r0 r1 r2 r3
                  obtain ⟨r0, r1, r2, r3⟩ := pair_cells hr
                  have ho : w6.heap[go]? = some (.cells #[.string lo, .string hj] 33 (0, 0)) := by rw [hv]; exact heap_setCell_same _ go 1 _ _ _ Ho.out
                  clear Ho o0 o1 o2 o3
                  obtain ⟨o0, o1, o2, o3⟩ := pair_cells ho
                  rw [← hv]
                  clear hv
                  have Hb6 := Lib.hid hb6; have Ha := Lib.hid ha; have Hb := Lib.hid hb; have Hr := Lib.hid hr; have Ho := Lib.hid ho; clear hb6 ha hb hr ho
                  have hZ := HO.out lo hj hl hh2
                  obtain ⟨s, hs⟩ : ∃ z, z = mayS (lo.data.toList, hj.data.toList) := ⟨_, rfl⟩
                  rw [← hs] at hZ
                  have hok := Hok.out
                  have hval := Hval.out
                  simp only [reduceCtorEq, eq_self, and_self, true_and, and_true, false_and, and_false, or_true, true_or, or_false, false_or, or_self, if_true, if_false, ite_true, ite_false, Bool.true_and, Bool.and_true, ← hs] at hok hval
                  clear hs Hok Hval
                  have HZ := Lib.hid hZ; have Hok := Lib.hid hok; have Hval := Lib.hid hval; clear hZ hok hval
                  go_wp2_with fail
                  refine (HZ.out _ Hb6.out).mono ?_
                  rintro e w7 ⟨rfl, hs⟩
                  have hb7 := Hb6.out.trans (hs.mono Hb6.out.size)
                  have ha := heap_below hs Ha.out
                  clear Ha a0 a1 a2 a3
                  obtain ⟨a0, a1, a2, a3⟩ := pair_cells ha
                  have hb := heap_below hs Hb.out
                  clear Hb b0 b1 b2 b3
                  obtain ⟨b0, b1, b2, b3⟩ := pair_cells hb
                  have hr := heap_below hs Hr.out
                  clear Hr r0 r1 r2 r3
                  obtain ⟨r0, r1, r2, r3⟩ := pair_cells hr
                  have ho := heap_below hs Ho.out
                  clear Ho o0 o1 o2 o3
                  obtain ⟨o0, o1, o2, o3⟩ := pair_cells ho
                  have Hs := Lib.hid hs; have Hb7 := Lib.hid hb7; have Ha := Lib.hid ha; have Hb := Lib.hid hb; have Hr := Lib.hid hr; have Ho := Lib.hid ho; clear hs hb7 ha hb hr ho
                  cases s with
                  | false =>
                    go_wp2_with fail
                    refine bodyPost_spn2 rfl rfl rfl (pair_set _ _ Hr.out) rfl ?_
                    exact ⟨ret_spn2 (by rw [Hval.out]; rfl) (by rw [Hval.out]; rfl) (by rw [Hok.out] <;> rfl), pair_bel _ _ (below_on Hw.out Hb7.out) Hle.out⟩
                  | true =>
                    go_wp2_with fail
                    refine bodyPost_spn2 rfl rfl rfl (pair_set _ _ Hr.out) rfl ?_
                    exact ⟨ret_spn2 (by rw [Hval.out]; rfl) (by rw [Hval.out]; rfl) (by rw [Hok.out] <;> rfl), pair_bel _ _ (below_on Hw.out Hb7.out) Hle.out⟩
              | true =>
                go_upto_region 8 with (fail)
                obtain ⟨w5, hv⟩ : ∃ W, W = w4.setCell ⟨go, 1, none⟩ (.string hj) := ⟨_, rfl⟩
                have hb5 : Below w0.heap.size w0 w5 := by rw [hv]; exact Hb4.out.setCell (p := ⟨go, 1, none⟩) Hgeo.out _
                have ha : w5.heap[nb]? = some (.cells #[.string lo, .string hi] 33 (0, 0)) := by rw [hv, Below.heap_setCell _ _ _ _ Hneao.out]; exact Ha.out
                clear Ha a0 a1 a2 a3
                obtain ⟨a0, a1, a2, a3⟩ := pair_cells ha
                have hb : w5.heap[nb + 1]? = some (.cells #[.string lp, .string hj] 33 (0, 0)) := by rw [hv, Below.heap_setCell _ _ _ _ Hnebo.out]; exact Hb.out
                clear Hb b0 b1 b2 b3
                obtain ⟨b0, b1, b2, b3⟩ := pair_cells hb
                have hr : w5.heap[nb + 1 + 1]? = some (.cells #[.string ⟨#[]⟩, .string ⟨#[]⟩] 33 (0, 0)) := by rw [hv, Below.heap_setCell _ _ _ _ Hnero.out]; exact Hr.out
                clear Hr r0 r1 r2 r3
                obtain ⟨r0, r1, r2, r3⟩ := pair_cells hr
                have ho : w5.heap[go]? = some (.cells #[.string lo, .string hj] 33 (0, 0)) := by rw [hv]; exact heap_setCell_same _ go 1 _ _ _ Ho.out
                clear Ho o0 o1 o2 o3
                obtain ⟨o0, o1, o2, o3⟩ := pair_cells ho
                rw [← hv]
                clear hv
                have Hb5 := Lib.hid hb5; have Ha := Lib.hid ha; have Hb := Lib.hid hb; have Hr := Lib.hid hr; have Ho := Lib.hid ho; clear hb5 ha hb hr ho
                have hZ := HO.out lo hj hl hh2
                obtain ⟨s, hs⟩ : ∃ z, z = mayS (lo.data.toList, hj.data.toList) := ⟨_, rfl⟩
                rw [← hs] at hZ
                have hok := Hok.out
                have hval := Hval.out
                simp only [reduceCtorEq, eq_self, and_self, true_and, and_true, false_and, and_false, or_true, true_or, or_false, false_or, or_self, if_true, if_false, ite_true, ite_false, Bool.true_and, Bool.and_true, ← hs] at hok hval
                clear hs Hok Hval
                have HZ := Lib.hid hZ; have Hok := Lib.hid hok; have Hval := Lib.hid hval; clear hZ hok hval
                go_wp2_with fail
                refine (HZ.out _ Hb5.out).mono ?_
                rintro e w6 ⟨rfl, hs⟩
                have hb6 := Hb5.out.trans (hs.mono Hb5.out.size)
                have ha := heap_below hs Ha.out
                clear Ha a0 a1 a2 a3
                obtain ⟨a0, a1, a2, a3⟩ := pair_cells ha
                have hb := heap_below hs Hb.out
                clear Hb b0 b1 b2 b3
                obtain ⟨b0, b1, b2, b3⟩ := pair_cells hb
                have hr := heap_below hs Hr.out
                clear Hr r0 r1 r2 r3
                obtain ⟨r0, r1, r2, r3⟩ := pair_cells hr
                have ho := heap_below hs Ho.out
                clear Ho o0 o1 o2 o3
                obtain ⟨o0, o1, o2, o3⟩ := pair_cells ho
                have Hs := Lib.hid hs; have Hb6 := Lib.hid hb6; have Ha := Lib.hid ha; have Hb := Lib.hid hb; have Hr := Lib.hid hr; have Ho := Lib.hid ho; clear hs hb6 ha hb hr ho
                cases s with
                | false =>
                  go_wp2_with fail
                  refine bodyPost_spn2 rfl rfl rfl (pair_set _ _ Hr.out) rfl ?_
                  exact ⟨ret_spn2 (by rw [Hval.out]; rfl) (by rw [Hval.out]; rfl) (by rw [Hok.out] <;> rfl), pair_bel _ _ (below_on Hw.out Hb6.out) Hle.out⟩
                | true =>
                  go_wp2_with fail
                  refine bodyPost_spn2 rfl rfl rfl (pair_set _ _ Hr.out) rfl ?_
                  exact ⟨ret_spn2 (by rw [Hval.out]; rfl) (by rw [Hval.out]; rfl) (by rw [Hok.out] <;> rfl), pair_bel _ _ (below_on Hw.out Hb6.out) Hle.out⟩
            | true =>
              have hZ := HO.out lo hi hl hh
              obtain ⟨s, hs⟩ : ∃ z, z = mayS (lo.data.toList, hi.data.toList) := ⟨_, rfl⟩
              rw [← hs] at hZ
              have hok := Hok.out
              have hval := Hval.out
              simp only [reduceCtorEq, eq_self, and_self, true_and, and_true, false_and, and_false, or_true, true_or, or_false, false_or, or_self, if_true, if_false, ite_true, ite_false, Bool.true_and, Bool.and_true, ← hs] at hok hval
              clear hs Hok Hval
              have HZ := Lib.hid hZ; have Hok := Lib.hid hok; have Hval := Lib.hid hval; clear hZ hok hval
              go_wp2_with fail
              refine (HZ.out _ Hb4.out).mono ?_
              rintro e w5 ⟨rfl, hs⟩
              have hb5 := Hb4.out.trans (hs.mono Hb4.out.size)
              have ha := heap_below hs Ha.out
              clear Ha a0 a1 a2 a3
              obtain ⟨a0, a1, a2, a3⟩ := pair_cells ha
              have hb := heap_below hs Hb.out
              clear Hb b0 b1 b2 b3
              obtain ⟨b0, b1, b2, b3⟩ := pair_cells hb
              have hr := heap_below hs Hr.out
              clear Hr r0 r1 r2 r3
              obtain ⟨r0, r1, r2, r3⟩ := pair_cells hr
              have ho := heap_below hs Ho.out
              clear Ho o0 o1 o2 o3
              obtain ⟨o0, o1, o2, o3⟩ := pair_cells ho
              have Hs := Lib.hid hs; have Hb5 := Lib.hid hb5; have Ha := Lib.hid ha; have Hb := Lib.hid hb; have Hr := Lib.hid hr; have Ho := Lib.hid ho; clear hs hb5 ha hb hr ho
              cases s with
              | false =>
                go_wp2_with fail
                refine bodyPost_spn2 rfl rfl rfl (pair_set _ _ Hr.out) rfl ?_
                exact ⟨ret_spn2 (by rw [Hval.out]; rfl) (by rw [Hval.out]; rfl) (by rw [Hok.out] <;> rfl), pair_bel _ _ (below_on Hw.out Hb5.out) Hle.out⟩
              | true =>
                go_wp2_with fail
                refine bodyPost_spn2 rfl rfl rfl (pair_set _ _ Hr.out) rfl ?_
                exact ⟨ret_spn2 (by rw [Hval.out]; rfl) (by rw [Hval.out]; rfl) (by rw [Hok.out] <;> rfl), pair_bel _ _ (below_on Hw.out Hb5.out) Hle.out⟩
          | true =>
            go_upto_region 6 with (fail)
            obtain ⟨w5, hv⟩ : ∃ W, W = w4.setCell ⟨go, 0, none⟩ (.string lp) := ⟨_, rfl⟩
            have hb5 : Below w0.heap.size w0 w5 := by rw [hv]; exact Hb4.out.setCell (p := ⟨go, 0, none⟩) Hgeo.out _
            have ha : w5.heap[nb]? = some (.cells #[.string lo, .string hi] 33 (0, 0)) := by rw [hv, Below.heap_setCell _ _ _ _ Hneao.out]; exact Ha.out
            clear Ha a0 a1 a2 a3
            obtain ⟨a0, a1, a2, a3⟩ := pair_cells ha
            have hb : w5.heap[nb + 1]? = some (.cells #[.string lp, .string hj] 33 (0, 0)) := by rw [hv, Below.heap_setCell _ _ _ _ Hnebo.out]; exact Hb.out
            clear Hb b0 b1 b2 b3
            obtain ⟨b0, b1, b2, b3⟩ := pair_cells hb
            have hr : w5.heap[nb + 1 + 1]? = some (.cells #[.string ⟨#[]⟩, .string ⟨#[]⟩] 33 (0, 0)) := by rw [hv, Below.heap_setCell _ _ _ _ Hnero.out]; exact Hr.out
            clear Hr r0 r1 r2 r3
            obtain ⟨r0, r1, r2, r3⟩ := pair_cells hr
            have ho : w5.heap[go]? = some (.cells #[.string lp, .string hi] 33 (0, 0)) := by rw [hv]; exact heap_setCell_same _ go 0 _ _ _ Ho.out
            clear Ho o0 o1 o2 o3
            obtain ⟨o0, o1, o2, o3⟩ := pair_cells ho
            rw [← hv]
            clear hv
            have Hb5 := Lib.hid hb5; have Ha := Lib.hid ha; have Hb := Lib.hid hb; have Hr := Lib.hid hr; have Ho := Lib.hid ho; clear hb5 ha hb hr ho
            cases d3 with
            | false =>
              cases d4 with
              | false =>
                go_wp2_with fail
                refine (HY.out _ Hb5.out).mono ?_
                rintro e w6 ⟨rfl, hs⟩
                have hb6 := Hb5.out.trans (hs.mono Hb5.out.size)
                have ha := heap_below hs Ha.out
                clear Ha a0 a1 a2 a3
                obtain ⟨a0, a1, a2, a3⟩ := pair_cells ha
                have hb := heap_below hs Hb.out
                clear Hb b0 b1 b2 b3
                obtain ⟨b0, b1, b2, b3⟩ := pair_cells hb
                have hr := heap_below hs Hr.out
                clear Hr r0 r1 r2 r3
                obtain ⟨r0, r1, r2, r3⟩ := pair_cells hr
                have ho := heap_below hs Ho.out
                clear Ho o0 o1 o2 o3
                obtain ⟨o0, o1, o2, o3⟩ := pair_cells ho
                have Hs := Lib.hid hs; have Hb6 := Lib.hid hb6; have Ha := Lib.hid ha; have Hb := Lib.hid hb; have Hr := Lib.hid hr; have Ho := Lib.hid ho; clear hs hb6 ha hb hr ho
                cases ry with
                | false =>
                  have hZ := HO.out lp hi hl2 hh
                  obtain ⟨s, hs⟩ : ∃ z, z = mayS (lp.data.toList, hi.data.toList) := ⟨_, rfl⟩
                  rw [← hs] at hZ
                  have hok := Hok.out
                  have hval := Hval.out
                  simp only [reduceCtorEq, eq_self, and_self, true_and, and_true, false_and, and_false, or_true, true_or, or_false, false_or, or_self, if_true, if_false, ite_true, ite_false, Bool.true_and, Bool.and_true, ← hs] at hok hval
                  clear hs Hok Hval
                  have HZ := Lib.hid hZ; have Hok := Lib.hid hok; have Hval := Lib.hid hval; clear hZ hok hval
                  go_wp2_with fail
                  refine (HZ.out _ Hb6.out).mono ?_
                  rintro e w7 ⟨rfl, hs⟩
                  have hb7 := Hb6.out.trans (hs.mono Hb6.out.size)
                  have ha := heap_below hs Ha.out
                  clear Ha a0 a1 a2 a3
                  obtain ⟨a0, a1, a2, a3⟩ := pair_cells ha
                  have hb := heap_below hs Hb.out
                  clear Hb b0 b1 b2 b3
                  obtain ⟨b0, b1, b2, b3⟩ := pair_cells hb
                  have hr := heap_below hs Hr.out
                  clear Hr r0 r1 r2 r3
                  obtain ⟨r0, r1, r2, r3⟩ := pair_cells hr
                  have ho := heap_below hs Ho.out
                  clear Ho o0 o1 o2 o3
                  obtain ⟨o0, o1, o2, o3⟩ := pair_cells ho
                  have Hs := Lib.hid hs; have Hb7 := Lib.hid hb7; have Ha := Lib.hid ha; have Hb := Lib.hid hb; have Hr := Lib.hid hr; have Ho := Lib.hid ho; clear hs hb7 ha hb hr ho
                  cases s with
                  | false =>
                    go_wp2_with fail
                    refine bodyPost_spn2 rfl rfl rfl (pair_set _ _ Hr.out) rfl ?_
                    exact ⟨ret_spn2 (by rw [Hval.out]; rfl) (by rw [Hval.out]; rfl) (by rw [Hok.out] <;> rfl), pair_bel _ _ (below_on Hw.out Hb7.out) Hle.out⟩
                  | true =>
                    go_wp2_with fail
                    refine bodyPost_spn2 rfl rfl rfl (pair_set _ _ Hr.out) rfl ?_
                    exact ⟨ret_spn2 (by rw [Hval.out]; rfl) (by rw [Hval.out]; rfl) (by rw [Hok.out] <;> rfl), pair_bel _ _ (below_on Hw.out Hb7.out) Hle.out⟩
                | true =>
                  go_upto_region 8 with (fail)
                  obtain ⟨w7, hv⟩ : ∃ W, W = w6.setCell ⟨go, 1, none⟩ (.string hj) := ⟨_, rfl⟩
                  have hb7 : Below w0.heap.size w0 w7 := by rw [hv]; exact Hb6.out.setCell (p := ⟨go, 1, none⟩) Hgeo.out _
                  have ha : w7.heap[nb]? = some (.cells #[.string lo, .string hi] 33 (0, 0)) := by rw [hv, Below.heap_setCell _ _ _ _ Hneao.out]; exact Ha.out
                  clear Ha a0 a1 a2 a3
                  obtain ⟨a0, a1, a2, a3⟩ := pair_cells ha
                  have hb : w7.heap[nb + 1]? = some (.cells #[.string lp, .string hj] 33 (0, 0)) := by rw [hv, Below.heap_setCell _ _ _ _ Hnebo.out]; exact Hb.out
                  clear Hb b0 b1 b2 b3
                  obtain ⟨b0, b1, b2, b3⟩ := pair_cells hb
                  have hr : w7.heap[nb + 1 + 1]? = some (.cells #[.string ⟨#[]⟩, .string ⟨#[]⟩] 33 (0, 0)) := by rw [hv, Below.heap_setCell _ _ _ _ Hnero.out]; exact Hr.out
                  clear Hr r0 r1 r2 r3
                  obtain ⟨r0, r1, r2, r3⟩ := pair_cells hr
                  have ho : w7.heap[go]? = some (.cells #[.string lp, .string hj] 33 (0, 0)) := by rw [hv]; exact heap_setCell_same _ go 1 _ _ _ Ho.out
                  clear Ho o0 o1 o2 o3
                  obtain ⟨o0, o1, o2, o3⟩ := pair_cells ho
                  rw [← hv]
                  clear hv
                  have Hb7 := Lib.hid hb7; have Ha := Lib.hid ha; have Hb := Lib.hid hb; have Hr := Lib.hid hr; have Ho := Lib.hid ho; clear hb7 ha hb hr ho
                  have hZ := HO.out lp hj hl2 hh2
                  obtain ⟨s, hs⟩ : ∃ z, z = mayS (lp.data.toList, hj.data.toList) := ⟨_, rfl⟩
                  rw [← hs] at hZ
                  have hok := Hok.out
                  have hval := Hval.out
                  simp only [reduceCtorEq, eq_self, and_self, true_and, and_true, false_and, and_false, or_true, true_or, or_false, false_or, or_self, if_true, if_false, ite_true, ite_false, Bool.true_and, Bool.and_true, ← hs] at hok hval
                  clear hs Hok Hval
                  have HZ := Lib.hid hZ; have Hok := Lib.hid hok; have Hval := Lib.hid hval; clear hZ hok hval
                  go_wp2_with fail
                  refine (HZ.out _ Hb7.out).mono ?_
                  rintro e w8 ⟨rfl, hs⟩
                  have hb8 := Hb7.out.trans (hs.mono Hb7.out.size)
                  have ha := heap_below hs Ha.out
                  clear Ha a0 a1 a2 a3
                  obtain ⟨a0, a1, a2, a3⟩ := pair_cells ha
                  have hb := heap_below hs Hb.out
                  clear Hb b0 b1 b2 b3
                  obtain ⟨b0, b1, b2, b3⟩ := pair_cells hb
                  have hr := heap_below hs Hr.out
                  clear Hr r0 r1 r2 r3
                  obtain ⟨r0, r1, r2, r3⟩ := pair_cells hr
                  have ho := heap_below hs Ho.out
                  clear Ho o0 o1 o2 o3
                  obtain ⟨o0, o1, o2, o3⟩ := pair_cells ho
                  have Hs := Lib.hid hs; have Hb8 := Lib.hid hb8; have Ha := Lib.hid ha; have Hb := Lib.hid hb; have Hr := Lib.hid hr; have Ho := Lib.hid ho; clear hs hb8 ha hb hr ho
                  cases s with
                  | false =>
                    go_wp2_with fail
                    refine bodyPost_spn2 rfl rfl rfl (pair_set _ _ Hr.out) rfl ?_
                    exact ⟨ret_spn2 (by rw [Hval.out]; rfl) (by rw [Hval.out]; rfl) (by rw [Hok.out] <;> rfl), pair_bel _ _ (below_on Hw.out Hb8.out) Hle.out⟩
                  | true =>
                    go_wp2_with fail
                    refine bodyPost_spn2 rfl rfl rfl (pair_set _ _ Hr.out) rfl ?_
                    exact ⟨ret_spn2 (by rw [Hval.out]; rfl) (by rw [Hval.out]; rfl) (by rw [Hok.out] <;> rfl), pair_bel _ _ (below_on Hw.out Hb8.out) Hle.out⟩
              | true =>
                go_upto_region 8 with (fail)
                obtain ⟨w6, hv⟩ : ∃ W, W = w5.setCell ⟨go, 1, none⟩ (.string hj) := ⟨_, rfl⟩
                have hb6 : Below w0.heap.size w0 w6 := by rw [hv]; exact Hb5.out.setCell (p := ⟨go, 1, none⟩) Hgeo.out _
                have ha : w6.heap[nb]? = some (.cells #[.string lo, .string hi] 33 (0, 0)) := by rw [hv, Below.heap_setCell _ _ _ _ Hneao.out]; exact Ha.out
                clear Ha a0 a1 a2 a3
                obtain ⟨a0, a1, a2, a3⟩ := pair_cells ha
                have hb : w6.heap[nb + 1]? = some (.cells #[.string lp, .string hj] 33 (0, 0)) := by rw [hv, Below.heap_setCell _ _ _ _ Hnebo.out]; exact Hb.out
                clear Hb b0 b1 b2 b3
                obtain ⟨b0, b1, b2, b3⟩ := pair_cells hb
                have hr : w6.heap[nb + 1 + 1]? = some (.cells #[.string ⟨#[]⟩, .string ⟨#[]⟩] 33 (0, 0)) := by rw [hv, Below.heap_setCell _ _ _ _ Hnero.out]; exact Hr.out
                clear Hr r0 r1 r2 r3
                obtain ⟨r0, r1, r2, r3⟩ := pair_cells hr
                have ho : w6.heap[go]? = some (.cells #[.string lp, .string hj] 33 (0, 0)) := by rw [hv]; exact heap_setCell_same _ go 1 _ _ _ Ho.out
                clear Ho o0 o1 o2 o3
                obtain ⟨o0, o1, o2, o3⟩ := pair_cells ho
                rw [← hv]
                clear hv
                have Hb6 := Lib.hid hb6; have Ha := Lib.hid ha; have Hb := Lib.hid hb; have Hr := Lib.hid hr; have Ho := Lib.hid ho; clear hb6 ha hb hr ho
                have hZ := HO.out lp hj hl2 hh2
                obtain ⟨s, hs⟩ : ∃ z, z = mayS (lp.data.toList, hj.data.toList) := ⟨_, rfl⟩
                rw [← hs] at hZ
                have hok := Hok.out
                have hval := Hval.out
                simp only [reduceCtorEq, eq_self, and_self, true_and, and_true, false_and, and_false, or_true, true_or, or_false, false_or, or_self, if_true, if_false, ite_true, ite_false, Bool.true_and, Bool.and_true, ← hs] at hok hval
                clear hs Hok Hval
                have HZ := Lib.hid hZ; have Hok := Lib.hid hok; have Hval := Lib.hid hval; clear hZ hok hval
                go_wp2_with fail
                refine (HZ.out _ Hb6.out).mono ?_
                rintro e w7 ⟨rfl, hs⟩
                have hb7 := Hb6.out.trans (hs.mono Hb6.out.size)
                have ha := heap_below hs Ha.out
                clear Ha a0 a1 a2 a3
                obtain ⟨a0, a1, a2, a3⟩ := pair_cells ha
                have hb := heap_below hs Hb.out
                clear Hb b0 b1 b2 b3
                obtain ⟨b0, b1, b2, b3⟩ := pair_cells hb
                have hr := heap_below hs Hr.out
                clear Hr r0 r1 r2 r3
                obtain ⟨r0, r1, r2, r3⟩ := pair_cells hr
                have ho := heap_below hs Ho.out
                clear Ho o0 o1 o2 o3
                obtain ⟨o0, o1, o2, o3⟩ := pair_cells ho
                have Hs := Lib.hid hs; have Hb7 := Lib.hid hb7; have Ha := Lib.hid ha; have Hb := Lib.hid hb; have Hr := Lib.hid hr; have Ho := Lib.hid ho; clear hs hb7 ha hb hr ho
                cases s with
                | false =>
                  go_wp2_with fail
                  refine bodyPost_spn2 rfl rfl rfl (pair_set _ _ Hr.out) rfl ?_
                  exact ⟨ret_spn2 (by rw [Hval.out]; rfl) (by rw [Hval.out]; rfl) (by rw [Hok.out] <;> rfl), pair_bel _ _ (below_on Hw.out Hb7.out) Hle.out⟩
                | true =>
                  go_wp2_with fail
                  refine bodyPost_spn2 rfl rfl rfl (pair_set _ _ Hr.out) rfl ?_
                  exact ⟨ret_spn2 (by rw [Hval.out]; rfl) (by rw [Hval.out]; rfl) (by rw [Hok.out] <;> rfl), pair_bel _ _ (below_on Hw.out Hb7.out) Hle.out⟩
            | true =>
              have hZ := HO.out lp hi hl2 hh
              obtain ⟨s, hs⟩ : ∃ z, z = mayS (lp.data.toList, hi.data.toList) := ⟨_, rfl⟩
              rw [← hs] at hZ
              have hok := Hok.out
              have hval := Hval.out
              simp only [reduceCtorEq, eq_self, and_self, true_and, and_true, false_and, and_false, or_true, true_or, or_false, false_or, or_self, if_true, if_false, ite_true, ite_false, Bool.true_and, Bool.and_true, ← hs] at hok hval
              clear hs Hok Hval
              have HZ := Lib.hid hZ; have Hok := Lib.hid hok; have Hval := Lib.hid hval; clear hZ hok hval
              go_wp2_with fail
              refine (HZ.out _ Hb5.out).mono ?_
              rintro e w6 ⟨rfl, hs⟩
              have hb6 := Hb5.out.trans (hs.mono Hb5.out.size)
              have ha := heap_below hs Ha.out
              clear Ha a0 a1 a2 a3
              obtain ⟨a0, a1, a2, a3⟩ := pair_cells ha
              have hb := heap_below hs Hb.out
              clear Hb b0 b1 b2 b3
              obtain ⟨b0, b1, b2, b3⟩ := pair_cells hb
              have hr := heap_below hs Hr.out
              clear Hr r0 r1 r2 r3
              obtain ⟨r0, r1, r2, r3⟩ := pair_cells hr
              have ho := heap_below hs Ho.out
              clear Ho o0 o1 o2 o3
              obtain ⟨o0, o1, o2, o3⟩ := pair_cells ho
              have Hs := Lib.hid hs; have Hb6 := Lib.hid hb6; have Ha := Lib.hid ha; have Hb := Lib.hid hb; have Hr := Lib.hid hr; have Ho := Lib.hid ho; clear hs hb6 ha hb hr ho
              cases s with
              | false =>
                go_wp2_with fail
                refine bodyPost_spn2 rfl rfl rfl (pair_set _ _ Hr.out) rfl ?_
                exact ⟨ret_spn2 (by rw [Hval.out]; rfl) (by rw [Hval.out]; rfl) (by rw [Hok.out] <;> rfl), pair_bel _ _ (below_on Hw.out Hb6.out) Hle.out⟩
              | true =>
                go_wp2_with fail
                refine bodyPost_spn2 rfl rfl rfl (pair_set _ _ Hr.out) rfl ?_
                exact ⟨ret_spn2 (by rw [Hval.out]; rfl) (by rw [Hval.out]; rfl) (by rw [Hok.out] <;> rfl), pair_bel _ _ (below_on Hw.out Hb6.out) Hle.out⟩
        | true =>
          go_upto_region 6 with (fail)
          obtain ⟨w4, hv⟩ : ∃ W, W = w3.setCell ⟨go, 0, none⟩ (.string lp) := ⟨_, rfl⟩
          have hb4 : Below w0.heap.size w0 w4 := by rw [hv]; exact Hb3.out.setCell (p := ⟨go, 0, none⟩) Hgeo.out _
          have ha : w4.heap[nb]? = some (.cells #[.string lo, .string hi] 33 (0, 0)) := by rw [hv, Below.heap_setCell _ _ _ _ Hneao.out]; exact Ha.out
          clear Ha a0 a1 a2 a3
          obtain ⟨a0, a1, a2, a3⟩ := pair_cells ha
          have hb : w4.heap[nb + 1]? = some (.cells #[.string lp, .string hj] 33 (0, 0)) := by rw [hv, Below.heap_setCell _ _ _ _ Hnebo.out]; exact Hb.out
          clear Hb b0 b1 b2 b3
          obtain ⟨b0, b1, b2, b3⟩ := pair_cells hb
          have hr : w4.heap[nb + 1 + 1]? = some (.cells #[.string ⟨#[]⟩, .string ⟨#[]⟩] 33 (0, 0)) := by rw [hv, Below.heap_setCell _ _ _ _ Hnero.out]; exact Hr.out
          clear Hr r0 r1 r2 r3
          obtain ⟨r0, r1, r2, r3⟩ := pair_cells hr
          have ho : w4.heap[go]? = some (.cells #[.string lp, .string hi] 33 (0, 0)) := by rw [hv]; exact heap_setCell_same _ go 0 _ _ _ Ho.out
          clear Ho o0 o1 o2 o3
          obtain ⟨o0, o1, o2, o3⟩ := pair_cells ho
          rw [← hv]
          clear hv
          have Hb4 := Lib.hid hb4; have Ha := Lib.hid ha; have Hb := Lib.hid hb; have Hr := Lib.hid hr; have Ho := Lib.hid ho; clear hb4 ha hb hr ho
          cases d3 with
          | false =>
            cases d4 with
            | false =>
              go_wp2_with fail
              refine (HY.out _ Hb4.out).mono ?_
              rintro e w5 ⟨rfl, hs⟩
              have hb5 := Hb4.out.trans (hs.mono Hb4.out.size)
              have ha := heap_below hs Ha.out
              clear Ha a0 a1 a2 a3
              obtain ⟨a0, a1, a2, a3⟩ := pair_cells ha
              have hb := heap_below hs Hb.out
              clear Hb b0 b1 b2 b3
              obtain ⟨b0, b1, b2, b3⟩ := pair_cells hb
              have hr := heap_below hs Hr.out
              clear Hr r0 r1 r2 r3
              obtain ⟨r0, r1, r2, r3⟩ := pair_cells hr
              have ho := heap_below hs Ho.out
              clear Ho o0 o1 o2 o3
              obtain ⟨o0, o1, o2, o3⟩ := pair_cells ho
              have Hs := Lib.hid hs; have Hb5 := Lib.hid hb5; have Ha := Lib.hid ha; have Hb := Lib.hid hb; have Hr := Lib.hid hr; have Ho := Lib.hid ho; clear hs hb5 ha hb hr ho
              cases ry with
              | false =>
                have hZ := HO.out lp hi hl2 hh
                obtain ⟨s, hs⟩ : ∃ z, z = mayS (lp.data.toList, hi.data.toList) := ⟨_, rfl⟩
                rw [← hs] at hZ
                have hok := Hok.out
                have hval := Hval.out
                simp only [reduceCtorEq, eq_self, and_self, true_and, and_true, false_and, and_false, or_true, true_or, or_false, false_or, or_self, if_true, if_false, ite_true, ite_false, Bool.true_and, Bool.and_true, ← hs] at hok hval
                clear hs Hok Hval
                have HZ := Lib.hid hZ; have Hok := Lib.hid hok; have Hval := Lib.hid hval; clear hZ hok hval
                go_wp2_with fail
                refine (HZ.out _ Hb5.out).mono ?_
                rintro e w6 ⟨rfl, hs⟩
                have hb6 := Hb5.out.trans (hs.mono Hb5.out.size)
                have ha := heap_below hs Ha.out
                clear Ha a0 a1 a2 a3
                obtain ⟨a0, a1, a2, a3⟩ := pair_cells ha
                have hb := heap_below hs Hb.out
                clear Hb b0 b1 b2 b3
                obtain ⟨b0, b1, b2, b3⟩ := pair_cells hb
                have hr := heap_below hs Hr.out
                clear Hr r0 r1 r2 r3
                obtain ⟨r0, r1, r2, r3⟩ := pair_cells hr
                have ho := heap_below hs Ho.out
                clear Ho o0 o1 o2 o3
                obtain ⟨o0, o1, o2, o3⟩ := pair_cells ho
                have Hs := Lib.hid hs; have Hb6 := Lib.hid hb6; have Ha := Lib.hid ha; have Hb := Lib.hid hb; have Hr := Lib.hid hr; have Ho := Lib.hid ho; clear hs hb6 ha hb hr ho
                cases s with
                | false =>
                  go_wp2_with fail
                  refine bodyPost_spn2 rfl rfl rfl (pair_set _ _ Hr.out) rfl ?_
                  exact ⟨ret_spn2 (by rw [Hval.out]; rfl) (by rw [Hval.out]; rfl) (by rw [Hok.out] <;> rfl), pair_bel _ _ (below_on Hw.out Hb6.out) Hle.out⟩
                | true =>
                  go_wp2_with fail
                  refine bodyPost_spn2 rfl rfl rfl (pair_set _ _ Hr.out) rfl ?_
                  exact ⟨ret_spn2 (by rw [Hval.out]; rfl) (by rw [Hval.out]; rfl) (by rw [Hok.out] <;> rfl), pair_bel _ _ (below_on Hw.out Hb6.out) Hle.out⟩
              | true =>
                go_upto_region 8 with (fail)
                obtain ⟨w6, hv⟩ : ∃ W, W = w5.setCell ⟨go, 1, none⟩ (.string hj) := ⟨_, rfl⟩
                have hb6 : Below w0.heap.size w0 w6 := by rw [hv]; exact Hb5.out.setCell (p := ⟨go, 1, none⟩) Hgeo.out _
                have ha : w6.heap[nb]? = some (.cells #[.string lo, .string hi] 33 (0, 0)) := by rw [hv, Below.heap_setCell _ _ _ _ Hneao.out]; exact Ha.out
                clear Ha a0 a1 a2 a3
                obtain ⟨a0, a1, a2, a3⟩ := pair_cells ha
                have hb : w6.heap[nb + 1]? = some (.cells #[.string lp, .string hj] 33 (0, 0)) := by rw [hv, Below.heap_setCell _ _ _ _ Hnebo.out]; exact Hb.out
                clear Hb b0 b1 b2 b3
                obtain ⟨b0, b1, b2, b3⟩ := pair_cells hb
                have hr : w6.heap[nb + 1 + 1]? = some (.cells #[.string ⟨#[]⟩, .string ⟨#[]⟩] 33 (0, 0)) := by rw [hv, Below.heap_setCell _ _ _ _ Hnero.out]; exact Hr.out
                clear Hr r0 r1 r2 r3
                obtain ⟨r0, r1, r2, r3⟩ := pair_cells hr
                have ho : w6.heap[go]? = some (.cells #[.string lp, .string hj] 33 (0, 0)) := by rw [hv]; exact heap_setCell_same _ go 1 _ _ _ Ho.out
                clear Ho o0 o1 o2 o3
                obtain ⟨o0, o1, o2, o3⟩ := pair_cells ho
                rw [← hv]
                clear hv
                have Hb6 := Lib.hid hb6; have Ha := Lib.hid ha; have Hb := Lib.hid hb; have Hr := Lib.hid hr; have Ho := Lib.hid ho; clear hb6 ha hb hr ho
                have hZ := HO.out lp hj hl2 hh2
                obtain ⟨s, hs⟩ : ∃ z, z = mayS (lp.data.toList, hj.data.toList) := ⟨_, rfl⟩
                rw [← hs] at hZ
                have hok := Hok.out
                have hval := Hval.out
                simp only [reduceCtorEq, eq_self, and_self, true_and, and_true, false_and, and_false, or_true, true_or, or_false, false_or, or_self, if_true, if_false, ite_true, ite_false, Bool.true_and, Bool.and_true, ← hs] at hok hval
                clear hs Hok Hval
                have HZ := Lib.hid hZ; have Hok := Lib.hid hok; have Hval := Lib.hid hval; clear hZ hok hval
                go_wp2_with fail
                refine (HZ.out _ Hb6.out).mono ?_
                rintro e w7 ⟨rfl, hs⟩
                have hb7 := Hb6.out.trans (hs.mono Hb6.out.size)
                have ha := heap_below hs Ha.out
                clear Ha a0 a1 a2 a3
                obtain ⟨a0, a1, a2, a3⟩ := pair_cells ha
                have hb := heap_below hs Hb.out
                clear Hb b0 b1 b2 b3
                obtain ⟨b0, b1, b2, b3⟩ := pair_cells hb
                have hr := heap_below hs Hr.out
                clear Hr r0 r1 r2 r3
                obtain ⟨r0, r1, r2, r3⟩ := pair_cells hr
                have ho := heap_below hs Ho.out
                clear Ho o0 o1 o2 o3
                obtain ⟨o0, o1, o2, o3⟩ := pair_cells ho
                have Hs := Lib.hid hs; have Hb7 := Lib.hid hb7; have Ha := Lib.hid ha; have Hb := Lib.hid hb; have Hr := Lib.hid hr; have Ho := Lib.hid ho; clear hs hb7 ha hb hr ho
                cases s with
                | false =>
                  go_wp2_with fail
                  refine bodyPost_spn2 rfl rfl rfl (pair_set _ _ Hr.out) rfl ?_
                  exact ⟨ret_spn2 (by rw [Hval.out]; rfl) (by rw [Hval.out]; rfl) (by rw [Hok.out] <;> rfl), pair_bel _ _ (below_on Hw.out Hb7.out) Hle.out⟩
                | true =>
                  go_wp2_with fail
                  refine bodyPost_spn2 rfl rfl rfl (pair_set _ _ Hr.out) rfl ?_
                  exact ⟨ret_spn2 (by rw [Hval.out]; rfl) (by rw [Hval.out]; rfl) (by rw [Hok.out] <;> rfl), pair_bel _ _ (below_on Hw.out Hb7.out) Hle.out⟩
            | true =>
              go_upto_region 8 with (fail)
              obtain ⟨w5, hv⟩ : ∃ W, W = w4.setCell ⟨go, 1, none⟩ (.string hj) := ⟨_, rfl⟩
              have hb5 : Below w0.heap.size w0 w5 := by rw [hv]; exact Hb4.out.setCell (p := ⟨go, 1, none⟩) Hgeo.out _
              have ha : w5.heap[nb]? = some (.cells #[.string lo, .string hi] 33 (0, 0)) := by rw [hv, Below.heap_setCell _ _ _ _ Hneao.out]; exact Ha.out
              clear Ha a0 a1 a2 a3
              obtain ⟨a0, a1, a2, a3⟩ := pair_cells ha
              have hb : w5.heap[nb + 1]? = some (.cells #[.string lp, .string hj] 33 (0, 0)) := by rw [hv, Below.heap_setCell _ _ _ _ Hnebo.out]; exact Hb.out
              clear Hb b0 b1 b2 b3
              obtain ⟨b0, b1, b2, b3⟩ := pair_cells hb
              have hr : w5.heap[nb + 1 + 1]? = some (.cells #[.string ⟨#[]⟩, .string ⟨#[]⟩] 33 (0, 0)) := by rw [hv, Below.heap_setCell _ _ _ _ Hnero.out]; exact Hr.out
              clear Hr r0 r1 r2 r3
              obtain ⟨r0, r1, r2, r3⟩ := pair_cells hr
              have ho : w5.heap[go]? = some (.cells #[.string lp, .string hj] 33 (0, 0)) := by rw [hv]; exact heap_setCell_same _ go 1 _ _ _ Ho.out
              clear Ho o0 o1 o2 o3
              obtain ⟨o0, o1, o2, o3⟩ := pair_cells ho
              rw [← hv]
              clear hv
              have Hb5 := Lib.hid hb5; have Ha := Lib.hid ha; have Hb := Lib.hid hb; have Hr := Lib.hid hr; have Ho := Lib.hid ho; clear hb5 ha hb hr ho
              have hZ := HO.out lp hj hl2 hh2
              obtain ⟨s, hs⟩ : ∃ z, z = mayS (lp.data.toList, hj.data.toList) := ⟨_, rfl⟩
              rw [← hs] at hZ
              have hok := Hok.out
              have hval := Hval.out
              simp only [reduceCtorEq, eq_self, and_self, true_and, and_true, false_and, and_false, or_true, true_or, or_false, false_or, or_self, if_true, if_false, ite_true, ite_false, Bool.true_and, Bool.and_true, ← hs] at hok hval
              clear hs Hok Hval
              have HZ := Lib.hid hZ; have Hok := Lib.hid hok; have Hval := Lib.hid hval; clear hZ hok hval
              go_wp2_with fail
              refine (HZ.out _ Hb5.out).mono ?_
              rintro e w6 ⟨rfl, hs⟩
              have hb6 := Hb5.out.trans (hs.mono Hb5.out.size)
              have ha := heap_below hs Ha.out
              clear Ha a0 a1 a2 a3
              obtain ⟨a0, a1, a2, a3⟩ := pair_cells ha
              have hb := heap_below hs Hb.out
              clear Hb b0 b1 b2 b3
              obtain ⟨b0, b1, b2, b3⟩ := pair_cells hb
              have hr := heap_below hs Hr.out
              clear Hr r0 r1 r2 r3
              obtain ⟨r0, r1, r2, r3⟩ := pair_cells hr
              have ho := heap_below hs Ho.out
              clear Ho o0 o1 o2 o3
              obtain ⟨o0, o1, o2, o3⟩ := pair_cells ho
              have Hs := Lib.hid hs; have Hb6 := Lib.hid hb6; have Ha := Lib.hid ha; have Hb := Lib.hid hb; have Hr := Lib.hid hr; have Ho := Lib.hid ho; clear hs hb6 ha hb hr ho
              cases s with
              | false =>
                go_wp2_with fail
                refine bodyPost_spn2 rfl rfl rfl (pair_set _ _ Hr.out) rfl ?_
                exact ⟨ret_spn2 (by rw [Hval.out]; rfl) (by rw [Hval.out]; rfl) (by rw [Hok.out] <;> rfl), pair_bel _ _ (below_on Hw.out Hb6.out) Hle.out⟩
              | true =>
                go_wp2_with fail
                refine bodyPost_spn2 rfl rfl rfl (pair_set _ _ Hr.out) rfl ?_
                exact ⟨ret_spn2 (by rw [Hval.out]; rfl) (by rw [Hval.out]; rfl) (by rw [Hok.out] <;> rfl), pair_bel _ _ (below_on Hw.out Hb6.out) Hle.out⟩
          | true =>
            have hZ := HO.out lp hi hl2 hh
            obtain ⟨s, hs⟩ : ∃ z, z = mayS (lp.data.toList, hi.data.toList) := ⟨_, rfl⟩
            rw [← hs] at hZ
            have hok := Hok.out
            have hval := Hval.out
            simp only [reduceCtorEq, eq_self, and_self, true_and, and_true, false_and, and_false, or_true, true_or, or_false, false_or, or_self, if_true, if_false, ite_true, ite_false, Bool.true_and, Bool.and_true, ← hs] at hok hval
            clear hs Hok Hval
            have HZ := Lib.hid hZ; have Hok := Lib.hid hok; have Hval := Lib.hid hval; clear hZ hok hval
            go_wp2_with fail
            refine (HZ.out _ Hb4.out).mono ?_
            rintro e w5 ⟨rfl, hs⟩
            have hb5 := Hb4.out.trans (hs.mono Hb4.out.size)
            have ha := heap_below hs Ha.out
            clear Ha a0 a1 a2 a3
            obtain ⟨a0, a1, a2, a3⟩ := pair_cells ha
            have hb := heap_below hs Hb.out
            clear Hb b0 b1 b2 b3
            obtain ⟨b0, b1, b2, b3⟩ := pair_cells hb
            have hr := heap_below hs Hr.out
            clear Hr r0 r1 r2 r3
            obtain ⟨r0, r1, r2, r3⟩ := pair_cells hr
            have ho := heap_below hs Ho.out
            clear Ho o0 o1 o2 o3
            obtain ⟨o0, o1, o2, o3⟩ := pair_cells ho
            have Hs := Lib.hid hs; have Hb5 := Lib.hid hb5; have Ha := Lib.hid ha; have Hb := Lib.hid hb; have Hr := Lib.hid hr; have Ho := Lib.hid ho; clear hs hb5 ha hb hr ho
            cases s with
            | false =>
              go_wp2_with fail
              refine bodyPost_spn2 rfl rfl rfl (pair_set _ _ Hr.out) rfl ?_
              exact ⟨ret_spn2 (by rw [Hval.out]; rfl) (by rw [Hval.out]; rfl) (by rw [Hok.out] <;> rfl), pair_bel _ _ (below_on Hw.out Hb5.out) Hle.out⟩
            | true =>
              go_wp2_with fail
              refine bodyPost_spn2 rfl rfl rfl (pair_set _ _ Hr.out) rfl ?_
              exact ⟨ret_spn2 (by rw [Hval.out]; rfl) (by rw [Hval.out]; rfl) (by rw [Hok.out] <;> rfl), pair_bel _ _ (below_on Hw.out Hb5.out) Hle.out⟩
      | true =>
        cases d3 with
        | false =>
          cases d4 with
          | false =>
            go_wp2_with fail
            refine (HY.out _ Hb3.out).mono ?_
            rintro e w4 ⟨rfl, hs⟩
            have hb4 := Hb3.out.trans (hs.mono Hb3.out.size)
            have ha := heap_below hs Ha.out
            clear Ha a0 a1 a2 a3
            obtain ⟨a0, a1, a2, a3⟩ := pair_cells ha
            have hb := heap_below hs Hb.out
            clear Hb b0 b1 b2 b3
            obtain ⟨b0, b1, b2, b3⟩ := pair_cells hb
            have hr := heap_below hs Hr.out
            clear Hr r0 r1 r2 r3
            obtain ⟨r0, r1, r2, r3⟩ := pair_cells hr
            have ho := heap_below hs Ho.out
            clear Ho o0 o1 o2 o3
            obtain ⟨o0, o1, o2, o3⟩ := pair_cells ho
            have Hs := Lib.hid hs; have Hb4 := Lib.hid hb4; have Ha := Lib.hid ha; have Hb := Lib.hid hb; have Hr := Lib.hid hr; have Ho := Lib.hid ho; clear hs hb4 ha hb hr ho
            cases ry with
            | false =>
              have hZ := HO.out lo hi hl hh
              obtain ⟨s, hs⟩ : ∃ z, z = mayS (lo.data.toList, hi.data.toList) := ⟨_, rfl⟩
              rw [← hs] at hZ
              have hok := Hok.out
              have hval := Hval.out
              simp only [reduceCtorEq, eq_self, and_self, true_and, and_true, false_and, and_false, or_true, true_or, or_false, false_or, or_self, if_true, if_false, ite_true, ite_false, Bool.true_and, Bool.and_true, ← hs] at hok hval
              clear hs Hok Hval
              have HZ := Lib.hid hZ; have Hok := Lib.hid hok; have Hval := Lib.hid hval; clear hZ hok hval
              go_wp2_with fail
              refine (HZ.out _ Hb4.out).mono ?_
              rintro e w5 ⟨rfl, hs⟩
              have hb5 := Hb4.out.trans (hs.mono Hb4.out.size)
              have ha := heap_below hs Ha.out
              clear Ha a0 a1 a2 a3
              obtain ⟨a0, a1, a2, a3⟩ := pair_cells ha
              have hb := heap_below hs Hb.out
              clear Hb b0 b1 b2 b3
              obtain ⟨b0, b1, b2, b3⟩ := pair_cells hb
              have hr := heap_below hs Hr.out
              clear Hr r0 r1 r2 r3
              obtain ⟨r0, r1, r2, r3⟩ := pair_cells hr
              have ho := heap_below hs Ho.out
              clear Ho o0 o1 o2 o3
              obtain ⟨o0, o1, o2, o3⟩ := pair_cells ho
              have Hs := Lib.hid hs; have Hb5 := Lib.hid hb5; have Ha := Lib.hid ha; have Hb := Lib.hid hb; have Hr := Lib.hid hr; have Ho := Lib.hid ho; clear hs hb5 ha hb hr ho
              cases s with
              | false =>
                go_wp2_with fail
                refine bodyPost_spn2 rfl rfl rfl (pair_set _ _ Hr.out) rfl ?_
                exact ⟨ret_spn2 (by rw [Hval.out]; rfl) (by rw [Hval.out]; rfl) (by rw [Hok.out] <;> rfl), pair_bel _ _ (below_on Hw.out Hb5.out) Hle.out⟩
              | true =>
                go_wp2_with fail
                refine bodyPost_spn2 rfl rfl rfl (pair_set _ _ Hr.out) rfl ?_
                exact ⟨ret_spn2 (by rw [Hval.out]; rfl) (by rw [Hval.out]; rfl) (by rw [Hok.out] <;> rfl), pair_bel _ _ (below_on Hw.out Hb5.out) Hle.out⟩
            | true =>
              go_upto_region 8 with (fail)
              obtain ⟨w5, hv⟩ : ∃ W, W = w4.setCell ⟨go, 1, none⟩ (.string hj) := ⟨_, rfl⟩
              have hb5 : Below w0.heap.size w0 w5 := by rw [hv]; exact Hb4.out.setCell (p := ⟨go, 1, none⟩) Hgeo.out _
              have ha : w5.heap[nb]? = some (.cells #[.string lo, .string hi] 33 (0, 0)) := by rw [hv, Below.heap_setCell _ _ _ _ Hneao.out]; exact Ha.out
              clear Ha a0 a1 a2 a3
              obtain ⟨a0, a1, a2, a3⟩ := pair_cells ha
              have hb : w5.heap[nb + 1]? = some (.cells #[.string lp, .string hj] 33 (0, 0)) := by rw [hv, Below.heap_setCell _ _ _ _ Hnebo.out]; exact Hb.out
              clear Hb b0 b1 b2 b3
              obtain ⟨b0, b1, b2, b3⟩ := pair_cells hb
              have hr : w5.heap[nb + 1 + 1]? = some (.cells #[.string ⟨#[]⟩, .string ⟨#[]⟩] 33 (0, 0)) := by rw [hv, Below.heap_setCell _ _ _ _ Hnero.out]; exact Hr.out
              clear Hr r0 r1 r2 r3
              obtain ⟨r0, r1, r2, r3⟩ := pair_cells hr
              have ho : w5.heap[go]? = some (.cells #[.string lo, .string hj] 33 (0, 0)) := by rw [hv]; exact heap_setCell_same _ go 1 _ _ _ Ho.out
              clear Ho o0 o1 o2 o3
              obtain ⟨o0, o1, o2, o3⟩ := pair_cells ho
              rw [← hv]
              clear hv
              have Hb5 := Lib.hid hb5; have Ha := Lib.hid ha; have Hb := Lib.hid hb; have Hr := Lib.hid hr; have Ho := Lib.hid ho; clear hb5 ha hb hr ho
              have hZ := HO.out lo hj hl hh2
              obtain ⟨s, hs⟩ : ∃ z, z = mayS (lo.data.toList, hj.data.toList) := ⟨_, rfl⟩
              rw [← hs] at hZ
              have hok := Hok.out
              have hval := Hval.out
              simp only [reduceCtorEq, eq_self, and_self, true_and, and_true, false_and, and_false, or_true, true_or, or_false, false_or, or_self, if_true, if_false, ite_true, ite_false, Bool.true_and, Bool.and_true, ← hs] at hok hval
              clear hs Hok Hval
              have HZ := Lib.hid hZ; have Hok := Lib.hid hok; have Hval := Lib.hid hval; clear hZ hok hval
              go_wp2_with fail
              refine (HZ.out _ Hb5.out).mono ?_
              rintro e w6 ⟨rfl, hs⟩
              have hb6 := Hb5.out.trans (hs.mono Hb5.out.size)
              have ha := heap_below hs Ha.out
              clear Ha a0 a1 a2 a3
              obtain ⟨a0, a1, a2, a3⟩ := pair_cells ha
              have hb := heap_below hs Hb.out
              clear Hb b0 b1 b2 b3
              obtain ⟨b0, b1, b2, b3⟩ := pair_cells hb
              have hr := heap_below hs Hr.out
              clear Hr r0 r1 r2 r3
              obtain ⟨r0, r1, r2, r3⟩ := pair_cells hr
              have ho := heap_below hs Ho.out
              clear Ho o0 o1 o2 o3
              obtain ⟨o0, o1, o2, o3⟩ := pair_cells ho
              have Hs := Lib.hid hs; have Hb6 := Lib.hid hb6; have Ha := Lib.hid ha; have Hb := Lib.hid hb; have Hr := Lib.hid hr; have Ho := Lib.hid ho; clear hs hb6 ha hb hr ho
              cases s with
              | false =>
                go_wp2_with fail
                refine bodyPost_spn2 rfl rfl rfl (pair_set _ _ Hr.out) rfl ?_
                exact ⟨ret_spn2 (by rw [Hval.out]; rfl) (by rw [Hval.out]; rfl) (by rw [Hok.out] <;> rfl), pair_bel _ _ (below_on Hw.out Hb6.out) Hle.out⟩
              | true =>
                go_wp2_with fail
                refine bodyPost_spn2 rfl rfl rfl (pair_set _ _ Hr.out) rfl ?_
                exact ⟨ret_spn2 (by rw [Hval.out]; rfl) (by rw [Hval.out]; rfl) (by rw [Hok.out] <;> rfl), pair_bel _ _ (below_on Hw.out Hb6.out) Hle.out⟩
          | true =>
            go_upto_region 8 with (fail)
            obtain ⟨w4, hv⟩ : ∃ W, W = w3.setCell ⟨go, 1, none⟩ (.string hj) := ⟨_, rfl⟩
            have hb4 : Below w0.heap.size w0 w4 := by rw [hv]; exact Hb3.out.setCell (p := ⟨go, 1, none⟩) Hgeo.out _
            have ha : w4.heap[nb]? = some (.cells #[.string lo, .string hi] 33 (0, 0)) := by rw [hv, Below.heap_setCell _ _ _ _ Hneao.out]; exact Ha.out
            clear Ha a0 a1 a2 a3
            obtain ⟨a0, a1, a2, a3⟩ := pair_cells ha
            have hb : w4.heap[nb + 1]? = some (.cells #[.string lp, .string hj] 33 (0, 0)) := by rw [hv, Below.heap_setCell _ _ _ _ Hnebo.out]; exact Hb.out
            clear Hb b0 b1 b2 b3
            obtain ⟨b0, b1, b2, b3⟩ := pair_cells hb
            have hr : w4.heap[nb + 1 + 1]? = some (.cells #[.string ⟨#[]⟩, .string ⟨#[]⟩] 33 (0, 0)) := by rw [hv, Below.heap_setCell _ _ _ _ Hnero.out]; exact Hr.out
            clear Hr r0 r1 r2 r3
            obtain ⟨r0, r1, r2, r3⟩ := pair_cells hr
            have ho : w4.heap[go]? = some (.cells #[.string lo, .string hj] 33 (0, 0)) := by rw [hv]; exact heap_setCell_same _ go 1 _ _ _ Ho.out
            clear Ho o0 o1 o2 o3
            obtain ⟨o0, o1, o2, o3⟩ := pair_cells ho
            rw [← hv]
            clear hv
            have Hb4 := Lib.hid hb4; have Ha := Lib.hid ha; have Hb := Lib.hid hb; have Hr := Lib.hid hr; have Ho := Lib.hid ho; clear hb4 ha hb hr ho
            have hZ := HO.out lo hj hl hh2
            obtain ⟨s, hs⟩ : ∃ z, z = mayS (lo.data.toList, hj.data.toList) := ⟨_, rfl⟩
            rw [← hs] at hZ
            have hok := Hok.out
            have hval := Hval.out
            simp only [reduceCtorEq, eq_self, and_self, true_and, and_true, false_and, and_false, or_true, true_or, or_false, false_or, or_self, if_true, if_false, ite_true, ite_false, Bool.true_and, Bool.and_true, ← hs] at hok hval
            clear hs Hok Hval
            have HZ := Lib.hid hZ; have Hok := Lib.hid hok; have Hval := Lib.hid hval; clear hZ hok hval
            go_wp2_with fail
            refine (HZ.out _ Hb4.out).mono ?_
            rintro e w5 ⟨rfl, hs⟩
            have hb5 := Hb4.out.trans (hs.mono Hb4.out.size)
            have ha := heap_below hs Ha.out
            clear Ha a0 a1 a2 a3
            obtain ⟨a0, a1, a2, a3⟩ := pair_cells ha
            have hb := heap_below hs Hb.out
            clear Hb b0 b1 b2 b3
            obtain ⟨b0, b1, b2, b3⟩ := pair_cells hb
            have hr := heap_below hs Hr.out
            clear Hr r0 r1 r2 r3
            obtain ⟨r0, r1, r2, r3⟩ := pair_cells hr
            have ho := heap_below hs Ho.out
            clear Ho o0 o1 o2 o3
            obtain ⟨o0, o1, o2, o3⟩ := pair_cells ho
            have Hs := Lib.hid hs; have Hb5 := Lib.hid hb5; have Ha := Lib.hid ha; have Hb := Lib.hid hb; have Hr := Lib.hid hr; have Ho := Lib.hid ho; clear hs hb5 ha hb hr ho
            cases s with
            | false =>
              go_wp2_with fail
              refine bodyPost_spn2 rfl rfl rfl (pair_set _ _ Hr.out) rfl ?_
              exact ⟨ret_spn2 (by rw [Hval.out]; rfl) (by rw [Hval.out]; rfl) (by rw [Hok.out] <;> rfl), pair_bel _ _ (below_on Hw.out Hb5.out) Hle.out⟩
            | true =>
              go_wp2_with fail
              refine bodyPost_spn2 rfl rfl rfl (pair_set _ _ Hr.out) rfl ?_
              exact ⟨ret_spn2 (by rw [Hval.out]; rfl) (by rw [Hval.out]; rfl) (by rw [Hok.out] <;> rfl), pair_bel _ _ (below_on Hw.out Hb5.out) Hle.out⟩
        | true =>
          have hZ := HO.out lo hi hl hh
          obtain ⟨s, hs⟩ : ∃ z, z = mayS (lo.data.toList, hi.data.toList) := ⟨_, rfl⟩
          rw [← hs] at hZ
          have hok := Hok.out
          have hval := Hval.out
          simp only [reduceCtorEq, eq_self, and_self, true_and, and_true, false_and, and_false, or_true, true_or, or_false, false_or, or_self, if_true, if_false, ite_true, ite_false, Bool.true_and, Bool.and_true, ← hs] at hok hval
          clear hs Hok Hval
          have HZ := Lib.hid hZ; have Hok := Lib.hid hok; have Hval := Lib.hid hval; clear hZ hok hval
          go_wp2_with fail
          refine (HZ.out _ Hb3.out).mono ?_
          rintro e w4 ⟨rfl, hs⟩
          have hb4 := Hb3.out.trans (hs.mono Hb3.out.size)
          have ha := heap_below hs Ha.out
          clear Ha a0 a1 a2 a3
          obtain ⟨a0, a1, a2, a3⟩ := pair_cells ha
          have hb := heap_below hs Hb.out
          clear Hb b0 b1 b2 b3
          obtain ⟨b0, b1, b2, b3⟩ := pair_cells hb
          have hr := heap_below hs Hr.out
          clear Hr r0 r1 r2 r3
          obtain ⟨r0, r1, r2, r3⟩ := pair_cells hr
          have ho := heap_below hs Ho.out
          clear Ho o0 o1 o2 o3
          obtain ⟨o0, o1, o2, o3⟩ := pair_cells ho
          have Hs := Lib.hid hs; have Hb4 := Lib.hid hb4; have Ha := Lib.hid ha; have Hb := Lib.hid hb; have Hr := Lib.hid hr; have Ho := Lib.hid ho; clear hs hb4 ha hb hr ho
          cases s with
          | false =>
            go_wp2_with fail
            refine bodyPost_spn2 rfl rfl rfl (pair_set _ _ Hr.out) rfl ?_
            exact ⟨ret_spn2 (by rw [Hval.out]; rfl) (by rw [Hval.out]; rfl) (by rw [Hok.out] <;> rfl), pair_bel _ _ (below_on Hw.out Hb4.out) Hle.out⟩
          | true =>
            go_wp2_with fail
            refine bodyPost_spn2 rfl rfl rfl (pair_set _ _ Hr.out) rfl ?_
            exact ⟨ret_spn2 (by rw [Hval.out]; rfl) (by rw [Hval.out]; rfl) (by rw [Hok.out] <;> rfl), pair_bel _ _ (below_on Hw.out Hb4.out) Hle.out⟩
end Go.Proofs.YtblkdcapampniaaDoor
