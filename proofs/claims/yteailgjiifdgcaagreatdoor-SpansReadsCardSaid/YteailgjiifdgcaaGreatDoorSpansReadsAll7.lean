/- Walks and plain facts. Texts merged: SpnRm, SpsW, SpsB, Ins. Condition: none beyond what each says. -/
import Derived.Deep.DeepCutAuto
import Derived.Test.YteailgjiifdgcaaGreatDoorSpansReadsAll1
import Derived.Test.YteailgjiifdgcaaGreatDoorSpansReadsAll2
import Derived.Test.YteailgjiifdgcaaGreatDoorSpansReadsAll3
import Derived.Test.YteailgjiifdgcaaGreatDoorSpansReadsAll4
import Derived.Test.YteailgjiifdgcaaGreatDoorSpansReadsAll5
import Derived.Test.YteailgjiifdgcaaGreatDoorSpansReadsAll6
/- The walk of the document's Meet of spans. Condition: texts of at most a million bytes. -/
namespace Go.Proofs.YteailgjiifdgcaaGreatDoor
open Go.RowKit Go.Lib VerN

set_option linter.unusedSimpArgs false
theorem refMt_val (lo hi lp hj : ByteArray) : (if lp.size ≠ 0 ∧ (lo.size = 0 ∨ lessL lo.data.toList lp.data.toList = true) then lp else lo) = laterS lo lp ∧ (if hj.size ≠ 0 ∧ (hi.size = 0 ∨ lessL hj.data.toList hi.data.toList = true) then hj else hi) = soonerS hi hj := by
  have h := refMeet_is (lo.data.toList, hi.data.toList) (lp.data.toList, hj.data.toList)
  have h1 := congrArg Prod.fst h
  have h2 := congrArg Prod.snd h
  refine ⟨Txt.ext ?_, Txt.ext ?_⟩
  · rw [laterS_data, if_data]
    simp only [← nil_size, ne_eq]
    exact h1
  · rw [soonerS_data, if_data]
    simp only [← nil_size, ne_eq]
    exact h2
set_option maxRecDepth 10000 in
set_option maxHeartbeats 8000000 in
theorem refMeet_any (lo hi lp hj : ByteArray) (hl : lo.size ≤ 1000000) (hh : hi.size ≤ 1000000) (hl2 : lp.size ≤ 1000000) (hh2 : hj.size ≤ 1000000) (w : World) : Calls Tryz.prog 118 #[.agg #[.string lo, .string hi], .agg #[.string lp, .string hj]] w fun e w' => e = .returned (.tuple #[.agg #[.string (mtV lo hi lp hj).1, .string (mtV lo hi lp hj).2], .bool (meetOk (lo.data.toList, hi.data.toList) (lp.data.toList, hj.data.toList))]) ∧ Below w.heap.size w w' := by
  obtain ⟨w0, hW0⟩ : ∃ W0, W0 = ((w.alloc (.cells #[.string lo, .string hi] 34)).alloc (.cells #[.string lp, .string hj] 34)).alloc (.cells #[.string ⟨#[]⟩, .string ⟨#[]⟩] 34) := ⟨_, rfl⟩
  obtain ⟨nb, hnb⟩ : ∃ nb, nb = w.heap.size := ⟨_, rfl⟩
  have hw : Below w.heap.size w w0 := by rw [hW0]; exact ((below_alloc1 _ _).alloc (below_alloc1 _ _).size _).alloc ((below_alloc1 _ _).alloc (below_alloc1 _ _).size _).size _
  have hb0 : Below w0.heap.size w0 w0 := Below.refl _ _
  have ha : w0.heap[nb]? = some (.cells #[.string lo, .string hi] 34 (0, 0)) := by rw [hW0, hnb]; exact pbox3_0 _ _ _ _ _ _ _
  obtain ⟨a0, a1, a2, a3⟩ := pair_cells ha
  have hb : w0.heap[nb + 1]? = some (.cells #[.string lp, .string hj] 34 (0, 0)) := by rw [hW0, hnb]; exact pbox3_1 _ _ _ _ _ _ _
  obtain ⟨b0, b1, b2, b3⟩ := pair_cells hb
  have hr : w0.heap[nb + 1 + 1]? = some (.cells #[.string ⟨#[]⟩, .string ⟨#[]⟩] 34 (0, 0)) := by rw [hW0, hnb]; exact pbox3_2 _ _ _ _ _ _ _
  obtain ⟨r0, r1, r2, r3⟩ := pair_cells hr
  have hA := fun (W : World) (_ : Below w0.heap.size w0 W) => refMay2_any lo hi hl hh W
  have hB := fun (W : World) (_ : Below w0.heap.size w0 W) => refMay2_any lp hj hl2 hh2 W
  have hX := fun (W : World) (_ : Below w0.heap.size w0 W) => less1_any lo lp hl hl2 W
  have hY := fun (W : World) (_ : Below w0.heap.size w0 W) => less1_any hj hi hh2 hh W
  have hO := fun (x y : ByteArray) (hx : x.size ≤ 1000000) (hy : y.size ≤ 1000000) (W : World) (_ : Below w0.heap.size w0 W) => refMay2_any x y hx hy W
  have hvv := refMt_val lo hi lp hj
  obtain ⟨p, hp⟩ : ∃ x, x = mayS (lo.data.toList, hi.data.toList) := ⟨_, rfl⟩
  obtain ⟨q, hq⟩ : ∃ x, x = mayS (lp.data.toList, hj.data.toList) := ⟨_, rfl⟩
  obtain ⟨rx, hrx⟩ : ∃ x, x = lessL lo.data.toList lp.data.toList := ⟨_, rfl⟩
  obtain ⟨ry, hry⟩ : ∃ x, x = lessL hj.data.toList hi.data.toList := ⟨_, rfl⟩
  obtain ⟨d1, k1⟩ : ∃ x, lp.toList.isEmpty = x := ⟨_, rfl⟩
  obtain ⟨d2, k2⟩ : ∃ x, lo.toList.isEmpty = x := ⟨_, rfl⟩
  obtain ⟨d3, k3⟩ : ∃ x, hj.toList.isEmpty = x := ⟨_, rfl⟩
  obtain ⟨d4, k4⟩ : ∃ x, hi.toList.isEmpty = x := ⟨_, rfl⟩
  rw [← hrx, ← hry] at hvv
  have hlv : laterS lo lp = if d1 = false ∧ (d2 = true ∨ rx = true) then lp else lo := by rw [← hvv.1, ← k1, ← k2]; simp only [Txt.no_dec, decide_eq_false_iff_not, ne_eq, decide_eq_true_eq]
  have hsv : soonerS hi hj = if d3 = false ∧ (d4 = true ∨ ry = true) then hj else hi := by rw [← hvv.2, ← k3, ← k4]; simp only [Txt.no_dec, decide_eq_false_iff_not, ne_eq, decide_eq_true_eq]
  have hok : meetOk (lo.data.toList, hi.data.toList) (lp.data.toList, hj.data.toList) = (p && q && mayS ((laterS lo lp).data.toList, (soonerS hi hj).data.toList)) := by
    unfold meetOk meetO
    rw [hp, hq, laterS_data, soonerS_data]
  have hval : mtV lo hi lp hj = if (p && q && mayS ((laterS lo lp).data.toList, (soonerS hi hj).data.toList)) = true then (laterS lo lp, soonerS hi hj) else (⟨#[]⟩, ⟨#[]⟩) := by unfold mtV; rw [hok]
  have hle : w.heap.size ≤ nb + 1 + 1 := by omega
  rw [← hp] at hA
  rw [← hq] at hB
  rw [← hrx] at hX
  rw [← hry] at hY
  rw [hlv, hsv] at hok hval
  clear hp hq hrx hry hvv hlv hsv
  have HA := Lib.hid hA; have HB := Lib.hid hB; have HO := Lib.hid hO; have HX := Lib.hid hX; have HY := Lib.hid hY; have Hok := Lib.hid hok; have Hval := Lib.hid hval; have Hle := Lib.hid hle; have Hw := Lib.hid hw; have Hb0 := Lib.hid hb0; have Ha := Lib.hid ha; have Hb := Lib.hid hb; have Hr := Lib.hid hr; clear hA hB hO hX hY hok hval hle hw hb0 ha hb hr
  go_enter Tryz.func118, Tryz.ntmps118
  go_upto_region 1 with (fail)
  rw [← hW0, ← hnb]
  clear hW0 hnb
  go_wp2_with fail
  refine (HA.out _ Hb0.out).mono ?_
  rintro e w1 ⟨rfl, hs⟩
  have hb1 := Hb0.out.trans (hs.mono Hb0.out.size)
  have ha := heap_below hs Ha.out
  clear Ha a0 a1 a2 a3
  obtain ⟨a0, a1, a2, a3⟩ := pair_cells ha
  have hb := heap_below hs Hb.out
  clear Hb b0 b1 b2 b3
  obtain ⟨b0, b1, b2, b3⟩ := pair_cells hb
  have hr := heap_below hs Hr.out
  clear Hr r0 r1 r2 r3
  obtain ⟨r0, r1, r2, r3⟩ := pair_cells hr
  have Hs := Lib.hid hs; have Hb1 := Lib.hid hb1; have Ha := Lib.hid ha; have Hb := Lib.hid hb; have Hr := Lib.hid hr; clear hs hb1 ha hb hr
  cases p with
  | false =>
    go_wp2_with fail
    refine bodyPost_spn2 rfl rfl rfl (pair_set _ _ Hr.out) rfl ?_
    exact ⟨ret_spn2 (by rw [Hval.out]; rfl) (by rw [Hval.out]; rfl) (by rw [Hok.out] <;> rfl), pair_bel _ _ (below_on Hw.out Hb1.out) Hle.out⟩
  | true =>
    go_wp2_with fail
    refine (HB.out _ Hb1.out).mono ?_
    rintro e w2 ⟨rfl, hs⟩
    have hb2 := Hb1.out.trans (hs.mono Hb1.out.size)
    have ha := heap_below hs Ha.out
    clear Ha a0 a1 a2 a3
    obtain ⟨a0, a1, a2, a3⟩ := pair_cells ha
    have hb := heap_below hs Hb.out
    clear Hb b0 b1 b2 b3
    obtain ⟨b0, b1, b2, b3⟩ := pair_cells hb
    have hr := heap_below hs Hr.out
    clear Hr r0 r1 r2 r3
    obtain ⟨r0, r1, r2, r3⟩ := pair_cells hr
    have Hs := Lib.hid hs; have Hb2 := Lib.hid hb2; have Ha := Lib.hid ha; have Hb := Lib.hid hb; have Hr := Lib.hid hr; clear hs hb2 ha hb hr
    cases q with
    | false =>
      go_wp2_with fail
      refine bodyPost_spn2 rfl rfl rfl (pair_set _ _ Hr.out) rfl ?_
      exact ⟨ret_spn2 (by rw [Hval.out]; rfl) (by rw [Hval.out]; rfl) (by rw [Hok.out] <;> rfl), pair_bel _ _ (below_on Hw.out Hb2.out) Hle.out⟩
    | true =>
      go_upto_region 4 with (fail)
      obtain ⟨w3, hv⟩ : ∃ W, W = w2.alloc (.cells #[.string lo, .string hi] 34) := ⟨_, rfl⟩
      obtain ⟨go, hg⟩ : ∃ g, g = w2.heap.size := ⟨_, rfl⟩
      have hs : Below w2.heap.size w2 w3 := by rw [hv]; exact below_alloc1 _ _
      have hb3 := Hb2.out.trans (hs.mono Hb2.out.size)
      have hgeo : w0.heap.size ≤ go := by rw [hg]; exact Hb2.out.size
      have hneao : nb ≠ go := by have := (Array.getElem?_eq_some_iff.1 Ha.out).1; omega
      have hnebo : nb + 1 ≠ go := by have := (Array.getElem?_eq_some_iff.1 Hb.out).1; omega
      have hnero : nb + 1 + 1 ≠ go := by have := (Array.getElem?_eq_some_iff.1 Hr.out).1; omega
      have ha := heap_below hs Ha.out
      clear Ha a0 a1 a2 a3
      obtain ⟨a0, a1, a2, a3⟩ := pair_cells ha
      have hb := heap_below hs Hb.out
      clear Hb b0 b1 b2 b3
      obtain ⟨b0, b1, b2, b3⟩ := pair_cells hb
      have hr := heap_below hs Hr.out
      clear Hr r0 r1 r2 r3
      obtain ⟨r0, r1, r2, r3⟩ := pair_cells hr
      have ho : w3.heap[go]? = some (.cells #[.string lo, .string hi] 34 (0, 0)) := by rw [hv, hg]; exact heap_alloc_new _ _
      obtain ⟨o0, o1, o2, o3⟩ := pair_cells ho
      rw [← hv, ← hg]
      clear hv hg
      have Hs := Lib.hid hs; have Hb3 := Lib.hid hb3; have Hgeo := Lib.hid hgeo; have Ha := Lib.hid ha; have Hb := Lib.hid hb; have Hr := Lib.hid hr; have Ho := Lib.hid ho; have Hneao := Lib.hid hneao; have Hnebo := Lib.hid hnebo; have Hnero := Lib.hid hnero; clear hs hb3 hgeo ha hb hr ho hneao hnebo hnero
      cases d1 with
      | false =>
        cases d2 with
        | false =>
          go_wp2_with fail
          refine (HX.out _ Hb3.out).mono ?_
          rintro e w4 ⟨rfl, hs⟩
          have hb4 := Hb3.out.trans (hs.mono Hb3.out.size)
          have ha := heap_below hs Ha.out
          clear Ha a0 a1 a2 a3
          obtain ⟨a0, a1, a2, a3⟩ := pair_cells ha
          have hb := heap_below hs Hb.out
          clear Hb b0 b1 b2 b3
          obtain ⟨b0, b1, b2, b3⟩ := pair_cells hb
          have hr := heap_below hs Hr.out
          clear Hr r0 r1 r2 r3
          obtain ⟨r0, r1, r2, r3⟩ := pair_cells hr
          have ho := heap_below hs Ho.out
          clear Ho o0 o1 o2 o3
          obtain ⟨o0, o1, o2, o3⟩ := pair_cells ho
          have Hs := Lib.hid hs; have Hb4 := Lib.hid hb4; have Ha := Lib.hid ha; have Hb := Lib.hid hb; have Hr := Lib.hid hr; have Ho := Lib.hid ho; clear hs hb4 ha hb hr ho
          cases rx with
          | false =>
            cases d3 with
            | false =>
              cases d4 with
              | false =>
                go_wp2_with fail
                refine (HY.out _ Hb4.out).mono ?_
                rintro e w5 ⟨rfl, hs⟩
                have hb5 := Hb4.out.trans (hs.mono Hb4.out.size)
                have ha := heap_below hs Ha.out
                clear Ha a0 a1 a2 a3
                obtain ⟨a0, a1, a2, a3⟩ := pair_cells ha
                have hb := heap_below hs Hb.out
                clear Hb b0 b1 b2 b3
                obtain ⟨b0, b1, b2, b3⟩ := pair_cells hb
                have hr := heap_below hs Hr.out
                clear Hr r0 r1 r2 r3
                obtain ⟨r0, r1, r2, r3⟩ := pair_cells hr
                have ho := heap_below hs Ho.out
                clear Ho o0 o1 o2 o3
                obtain ⟨o0, o1, o2, o3⟩ := pair_cells ho
                have Hs := Lib.hid hs; have Hb5 := Lib.hid hb5; have Ha := Lib.hid ha; have Hb := Lib.hid hb; have Hr := Lib.hid hr; have Ho := Lib.hid ho; clear hs hb5 ha hb hr ho
                cases ry with
                | false =>
                  have hZ := HO.out lo hi hl hh
                  obtain ⟨s, hs⟩ : ∃ z, z = mayS (lo.data.toList, hi.data.toList) := ⟨_, rfl⟩
                  rw [← hs] at hZ
                  have hok := Hok.out
                  have hval := Hval.out
                  simp only [reduceCtorEq, eq_self, and_self, true_and, and_true, false_and, and_false, or_true, true_or, or_false, false_or, or_self, if_true, if_false, ite_true, ite_false, Bool.true_and, Bool.and_true, ← hs] at hok hval
                  clear hs Hok Hval
                  have HZ := Lib.hid hZ; have Hok := Lib.hid hok; have Hval := Lib.hid hval; clear hZ hok hval
                  go_wp2_with fail
                  refine (HZ.out _ Hb5.out).mono ?_
                  rintro e w6 ⟨rfl, hs⟩
                  have hb6 := Hb5.out.trans (hs.mono Hb5.out.size)
                  have ha := heap_below hs Ha.out
                  clear Ha a0 a1 a2 a3
                  obtain ⟨a0, a1, a2, a3⟩ := pair_cells ha
                  have hb := heap_below hs Hb.out
                  clear Hb b0 b1 b2 b3
                  obtain ⟨b0, b1, b2, b3⟩ := pair_cells hb
                  have hr := heap_below hs Hr.out
                  clear Hr r0 r1 r2 r3
                  obtain ⟨r0, r1, r2, r3⟩ := pair_cells hr
                  have ho := heap_below hs Ho.out
                  clear Ho o0 o1 o2 o3
                  obtain ⟨o0, o1, o2, o3⟩ := pair_cells ho
                  have Hs := Lib.hid hs; have Hb6 := Lib.hid hb6; have Ha := Lib.hid ha; have Hb := Lib.hid hb; have Hr := Lib.hid hr; have Ho := Lib.hid ho; clear hs hb6 ha hb hr ho
                  cases s with
                  | false =>
                    go_wp2_with fail
                    refine bodyPost_spn2 rfl rfl rfl (pair_set _ _ Hr.out) rfl ?_
                    exact ⟨ret_spn2 (by rw [Hval.out]; rfl) (by rw [Hval.out]; rfl) (by rw [Hok.out] <;> rfl), pair_bel _ _ (below_on Hw.out Hb6.out) Hle.out⟩
                  | true =>
                    go_wp2_with fail
                    refine bodyPost_spn2 rfl rfl rfl (pair_set _ _ Hr.out) rfl ?_
                    exact ⟨ret_spn2 (by rw [Hval.out]; rfl) (by rw [Hval.out]; rfl) (by rw [Hok.out] <;> rfl), pair_bel _ _ (below_on Hw.out Hb6.out) Hle.out⟩
                | true =>
                  go_upto_region 8 with (fail)
                  obtain ⟨w6, hv⟩ : ∃ W, W = w5.setCell ⟨go, 1, none⟩ (.string hj) := ⟨_, rfl⟩
                  have hb6 : Below w0.heap.size w0 w6 := by rw [hv]; exact Hb5.out.setCell (p := ⟨go, 1, none⟩) Hgeo.out _
                  have ha : w6.heap[nb]? = some (.cells #[.string lo, .string hi] 34 (0, 0)) := by rw [hv, Below.heap_setCell _ _ _ _ Hneao.out]; exact Ha.out
                  clear Ha a0 a1 a2 a3
                  obtain ⟨a0, a1, a2, a3⟩ := pair_cells ha
                  have hb : w6.heap[nb + 1]? = some (.cells #[.string lp, .string hj] 34 (0, 0)) := by rw [hv, Below.heap_setCell _ _ _ _ Hnebo.out]; exact Hb.out
                  clear Hb b0 b1 b2 b3
                  obtain ⟨b0, b1, b2, b3⟩ := pair_cells hb
                  have hr : w6.heap[nb + 1 + 1]? = some (.cells #[.string ⟨#[]⟩, .string ⟨#[]⟩] 34 (0, 0)) := by rw [hv, Below.heap_setCell _ _ _ _ Hnero.out]; exact Hr.out
                  clear Hr r0 r1 r2 r3
                  obtain ⟨r0, r1, r2, r3⟩ := pair_cells hr
                  have ho : w6.heap[go]? = some (.cells #[.string lo, .string hj] 34 (0, 0)) := by rw [hv]; exact heap_setCell_same _ go 1 _ _ _ Ho.out
                  clear Ho o0 o1 o2 o3
                  obtain ⟨o0, o1, o2, o3⟩ := pair_cells ho
                  rw [← hv]
                  clear hv
                  have Hb6 := Lib.hid hb6; have Ha := Lib.hid ha; have Hb := Lib.hid hb; have Hr := Lib.hid hr; have Ho := Lib.hid ho; clear hb6 ha hb hr ho
                  have hZ := HO.out lo hj hl hh2
                  obtain ⟨s, hs⟩ : ∃ z, z = mayS (lo.data.toList, hj.data.toList) := ⟨_, rfl⟩
                  rw [← hs] at hZ
                  have hok := Hok.out
                  have hval := Hval.out
                  simp only [reduceCtorEq, eq_self, and_self, true_and, and_true, false_and, and_false, or_true, true_or, or_false, false_or, or_self, if_true, if_false, ite_true, ite_false, Bool.true_and, Bool.and_true, ← hs] at hok hval
                  clear hs Hok Hval
                  have HZ := Lib.hid hZ; have Hok := Lib.hid hok; have Hval := Lib.hid hval; clear hZ hok hval
                  go_wp2_with fail
                  refine (HZ.out _ Hb6.out).mono ?_
                  rintro e w7 ⟨rfl, hs⟩
                  have hb7 := Hb6.out.trans (hs.mono Hb6.out.size)
                  have ha := heap_below hs Ha.out
                  clear Ha a0 a1 a2 a3
                  obtain ⟨a0, a1, a2, a3⟩ := pair_cells ha
                  have hb := heap_below hs Hb.out
                  clear Hb b0 b1 b2 b3
                  obtain ⟨b0, b1, b2, b3⟩ := pair_cells hb
                  have hr := heap_below hs Hr.out
                  clear Hr r0 r1 r2 r3
                  obtain ⟨r0, r1, r2, r3⟩ := pair_cells hr
                  have ho := heap_below hs Ho.out
                  clear Ho o0 o1 o2 o3
                  obtain ⟨o0, o1, o2, o3⟩ := pair_cells ho
                  have Hs := Lib.hid hs; have Hb7 := Lib.hid hb7; have Ha := Lib.hid ha; have Hb := Lib.hid hb; have Hr := Lib.hid hr; have Ho := Lib.hid ho; clear hs hb7 ha hb hr ho
                  cases s with
                  | false =>
                    go_wp2_with fail
                    refine bodyPost_spn2 rfl rfl rfl (pair_set _ _ Hr.out) rfl ?_
                    exact ⟨ret_spn2 (by rw [Hval.out]; rfl) (by rw [Hval.out]; rfl) (by rw [Hok.out] <;> rfl), pair_bel _ _ (below_on Hw.out Hb7.out) Hle.out⟩
                  | true =>
                    go_wp2_with fail
                    refine bodyPost_spn2 rfl rfl rfl (pair_set _ _ Hr.out) rfl ?_
                    exact ⟨ret_spn2 (by rw [Hval.out]; rfl) (by rw [Hval.out]; rfl) (by rw [Hok.out] <;> rfl), pair_bel _ _ (below_on Hw.out Hb7.out) Hle.out⟩
              | true =>
                go_upto_region 8 with (fail)
                obtain ⟨w5, hv⟩ : ∃ W, W = w4.setCell ⟨go, 1, none⟩ (.string hj) := ⟨_, rfl⟩
                have hb5 : Below w0.heap.size w0 w5 := by rw [hv]; exact Hb4.out.setCell (p := ⟨go, 1, none⟩) Hgeo.out _
                have ha : w5.heap[nb]? = some (.cells #[.string lo, .string hi] 34 (0, 0)) := by rw [hv, Below.heap_setCell _ _ _ _ Hneao.out]; exact Ha.out
                clear Ha a0 a1 a2 a3
                obtain ⟨a0, a1, a2, a3⟩ := pair_cells ha
                have hb : w5.heap[nb + 1]? = some (.cells #[.string lp, .string hj] 34 (0, 0)) := by rw [hv, Below.heap_setCell _ _ _ _ Hnebo.out]; exact Hb.out
                clear Hb b0 b1 b2 b3
                obtain ⟨b0, b1, b2, b3⟩ := pair_cells hb
                have hr : w5.heap[nb + 1 + 1]? = some (.cells #[.string ⟨#[]⟩, .string ⟨#[]⟩] 34 (0, 0)) := by rw [hv, Below.heap_setCell _ _ _ _ Hnero.out]; exact Hr.out
                clear Hr r0 r1 r2 r3
                obtain ⟨r0, r1, r2, r3⟩ := pair_cells hr
                have ho : w5.heap[go]? = some (.cells #[.string lo, .string hj] 34 (0, 0)) := by rw [hv]; exact heap_setCell_same _ go 1 _ _ _ Ho.out
                clear Ho o0 o1 o2 o3
                obtain ⟨o0, o1, o2, o3⟩ := pair_cells ho
                rw [← hv]
                clear hv
                have Hb5 := Lib.hid hb5; have Ha := Lib.hid ha; have Hb := Lib.hid hb; have Hr := Lib.hid hr; have Ho := Lib.hid ho; clear hb5 ha hb hr ho
                have hZ := HO.out lo hj hl hh2
                obtain ⟨s, hs⟩ : ∃ z, z = mayS (lo.data.toList, hj.data.toList) := ⟨_, rfl⟩
                rw [← hs] at hZ
                have hok := Hok.out
                have hval := Hval.out
                simp only [reduceCtorEq, eq_self, and_self, true_and, and_true, false_and, and_false, or_true, true_or, or_false, false_or, or_self, if_true, if_false, ite_true, ite_false, Bool.true_and, Bool.and_true, ← hs] at hok hval
                clear hs Hok Hval
                have HZ := Lib.hid hZ; have Hok := Lib.hid hok; have Hval := Lib.hid hval; clear hZ hok hval
                go_wp2_with fail
                refine (HZ.out _ Hb5.out).mono ?_
                rintro e w6 ⟨rfl, hs⟩
                have hb6 := Hb5.out.trans (hs.mono Hb5.out.size)
                have ha := heap_below hs Ha.out
                clear Ha a0 a1 a2 a3
                obtain ⟨a0, a1, a2, a3⟩ := pair_cells ha
                have hb := heap_below hs Hb.out
                clear Hb b0 b1 b2 b3
                obtain ⟨b0, b1, b2, b3⟩ := pair_cells hb
                have hr := heap_below hs Hr.out
                clear Hr r0 r1 r2 r3
                obtain ⟨r0, r1, r2, r3⟩ := pair_cells hr
                have ho := heap_below hs Ho.out
                clear Ho o0 o1 o2 o3
                obtain ⟨o0, o1, o2, o3⟩ := pair_cells ho
                have Hs := Lib.hid hs; have Hb6 := Lib.hid hb6; have Ha := Lib.hid ha; have Hb := Lib.hid hb; have Hr := Lib.hid hr; have Ho := Lib.hid ho; clear hs hb6 ha hb hr ho
                cases s with
                | false =>
                  go_wp2_with fail
                  refine bodyPost_spn2 rfl rfl rfl (pair_set _ _ Hr.out) rfl ?_
                  exact ⟨ret_spn2 (by rw [Hval.out]; rfl) (by rw [Hval.out]; rfl) (by rw [Hok.out] <;> rfl), pair_bel _ _ (below_on Hw.out Hb6.out) Hle.out⟩
                | true =>
                  go_wp2_with fail
                  refine bodyPost_spn2 rfl rfl rfl (pair_set _ _ Hr.out) rfl ?_
                  exact ⟨ret_spn2 (by rw [Hval.out]; rfl) (by rw [Hval.out]; rfl) (by rw [Hok.out] <;> rfl), pair_bel _ _ (below_on Hw.out Hb6.out) Hle.out⟩
            | true =>
              have hZ := HO.out lo hi hl hh
              obtain ⟨s, hs⟩ : ∃ z, z = mayS (lo.data.toList, hi.data.toList) := ⟨_, rfl⟩
              rw [← hs] at hZ
              have hok := Hok.out
              have hval := Hval.out
              simp only [reduceCtorEq, eq_self, and_self, true_and, and_true, false_and, and_false, or_true, true_or, or_false, false_or, or_self, if_true, if_false, ite_true, ite_false, Bool.true_and, Bool.and_true, ← hs] at hok hval
              clear hs Hok Hval
              have HZ := Lib.hid hZ; have Hok := Lib.hid hok; have Hval := Lib.hid hval; clear hZ hok hval
              go_wp2_with fail
              refine (HZ.out _ Hb4.out).mono ?_
              rintro e w5 ⟨rfl, hs⟩
              have hb5 := Hb4.out.trans (hs.mono Hb4.out.size)
              have ha := heap_below hs Ha.out
              clear Ha a0 a1 a2 a3
              obtain ⟨a0, a1, a2, a3⟩ := pair_cells ha
              have hb := heap_below hs Hb.out
              clear Hb b0 b1 b2 b3
              obtain ⟨b0, b1, b2, b3⟩ := pair_cells hb
              have hr := heap_below hs Hr.out
              clear Hr r0 r1 r2 r3
              obtain ⟨r0, r1, r2, r3⟩ := pair_cells hr
              have ho := heap_below hs Ho.out
              clear Ho o0 o1 o2 o3
              obtain ⟨o0, o1, o2, o3⟩ := pair_cells ho
              have Hs := Lib.hid hs; have Hb5 := Lib.hid hb5; have Ha := Lib.hid ha; have Hb := Lib.hid hb; have Hr := Lib.hid hr; have Ho := Lib.hid ho; clear hs hb5 ha hb hr ho
              cases s with
              | false =>
                go_wp2_with fail
                refine bodyPost_spn2 rfl rfl rfl (pair_set _ _ Hr.out) rfl ?_
                exact ⟨ret_spn2 (by rw [Hval.out]; rfl) (by rw [Hval.out]; rfl) (by rw [Hok.out] <;> rfl), pair_bel _ _ (below_on Hw.out Hb5.out) Hle.out⟩
              | true =>
                go_wp2_with fail
                refine bodyPost_spn2 rfl rfl rfl (pair_set _ _ Hr.out) rfl ?_
                exact ⟨ret_spn2 (by rw [Hval.out]; rfl) (by rw [Hval.out]; rfl) (by rw [Hok.out] <;> rfl), pair_bel _ _ (below_on Hw.out Hb5.out) Hle.out⟩
          | true =>
            go_upto_region 6 with (fail)
            obtain ⟨w5, hv⟩ : ∃ W, W = w4.setCell ⟨go, 0, none⟩ (.string lp) := ⟨_, rfl⟩
            have hb5 : Below w0.heap.size w0 w5 := by rw [hv]; exact Hb4.out.setCell (p := ⟨go, 0, none⟩) Hgeo.out _
            have ha : w5.heap[nb]? = some (.cells #[.string lo, .string hi] 34 (0, 0)) := by rw [hv, Below.heap_setCell _ _ _ _ Hneao.out]; exact Ha.out
            clear Ha a0 a1 a2 a3
            obtain ⟨a0, a1, a2, a3⟩ := pair_cells ha
            have hb : w5.heap[nb + 1]? = some (.cells #[.string lp, .string hj] 34 (0, 0)) := by rw [hv, Below.heap_setCell _ _ _ _ Hnebo.out]; exact Hb.out
            clear Hb b0 b1 b2 b3
            obtain ⟨b0, b1, b2, b3⟩ := pair_cells hb
            have hr : w5.heap[nb + 1 + 1]? = some (.cells #[.string ⟨#[]⟩, .string ⟨#[]⟩] 34 (0, 0)) := by rw [hv, Below.heap_setCell _ _ _ _ Hnero.out]; exact Hr.out
            clear Hr r0 r1 r2 r3
            obtain ⟨r0, r1, r2, r3⟩ := pair_cells hr
            have ho : w5.heap[go]? = some (.cells #[.string lp, .string hi] 34 (0, 0)) := by rw [hv]; exact heap_setCell_same _ go 0 _ _ _ Ho.out
            clear Ho o0 o1 o2 o3
            obtain ⟨o0, o1, o2, o3⟩ := pair_cells ho
            rw [← hv]
            clear hv
            have Hb5 := Lib.hid hb5; have Ha := Lib.hid ha; have Hb := Lib.hid hb; have Hr := Lib.hid hr; have Ho := Lib.hid ho; clear hb5 ha hb hr ho
            cases d3 with
            | false =>
              cases d4 with
              | false =>
                go_wp2_with fail
                refine (HY.out _ Hb5.out).mono ?_
                rintro e w6 ⟨rfl, hs⟩
                have hb6 := Hb5.out.trans (hs.mono Hb5.out.size)
                have ha := heap_below hs Ha.out
                clear Ha a0 a1 a2 a3
                obtain ⟨a0, a1, a2, a3⟩ := pair_cells ha
                have hb := heap_below hs Hb.out
                clear Hb b0 b1 b2 b3
                obtain ⟨b0, b1, b2, b3⟩ := pair_cells hb
                have hr := heap_below hs Hr.out
                clear Hr r0 r1 r2 r3
                obtain ⟨r0, r1, r2, r3⟩ := pair_cells hr
                have ho := heap_below hs Ho.out
                clear Ho o0 o1 o2 o3
                obtain ⟨o0, o1, o2, o3⟩ := pair_cells ho
                have Hs := Lib.hid hs; have Hb6 := Lib.hid hb6; have Ha := Lib.hid ha; have Hb := Lib.hid hb; have Hr := Lib.hid hr; have Ho := Lib.hid ho; clear hs hb6 ha hb hr ho
                cases ry with
                | false =>
                  have hZ := HO.out lp hi hl2 hh
                  obtain ⟨s, hs⟩ : ∃ z, z = mayS (lp.data.toList, hi.data.toList) := ⟨_, rfl⟩
                  rw [← hs] at hZ
                  have hok := Hok.out
                  have hval := Hval.out
                  simp only [reduceCtorEq, eq_self, and_self, true_and, and_true, false_and, and_false, or_true, true_or, or_false, false_or, or_self, if_true, if_false, ite_true, ite_false, Bool.true_and, Bool.and_true, ← hs] at hok hval
                  clear hs Hok Hval
                  have HZ := Lib.hid hZ; have Hok := Lib.hid hok; have Hval := Lib.hid hval; clear hZ hok hval
                  go_wp2_with fail
                  refine (HZ.out _ Hb6.out).mono ?_
                  rintro e w7 ⟨rfl, hs⟩
                  have hb7 := Hb6.out.trans (hs.mono Hb6.out.size)
                  have ha := heap_below hs Ha.out
                  clear Ha a0 a1 a2 a3
                  obtain ⟨a0, a1, a2, a3⟩ := pair_cells ha
                  have hb := heap_below hs Hb.out
                  clear Hb b0 b1 b2 b3
                  obtain ⟨b0, b1, b2, b3⟩ := pair_cells hb
                  have hr := heap_below hs Hr.out
                  clear Hr r0 r1 r2 r3
                  obtain ⟨r0, r1, r2, r3⟩ := pair_cells hr
                  have ho := heap_below hs Ho.out
                  clear Ho o0 o1 o2 o3
                  obtain ⟨o0, o1, o2, o3⟩ := pair_cells ho
                  have Hs := Lib.hid hs; have Hb7 := Lib.hid hb7; have Ha := Lib.hid ha; have Hb := Lib.hid hb; have Hr := Lib.hid hr; have Ho := Lib.hid ho; clear hs hb7 ha hb hr ho
                  cases s with
                  | false =>
                    go_wp2_with fail
                    refine bodyPost_spn2 rfl rfl rfl (pair_set _ _ Hr.out) rfl ?_
                    exact ⟨ret_spn2 (by rw [Hval.out]; rfl) (by rw [Hval.out]; rfl) (by rw [Hok.out] <;> rfl), pair_bel _ _ (below_on Hw.out Hb7.out) Hle.out⟩
                  | true =>
                    go_wp2_with fail
                    refine bodyPost_spn2 rfl rfl rfl (pair_set _ _ Hr.out) rfl ?_
                    exact ⟨ret_spn2 (by rw [Hval.out]; rfl) (by rw [Hval.out]; rfl) (by rw [Hok.out] <;> rfl), pair_bel _ _ (below_on Hw.out Hb7.out) Hle.out⟩
                | true =>
                  go_upto_region 8 with (fail)
                  obtain ⟨w7, hv⟩ : ∃ W, W = w6.setCell ⟨go, 1, none⟩ (.string hj) := ⟨_, rfl⟩
                  have hb7 : Below w0.heap.size w0 w7 := by rw [hv]; exact Hb6.out.setCell (p := ⟨go, 1, none⟩) Hgeo.out _
                  have ha : w7.heap[nb]? = some (.cells #[.string lo, .string hi] 34 (0, 0)) := by rw [hv, Below.heap_setCell _ _ _ _ Hneao.out]; exact Ha.out
                  clear Ha a0 a1 a2 a3
                  obtain ⟨a0, a1, a2, a3⟩ := pair_cells ha
                  have hb : w7.heap[nb + 1]? = some (.cells #[.string lp, .string hj] 34 (0, 0)) := by rw [hv, Below.heap_setCell _ _ _ _ Hnebo.out]; exact Hb.out
                  clear Hb b0 b1 b2 b3
                  obtain ⟨b0, b1, b2, b3⟩ := pair_cells hb
                  have hr : w7.heap[nb + 1 + 1]? = some (.cells #[.string ⟨#[]⟩, .string ⟨#[]⟩] 34 (0, 0)) := by rw [hv, Below.heap_setCell _ _ _ _ Hnero.out]; exact Hr.out
                  clear Hr r0 r1 r2 r3
                  obtain ⟨r0, r1, r2, r3⟩ := pair_cells hr
                  have ho : w7.heap[go]? = some (.cells #[.string lp, .string hj] 34 (0, 0)) := by rw [hv]; exact heap_setCell_same _ go 1 _ _ _ Ho.out
                  clear Ho o0 o1 o2 o3
                  obtain ⟨o0, o1, o2, o3⟩ := pair_cells ho
                  rw [← hv]
                  clear hv
                  have Hb7 := Lib.hid hb7; have Ha := Lib.hid ha; have Hb := Lib.hid hb; have Hr := Lib.hid hr; have Ho := Lib.hid ho; clear hb7 ha hb hr ho
                  have hZ := HO.out lp hj hl2 hh2
                  obtain ⟨s, hs⟩ : ∃ z, z = mayS (lp.data.toList, hj.data.toList) := ⟨_, rfl⟩
                  rw [← hs] at hZ
                  have hok := Hok.out
                  have hval := Hval.out
                  simp only [reduceCtorEq, eq_self, and_self, true_and, and_true, false_and, and_false, or_true, true_or, or_false, false_or, or_self, if_true, if_false, ite_true, ite_false, Bool.true_and, Bool.and_true, ← hs] at hok hval
                  clear hs Hok Hval
                  have HZ := Lib.hid hZ; have Hok := Lib.hid hok; have Hval := Lib.hid hval; clear hZ hok hval
                  go_wp2_with fail
                  refine (HZ.out _ Hb7.out).mono ?_
                  rintro e w8 ⟨rfl, hs⟩
                  have hb8 := Hb7.out.trans (hs.mono Hb7.out.size)
                  have ha := heap_below hs Ha.out
                  clear Ha a0 a1 a2 a3
                  obtain ⟨a0, a1, a2, a3⟩ := pair_cells ha
                  have hb := heap_below hs Hb.out
                  clear Hb b0 b1 b2 b3
                  obtain ⟨b0, b1, b2, b3⟩ := pair_cells hb
                  have hr := heap_below hs Hr.out
                  clear Hr r0 r1 r2 r3
                  obtain ⟨r0, r1, r2, r3⟩ := pair_cells hr
                  have ho := heap_below hs Ho.out
                  clear Ho o0 o1 o2 o3
                  obtain ⟨o0, o1, o2, o3⟩ := pair_cells ho
                  have Hs := Lib.hid hs; have Hb8 := Lib.hid hb8; have Ha := Lib.hid ha; have Hb := Lib.hid hb; have Hr := Lib.hid hr; have Ho := Lib.hid ho; clear hs hb8 ha hb hr ho
                  cases s with
                  | false =>
                    go_wp2_with fail
                    refine bodyPost_spn2 rfl rfl rfl (pair_set _ _ Hr.out) rfl ?_
                    exact ⟨ret_spn2 (by rw [Hval.out]; rfl) (by rw [Hval.out]; rfl) (by rw [Hok.out] <;> rfl), pair_bel _ _ (below_on Hw.out Hb8.out) Hle.out⟩
                  | true =>
                    go_wp2_with fail
                    refine bodyPost_spn2 rfl rfl rfl (pair_set _ _ Hr.out) rfl ?_
                    exact ⟨ret_spn2 (by rw [Hval.out]; rfl) (by rw [Hval.out]; rfl) (by rw [Hok.out] <;> rfl), pair_bel _ _ (below_on Hw.out Hb8.out) Hle.out⟩
              | true =>
                go_upto_region 8 with (fail)
                obtain ⟨w6, hv⟩ : ∃ W, W = w5.setCell ⟨go, 1, none⟩ (.string hj) := ⟨_, rfl⟩
                have hb6 : Below w0.heap.size w0 w6 := by rw [hv]; exact Hb5.out.setCell (p := ⟨go, 1, none⟩) Hgeo.out _
                have ha : w6.heap[nb]? = some (.cells #[.string lo, .string hi] 34 (0, 0)) := by rw [hv, Below.heap_setCell _ _ _ _ Hneao.out]; exact Ha.out
                clear Ha a0 a1 a2 a3
                obtain ⟨a0, a1, a2, a3⟩ := pair_cells ha
                have hb : w6.heap[nb + 1]? = some (.cells #[.string lp, .string hj] 34 (0, 0)) := by rw [hv, Below.heap_setCell _ _ _ _ Hnebo.out]; exact Hb.out
                clear Hb b0 b1 b2 b3
                obtain ⟨b0, b1, b2, b3⟩ := pair_cells hb
                have hr : w6.heap[nb + 1 + 1]? = some (.cells #[.string ⟨#[]⟩, .string ⟨#[]⟩] 34 (0, 0)) := by rw [hv, Below.heap_setCell _ _ _ _ Hnero.out]; exact Hr.out
                clear Hr r0 r1 r2 r3
                obtain ⟨r0, r1, r2, r3⟩ := pair_cells hr
                have ho : w6.heap[go]? = some (.cells #[.string lp, .string hj] 34 (0, 0)) := by rw [hv]; exact heap_setCell_same _ go 1 _ _ _ Ho.out
                clear Ho o0 o1 o2 o3
                obtain ⟨o0, o1, o2, o3⟩ := pair_cells ho
                rw [← hv]
                clear hv
                have Hb6 := Lib.hid hb6; have Ha := Lib.hid ha; have Hb := Lib.hid hb; have Hr := Lib.hid hr; have Ho := Lib.hid ho; clear hb6 ha hb hr ho
                have hZ := HO.out lp hj hl2 hh2
                obtain ⟨s, hs⟩ : ∃ z, z = mayS (lp.data.toList, hj.data.toList) := ⟨_, rfl⟩
                rw [← hs] at hZ
                have hok := Hok.out
                have hval := Hval.out
                simp only [reduceCtorEq, eq_self, and_self, true_and, and_true, false_and, and_false, or_true, true_or, or_false, false_or, or_self, if_true, if_false, ite_true, ite_false, Bool.true_and, Bool.and_true, ← hs] at hok hval
                clear hs Hok Hval
                have HZ := Lib.hid hZ; have Hok := Lib.hid hok; have Hval := Lib.hid hval; clear hZ hok hval
                go_wp2_with fail
                refine (HZ.out _ Hb6.out).mono ?_
                rintro e w7 ⟨rfl, hs⟩
                have hb7 := Hb6.out.trans (hs.mono Hb6.out.size)
                have ha := heap_below hs Ha.out
                clear Ha a0 a1 a2 a3
                obtain ⟨a0, a1, a2, a3⟩ := pair_cells ha
                have hb := heap_below hs Hb.out
                clear Hb b0 b1 b2 b3
                obtain ⟨b0, b1, b2, b3⟩ := pair_cells hb
                have hr := heap_below hs Hr.out
                clear Hr r0 r1 r2 r3
                obtain ⟨r0, r1, r2, r3⟩ := pair_cells hr
                have ho := heap_below hs Ho.out
                clear Ho o0 o1 o2 o3
                obtain ⟨o0, o1, o2, o3⟩ := pair_cells ho
                have Hs := Lib.hid hs; have Hb7 := Lib.hid hb7; have Ha := Lib.hid ha; have Hb := Lib.hid hb; have Hr := Lib.hid hr; have Ho := Lib.hid ho; clear hs hb7 ha hb hr ho
                cases s with
                | false =>
                  go_wp2_with fail
                  refine bodyPost_spn2 rfl rfl rfl (pair_set _ _ Hr.out) rfl ?_
                  exact ⟨ret_spn2 (by rw [Hval.out]; rfl) (by rw [Hval.out]; rfl) (by rw [Hok.out] <;> rfl), pair_bel _ _ (below_on Hw.out Hb7.out) Hle.out⟩
                | true =>
                  go_wp2_with fail
                  refine bodyPost_spn2 rfl rfl rfl (pair_set _ _ Hr.out) rfl ?_
                  exact ⟨ret_spn2 (by rw [Hval.out]; rfl) (by rw [Hval.out]; rfl) (by rw [Hok.out] <;> rfl), pair_bel _ _ (below_on Hw.out Hb7.out) Hle.out⟩
            | true =>
              have hZ := HO.out lp hi hl2 hh
              obtain ⟨s, hs⟩ : ∃ z, z = mayS (lp.data.toList, hi.data.toList) := ⟨_, rfl⟩
              rw [← hs] at hZ
              have hok := Hok.out
              have hval := Hval.out
              simp only [reduceCtorEq, eq_self, and_self, true_and, and_true, false_and, and_false, or_true, true_or, or_false, false_or, or_self, if_true, if_false, ite_true, ite_false, Bool.true_and, Bool.and_true, ← hs] at hok hval
              clear hs Hok Hval
              have HZ := Lib.hid hZ; have Hok := Lib.hid hok; have Hval := Lib.hid hval; clear hZ hok hval
              go_wp2_with fail
              refine (HZ.out _ Hb5.out).mono ?_
              rintro e w6 ⟨rfl, hs⟩
              have hb6 := Hb5.out.trans (hs.mono Hb5.out.size)
              have ha := heap_below hs Ha.out
              clear Ha a0 a1 a2 a3
              obtain ⟨a0, a1, a2, a3⟩ := pair_cells ha
              have hb := heap_below hs Hb.out
              clear Hb b0 b1 b2 b3
              obtain ⟨b0, b1, b2, b3⟩ := pair_cells hb
              have hr := heap_below hs Hr.out
              clear Hr r0 r1 r2 r3
              obtain ⟨r0, r1, r2, r3⟩ := pair_cells hr
              have ho := heap_below hs Ho.out
              clear Ho o0 o1 o2 o3
              obtain ⟨o0, o1, o2, o3⟩ := pair_cells ho
              have Hs := Lib.hid hs; have Hb6 := Lib.hid hb6; have Ha := Lib.hid ha; have Hb := Lib.hid hb; have Hr := Lib.hid hr; have Ho := Lib.hid ho; clear hs hb6 ha hb hr ho
              cases s with
              | false =>
                go_wp2_with fail
                refine bodyPost_spn2 rfl rfl rfl (pair_set _ _ Hr.out) rfl ?_
                exact ⟨ret_spn2 (by rw [Hval.out]; rfl) (by rw [Hval.out]; rfl) (by rw [Hok.out] <;> rfl), pair_bel _ _ (below_on Hw.out Hb6.out) Hle.out⟩
              | true =>
                go_wp2_with fail
                refine bodyPost_spn2 rfl rfl rfl (pair_set _ _ Hr.out) rfl ?_
                exact ⟨ret_spn2 (by rw [Hval.out]; rfl) (by rw [Hval.out]; rfl) (by rw [Hok.out] <;> rfl), pair_bel _ _ (below_on Hw.out Hb6.out) Hle.out⟩
        | true =>
          go_upto_region 6 with (fail)
          obtain ⟨w4, hv⟩ : ∃ W, W = w3.setCell ⟨go, 0, none⟩ (.string lp) := ⟨_, rfl⟩
          have hb4 : Below w0.heap.size w0 w4 := by rw [hv]; exact Hb3.out.setCell (p := ⟨go, 0, none⟩) Hgeo.out _
          have ha : w4.heap[nb]? = some (.cells #[.string lo, .string hi] 34 (0, 0)) := by rw [hv, Below.heap_setCell _ _ _ _ Hneao.out]; exact Ha.out
          clear Ha a0 a1 a2 a3
          obtain ⟨a0, a1, a2, a3⟩ := pair_cells ha
          have hb : w4.heap[nb + 1]? = some (.cells #[.string lp, .string hj] 34 (0, 0)) := by rw [hv, Below.heap_setCell _ _ _ _ Hnebo.out]; exact Hb.out
          clear Hb b0 b1 b2 b3
          obtain ⟨b0, b1, b2, b3⟩ := pair_cells hb
          have hr : w4.heap[nb + 1 + 1]? = some (.cells #[.string ⟨#[]⟩, .string ⟨#[]⟩] 34 (0, 0)) := by rw [hv, Below.heap_setCell _ _ _ _ Hnero.out]; exact Hr.out
          clear Hr r0 r1 r2 r3
          obtain ⟨r0, r1, r2, r3⟩ := pair_cells hr
          have ho : w4.heap[go]? = some (.cells #[.string lp, .string hi] 34 (0, 0)) := by rw [hv]; exact heap_setCell_same _ go 0 _ _ _ Ho.out
          clear Ho o0 o1 o2 o3
          obtain ⟨o0, o1, o2, o3⟩ := pair_cells ho
          rw [← hv]
          clear hv
          have Hb4 := Lib.hid hb4; have Ha := Lib.hid ha; have Hb := Lib.hid hb; have Hr := Lib.hid hr; have Ho := Lib.hid ho; clear hb4 ha hb hr ho
          cases d3 with
          | false =>
            cases d4 with
            | false =>
              go_wp2_with fail
              refine (HY.out _ Hb4.out).mono ?_
              rintro e w5 ⟨rfl, hs⟩
              have hb5 := Hb4.out.trans (hs.mono Hb4.out.size)
              have ha := heap_below hs Ha.out
              clear Ha a0 a1 a2 a3
              obtain ⟨a0, a1, a2, a3⟩ := pair_cells ha
              have hb := heap_below hs Hb.out
              clear Hb b0 b1 b2 b3
              obtain ⟨b0, b1, b2, b3⟩ := pair_cells hb
              have hr := heap_below hs Hr.out
              clear Hr r0 r1 r2 r3
              obtain ⟨r0, r1, r2, r3⟩ := pair_cells hr
              have ho := heap_below hs Ho.out
              clear Ho o0 o1 o2 o3
              obtain ⟨o0, o1, o2, o3⟩ := pair_cells ho
              have Hs := Lib.hid hs; have Hb5 := Lib.hid hb5; have Ha := Lib.hid ha; have Hb := Lib.hid hb; have Hr := Lib.hid hr; have Ho := Lib.hid ho; clear hs hb5 ha hb hr ho
              cases ry with
              | false =>
                have hZ := HO.out lp hi hl2 hh
                obtain ⟨s, hs⟩ : ∃ z, z = mayS (lp.data.toList, hi.data.toList) := ⟨_, rfl⟩
                rw [← hs] at hZ
                have hok := Hok.out
                have hval := Hval.out
                simp only [reduceCtorEq, eq_self, and_self, true_and, and_true, false_and, and_false, or_true, true_or, or_false, false_or, or_self, if_true, if_false, ite_true, ite_false, Bool.true_and, Bool.and_true, ← hs] at hok hval
                clear hs Hok Hval
                have HZ := Lib.hid hZ; have Hok := Lib.hid hok; have Hval := Lib.hid hval; clear hZ hok hval
                go_wp2_with fail
                refine (HZ.out _ Hb5.out).mono ?_
                rintro e w6 ⟨rfl, hs⟩
                have hb6 := Hb5.out.trans (hs.mono Hb5.out.size)
                have ha := heap_below hs Ha.out
                clear Ha a0 a1 a2 a3
                obtain ⟨a0, a1, a2, a3⟩ := pair_cells ha
                have hb := heap_below hs Hb.out
                clear Hb b0 b1 b2 b3
                obtain ⟨b0, b1, b2, b3⟩ := pair_cells hb
                have hr := heap_below hs Hr.out
                clear Hr r0 r1 r2 r3
                obtain ⟨r0, r1, r2, r3⟩ := pair_cells hr
                have ho := heap_below hs Ho.out
                clear Ho o0 o1 o2 o3
                obtain ⟨o0, o1, o2, o3⟩ := pair_cells ho
                have Hs := Lib.hid hs; have Hb6 := Lib.hid hb6; have Ha := Lib.hid ha; have Hb := Lib.hid hb; have Hr := Lib.hid hr; have Ho := Lib.hid ho; clear hs hb6 ha hb hr ho
                cases s with
                | false =>
                  go_wp2_with fail
                  refine bodyPost_spn2 rfl rfl rfl (pair_set _ _ Hr.out) rfl ?_
                  exact ⟨ret_spn2 (by rw [Hval.out]; rfl) (by rw [Hval.out]; rfl) (by rw [Hok.out] <;> rfl), pair_bel _ _ (below_on Hw.out Hb6.out) Hle.out⟩
                | true =>
                  go_wp2_with fail
                  refine bodyPost_spn2 rfl rfl rfl (pair_set _ _ Hr.out) rfl ?_
                  exact ⟨ret_spn2 (by rw [Hval.out]; rfl) (by rw [Hval.out]; rfl) (by rw [Hok.out] <;> rfl), pair_bel _ _ (below_on Hw.out Hb6.out) Hle.out⟩
              | true =>
                go_upto_region 8 with (fail)
                obtain ⟨w6, hv⟩ : ∃ W, W = w5.setCell ⟨go, 1, none⟩ (.string hj) := ⟨_, rfl⟩
                have hb6 : Below w0.heap.size w0 w6 := by rw [hv]; exact Hb5.out.setCell (p := ⟨go, 1, none⟩) Hgeo.out _
                have ha : w6.heap[nb]? = some (.cells #[.string lo, .string hi] 34 (0, 0)) := by rw [hv, Below.heap_setCell _ _ _ _ Hneao.out]; exact Ha.out
                clear Ha a0 a1 a2 a3
                obtain ⟨a0, a1, a2, a3⟩ := pair_cells ha
                have hb : w6.heap[nb + 1]? = some (.cells #[.string lp, .string hj] 34 (0, 0)) := by rw [hv, Below.heap_setCell _ _ _ _ Hnebo.out]; exact Hb.out
                clear Hb b0 b1 b2 b3
                obtain ⟨b0, b1, b2, b3⟩ := pair_cells hb
                have hr : w6.heap[nb + 1 + 1]? = some (.cells #[.string ⟨#[]⟩, .string ⟨#[]⟩] 34 (0, 0)) := by rw [hv, Below.heap_setCell _ _ _ _ Hnero.out]; exact Hr.out
                clear Hr r0 r1 r2 r3
                obtain ⟨r0, r1, r2, r3⟩ := pair_cells hr
                have ho : w6.heap[go]? = some (.cells #[.string lp, .string hj] 34 (0, 0)) := by rw [hv]; exact heap_setCell_same _ go 1 _ _ _ Ho.out
                clear Ho o0 o1 o2 o3
                obtain ⟨o0, o1, o2, o3⟩ := pair_cells ho
                rw [← hv]
                clear hv
                have Hb6 := Lib.hid hb6; have Ha := Lib.hid ha; have Hb := Lib.hid hb; have Hr := Lib.hid hr; have Ho := Lib.hid ho; clear hb6 ha hb hr ho
                have hZ := HO.out lp hj hl2 hh2
                obtain ⟨s, hs⟩ : ∃ z, z = mayS (lp.data.toList, hj.data.toList) := ⟨_, rfl⟩
                rw [← hs] at hZ
                have hok := Hok.out
                have hval := Hval.out
                simp only [reduceCtorEq, eq_self, and_self, true_and, and_true, false_and, and_false, or_true, true_or, or_false, false_or, or_self, if_true, if_false, ite_true, ite_false, Bool.true_and, Bool.and_true, ← hs] at hok hval
                clear hs Hok Hval
                have HZ := Lib.hid hZ; have Hok := Lib.hid hok; have Hval := Lib.hid hval; clear hZ hok hval
                go_wp2_with fail
                refine (HZ.out _ Hb6.out).mono ?_
                rintro e w7 ⟨rfl, hs⟩
                have hb7 := Hb6.out.trans (hs.mono Hb6.out.size)
                have ha := heap_below hs Ha.out
                clear Ha a0 a1 a2 a3
                obtain ⟨a0, a1, a2, a3⟩ := pair_cells ha
                have hb := heap_below hs Hb.out
                clear Hb b0 b1 b2 b3
                obtain ⟨b0, b1, b2, b3⟩ := pair_cells hb
                have hr := heap_below hs Hr.out
                clear Hr r0 r1 r2 r3
                obtain ⟨r0, r1, r2, r3⟩ := pair_cells hr
                have ho := heap_below hs Ho.out
                clear Ho o0 o1 o2 o3
                obtain ⟨o0, o1, o2, o3⟩ := pair_cells ho
                have Hs := Lib.hid hs; have Hb7 := Lib.hid hb7; have Ha := Lib.hid ha; have Hb := Lib.hid hb; have Hr := Lib.hid hr; have Ho := Lib.hid ho; clear hs hb7 ha hb hr ho
                cases s with
                | false =>
                  go_wp2_with fail
                  refine bodyPost_spn2 rfl rfl rfl (pair_set _ _ Hr.out) rfl ?_
                  exact ⟨ret_spn2 (by rw [Hval.out]; rfl) (by rw [Hval.out]; rfl) (by rw [Hok.out] <;> rfl), pair_bel _ _ (below_on Hw.out Hb7.out) Hle.out⟩
                | true =>
                  go_wp2_with fail
                  refine bodyPost_spn2 rfl rfl rfl (pair_set _ _ Hr.out) rfl ?_
                  exact ⟨ret_spn2 (by rw [Hval.out]; rfl) (by rw [Hval.out]; rfl) (by rw [Hok.out] <;> rfl), pair_bel _ _ (below_on Hw.out Hb7.out) Hle.out⟩
            | true =>
              go_upto_region 8 with (fail)
              obtain ⟨w5, hv⟩ : ∃ W, W = w4.setCell ⟨go, 1, none⟩ (.string hj) := ⟨_, rfl⟩
              have hb5 : Below w0.heap.size w0 w5 := by rw [hv]; exact Hb4.out.setCell (p := ⟨go, 1, none⟩) Hgeo.out _
              have ha : w5.heap[nb]? = some (.cells #[.string lo, .string hi] 34 (0, 0)) := by rw [hv, Below.heap_setCell _ _ _ _ Hneao.out]; exact Ha.out
              clear Ha a0 a1 a2 a3
              obtain ⟨a0, a1, a2, a3⟩ := pair_cells ha
              have hb : w5.heap[nb + 1]? = some (.cells #[.string lp, .string hj] 34 (0, 0)) := by rw [hv, Below.heap_setCell _ _ _ _ Hnebo.out]; exact Hb.out
              clear Hb b0 b1 b2 b3
              obtain ⟨b0, b1, b2, b3⟩ := pair_cells hb
              have hr : w5.heap[nb + 1 + 1]? = some (.cells #[.string ⟨#[]⟩, .string ⟨#[]⟩] 34 (0, 0)) := by rw [hv, Below.heap_setCell _ _ _ _ Hnero.out]; exact Hr.out
              clear Hr r0 r1 r2 r3
              obtain ⟨r0, r1, r2, r3⟩ := pair_cells hr
              have ho : w5.heap[go]? = some (.cells #[.string lp, .string hj] 34 (0, 0)) := by rw [hv]; exact heap_setCell_same _ go 1 _ _ _ Ho.out
              clear Ho o0 o1 o2 o3
              obtain ⟨o0, o1, o2, o3⟩ := pair_cells ho
              rw [← hv]
              clear hv
              have Hb5 := Lib.hid hb5; have Ha := Lib.hid ha; have Hb := Lib.hid hb; have Hr := Lib.hid hr; have Ho := Lib.hid ho; clear hb5 ha hb hr ho
              have hZ := HO.out lp hj hl2 hh2
              obtain ⟨s, hs⟩ : ∃ z, z = mayS (lp.data.toList, hj.data.toList) := ⟨_, rfl⟩
              rw [← hs] at hZ
              have hok := Hok.out
              have hval := Hval.out
              simp only [reduceCtorEq, eq_self, and_self, true_and, and_true, false_and, and_false, or_true, true_or, or_false, false_or, or_self, if_true, if_false, ite_true, ite_false, Bool.true_and, Bool.and_true, ← hs] at hok hval
              clear hs Hok Hval
              have HZ := Lib.hid hZ; have Hok := Lib.hid hok; have Hval := Lib.hid hval; clear hZ hok hval
              go_wp2_with fail
              refine (HZ.out _ Hb5.out).mono ?_
              rintro e w6 ⟨rfl, hs⟩
              have hb6 := Hb5.out.trans (hs.mono Hb5.out.size)
              have ha := heap_below hs Ha.out
              clear Ha a0 a1 a2 a3
              obtain ⟨a0, a1, a2, a3⟩ := pair_cells ha
              have hb := heap_below hs Hb.out
              clear Hb b0 b1 b2 b3
              obtain ⟨b0, b1, b2, b3⟩ := pair_cells hb
              have hr := heap_below hs Hr.out
              clear Hr r0 r1 r2 r3
              obtain ⟨r0, r1, r2, r3⟩ := pair_cells hr
              have ho := heap_below hs Ho.out
              clear Ho o0 o1 o2 o3
              obtain ⟨o0, o1, o2, o3⟩ := pair_cells ho
              have Hs := Lib.hid hs; have Hb6 := Lib.hid hb6; have Ha := Lib.hid ha; have Hb := Lib.hid hb; have Hr := Lib.hid hr; have Ho := Lib.hid ho; clear hs hb6 ha hb hr ho
              cases s with
              | false =>
                go_wp2_with fail
                refine bodyPost_spn2 rfl rfl rfl (pair_set _ _ Hr.out) rfl ?_
                exact ⟨ret_spn2 (by rw [Hval.out]; rfl) (by rw [Hval.out]; rfl) (by rw [Hok.out] <;> rfl), pair_bel _ _ (below_on Hw.out Hb6.out) Hle.out⟩
              | true =>
                go_wp2_with fail
                refine bodyPost_spn2 rfl rfl rfl (pair_set _ _ Hr.out) rfl ?_
                exact ⟨ret_spn2 (by rw [Hval.out]; rfl) (by rw [Hval.out]; rfl) (by rw [Hok.out] <;> rfl), pair_bel _ _ (below_on Hw.out Hb6.out) Hle.out⟩
          | true =>
            have hZ := HO.out lp hi hl2 hh
            obtain ⟨s, hs⟩ : ∃ z, z = mayS (lp.data.toList, hi.data.toList) := ⟨_, rfl⟩
            rw [← hs] at hZ
            have hok := Hok.out
            have hval := Hval.out
            simp only [reduceCtorEq, eq_self, and_self, true_and, and_true, false_and, and_false, or_true, true_or, or_false, false_or, or_self, if_true, if_false, ite_true, ite_false, Bool.true_and, Bool.and_true, ← hs] at hok hval
            clear hs Hok Hval
            have HZ := Lib.hid hZ; have Hok := Lib.hid hok; have Hval := Lib.hid hval; clear hZ hok hval
            go_wp2_with fail
            refine (HZ.out _ Hb4.out).mono ?_
            rintro e w5 ⟨rfl, hs⟩
            have hb5 := Hb4.out.trans (hs.mono Hb4.out.size)
            have ha := heap_below hs Ha.out
            clear Ha a0 a1 a2 a3
            obtain ⟨a0, a1, a2, a3⟩ := pair_cells ha
            have hb := heap_below hs Hb.out
            clear Hb b0 b1 b2 b3
            obtain ⟨b0, b1, b2, b3⟩ := pair_cells hb
            have hr := heap_below hs Hr.out
            clear Hr r0 r1 r2 r3
            obtain ⟨r0, r1, r2, r3⟩ := pair_cells hr
            have ho := heap_below hs Ho.out
            clear Ho o0 o1 o2 o3
            obtain ⟨o0, o1, o2, o3⟩ := pair_cells ho
            have Hs := Lib.hid hs; have Hb5 := Lib.hid hb5; have Ha := Lib.hid ha; have Hb := Lib.hid hb; have Hr := Lib.hid hr; have Ho := Lib.hid ho; clear hs hb5 ha hb hr ho
            cases s with
            | false =>
              go_wp2_with fail
              refine bodyPost_spn2 rfl rfl rfl (pair_set _ _ Hr.out) rfl ?_
              exact ⟨ret_spn2 (by rw [Hval.out]; rfl) (by rw [Hval.out]; rfl) (by rw [Hok.out] <;> rfl), pair_bel _ _ (below_on Hw.out Hb5.out) Hle.out⟩
            | true =>
              go_wp2_with fail
              refine bodyPost_spn2 rfl rfl rfl (pair_set _ _ Hr.out) rfl ?_
              exact ⟨ret_spn2 (by rw [Hval.out]; rfl) (by rw [Hval.out]; rfl) (by rw [Hok.out] <;> rfl), pair_bel _ _ (below_on Hw.out Hb5.out) Hle.out⟩
      | true =>
        cases d3 with
        | false =>
          cases d4 with
          | false =>
            go_wp2_with fail
            refine (HY.out _ Hb3.out).mono ?_
            rintro e w4 ⟨rfl, hs⟩
            have hb4 := Hb3.out.trans (hs.mono Hb3.out.size)
            have ha := heap_below hs Ha.out
            clear Ha a0 a1 a2 a3
            obtain ⟨a0, a1, a2, a3⟩ := pair_cells ha
            have hb := heap_below hs Hb.out
            clear Hb b0 b1 b2 b3
            obtain ⟨b0, b1, b2, b3⟩ := pair_cells hb
            have hr := heap_below hs Hr.out
            clear Hr r0 r1 r2 r3
            obtain ⟨r0, r1, r2, r3⟩ := pair_cells hr
            have ho := heap_below hs Ho.out
            clear Ho o0 o1 o2 o3
            obtain ⟨o0, o1, o2, o3⟩ := pair_cells ho
            have Hs := Lib.hid hs; have Hb4 := Lib.hid hb4; have Ha := Lib.hid ha; have Hb := Lib.hid hb; have Hr := Lib.hid hr; have Ho := Lib.hid ho; clear hs hb4 ha hb hr ho
            cases ry with
            | false =>
              have hZ := HO.out lo hi hl hh
              obtain ⟨s, hs⟩ : ∃ z, z = mayS (lo.data.toList, hi.data.toList) := ⟨_, rfl⟩
              rw [← hs] at hZ
              have hok := Hok.out
              have hval := Hval.out
              simp only [reduceCtorEq, eq_self, and_self, true_and, and_true, false_and, and_false, or_true, true_or, or_false, false_or, or_self, if_true, if_false, ite_true, ite_false, Bool.true_and, Bool.and_true, ← hs] at hok hval
              clear hs Hok Hval
              have HZ := Lib.hid hZ; have Hok := Lib.hid hok; have Hval := Lib.hid hval; clear hZ hok hval
              go_wp2_with fail
              refine (HZ.out _ Hb4.out).mono ?_
              rintro e w5 ⟨rfl, hs⟩
              have hb5 := Hb4.out.trans (hs.mono Hb4.out.size)
              have ha := heap_below hs Ha.out
              clear Ha a0 a1 a2 a3
              obtain ⟨a0, a1, a2, a3⟩ := pair_cells ha
              have hb := heap_below hs Hb.out
              clear Hb b0 b1 b2 b3
              obtain ⟨b0, b1, b2, b3⟩ := pair_cells hb
              have hr := heap_below hs Hr.out
              clear Hr r0 r1 r2 r3
              obtain ⟨r0, r1, r2, r3⟩ := pair_cells hr
              have ho := heap_below hs Ho.out
              clear Ho o0 o1 o2 o3
              obtain ⟨o0, o1, o2, o3⟩ := pair_cells ho
              have Hs := Lib.hid hs; have Hb5 := Lib.hid hb5; have Ha := Lib.hid ha; have Hb := Lib.hid hb; have Hr := Lib.hid hr; have Ho := Lib.hid ho; clear hs hb5 ha hb hr ho
              cases s with
              | false =>
                go_wp2_with fail
                refine bodyPost_spn2 rfl rfl rfl (pair_set _ _ Hr.out) rfl ?_
                exact ⟨ret_spn2 (by rw [Hval.out]; rfl) (by rw [Hval.out]; rfl) (by rw [Hok.out] <;> rfl), pair_bel _ _ (below_on Hw.out Hb5.out) Hle.out⟩
              | true =>
                go_wp2_with fail
                refine bodyPost_spn2 rfl rfl rfl (pair_set _ _ Hr.out) rfl ?_
                exact ⟨ret_spn2 (by rw [Hval.out]; rfl) (by rw [Hval.out]; rfl) (by rw [Hok.out] <;> rfl), pair_bel _ _ (below_on Hw.out Hb5.out) Hle.out⟩
            | true =>
              go_upto_region 8 with (fail)
              obtain ⟨w5, hv⟩ : ∃ W, W = w4.setCell ⟨go, 1, none⟩ (.string hj) := ⟨_, rfl⟩
              have hb5 : Below w0.heap.size w0 w5 := by rw [hv]; exact Hb4.out.setCell (p := ⟨go, 1, none⟩) Hgeo.out _
              have ha : w5.heap[nb]? = some (.cells #[.string lo, .string hi] 34 (0, 0)) := by rw [hv, Below.heap_setCell _ _ _ _ Hneao.out]; exact Ha.out
              clear Ha a0 a1 a2 a3
              obtain ⟨a0, a1, a2, a3⟩ := pair_cells ha
              have hb : w5.heap[nb + 1]? = some (.cells #[.string lp, .string hj] 34 (0, 0)) := by rw [hv, Below.heap_setCell _ _ _ _ Hnebo.out]; exact Hb.out
              clear Hb b0 b1 b2 b3
              obtain ⟨b0, b1, b2, b3⟩ := pair_cells hb
              have hr : w5.heap[nb + 1 + 1]? = some (.cells #[.string ⟨#[]⟩, .string ⟨#[]⟩] 34 (0, 0)) := by rw [hv, Below.heap_setCell _ _ _ _ Hnero.out]; exact Hr.out
              clear Hr r0 r1 r2 r3
              obtain ⟨r0, r1, r2, r3⟩ := pair_cells hr
              have ho : w5.heap[go]? = some (.cells #[.string lo, .string hj] 34 (0, 0)) := by rw [hv]; exact heap_setCell_same _ go 1 _ _ _ Ho.out
              clear Ho o0 o1 o2 o3
              obtain ⟨o0, o1, o2, o3⟩ := pair_cells ho
              rw [← hv]
              clear hv
              have Hb5 := Lib.hid hb5; have Ha := Lib.hid ha; have Hb := Lib.hid hb; have Hr := Lib.hid hr; have Ho := Lib.hid ho; clear hb5 ha hb hr ho
              have hZ := HO.out lo hj hl hh2
              obtain ⟨s, hs⟩ : ∃ z, z = mayS (lo.data.toList, hj.data.toList) := ⟨_, rfl⟩
              rw [← hs] at hZ
              have hok := Hok.out
              have hval := Hval.out
              simp only [reduceCtorEq, eq_self, and_self, true_and, and_true, false_and, and_false, or_true, true_or, or_false, false_or, or_self, if_true, if_false, ite_true, ite_false, Bool.true_and, Bool.and_true, ← hs] at hok hval
              clear hs Hok Hval
              have HZ := Lib.hid hZ; have Hok := Lib.hid hok; have Hval := Lib.hid hval; clear hZ hok hval
              go_wp2_with fail
              refine (HZ.out _ Hb5.out).mono ?_
              rintro e w6 ⟨rfl, hs⟩
              have hb6 := Hb5.out.trans (hs.mono Hb5.out.size)
              have ha := heap_below hs Ha.out
              clear Ha a0 a1 a2 a3
              obtain ⟨a0, a1, a2, a3⟩ := pair_cells ha
              have hb := heap_below hs Hb.out
              clear Hb b0 b1 b2 b3
              obtain ⟨b0, b1, b2, b3⟩ := pair_cells hb
              have hr := heap_below hs Hr.out
              clear Hr r0 r1 r2 r3
              obtain ⟨r0, r1, r2, r3⟩ := pair_cells hr
              have ho := heap_below hs Ho.out
              clear Ho o0 o1 o2 o3
              obtain ⟨o0, o1, o2, o3⟩ := pair_cells ho
              have Hs := Lib.hid hs; have Hb6 := Lib.hid hb6; have Ha := Lib.hid ha; have Hb := Lib.hid hb; have Hr := Lib.hid hr; have Ho := Lib.hid ho; clear hs hb6 ha hb hr ho
              cases s with
              | false =>
                go_wp2_with fail
                refine bodyPost_spn2 rfl rfl rfl (pair_set _ _ Hr.out) rfl ?_
                exact ⟨ret_spn2 (by rw [Hval.out]; rfl) (by rw [Hval.out]; rfl) (by rw [Hok.out] <;> rfl), pair_bel _ _ (below_on Hw.out Hb6.out) Hle.out⟩
              | true =>
                go_wp2_with fail
                refine bodyPost_spn2 rfl rfl rfl (pair_set _ _ Hr.out) rfl ?_
                exact ⟨ret_spn2 (by rw [Hval.out]; rfl) (by rw [Hval.out]; rfl) (by rw [Hok.out] <;> rfl), pair_bel _ _ (below_on Hw.out Hb6.out) Hle.out⟩
          | true =>
            go_upto_region 8 with (fail)
            obtain ⟨w4, hv⟩ : ∃ W, W = w3.setCell ⟨go, 1, none⟩ (.string hj) := ⟨_, rfl⟩
            have hb4 : Below w0.heap.size w0 w4 := by rw [hv]; exact Hb3.out.setCell (p := ⟨go, 1, none⟩) Hgeo.out _
            have ha : w4.heap[nb]? = some (.cells #[.string lo, .string hi] 34 (0, 0)) := by rw [hv, Below.heap_setCell _ _ _ _ Hneao.out]; exact Ha.out
            clear Ha a0 a1 a2 a3
            obtain ⟨a0, a1, a2, a3⟩ := pair_cells ha
            have hb : w4.heap[nb + 1]? = some (.cells #[.string lp, .string hj] 34 (0, 0)) := by rw [hv, Below.heap_setCell _ _ _ _ Hnebo.out]; exact Hb.out
            clear Hb b0 b1 b2 b3
            obtain ⟨b0, b1, b2, b3⟩ := pair_cells hb
            have hr : w4.heap[nb + 1 + 1]? = some (.cells #[.string ⟨#[]⟩, .string ⟨#[]⟩] 34 (0, 0)) := by rw [hv, Below.heap_setCell _ _ _ _ Hnero.out]; exact Hr.out
            clear Hr r0 r1 r2 r3
            obtain ⟨r0, r1, r2, r3⟩ := pair_cells hr
            have ho : w4.heap[go]? = some (.cells #[.string lo, .string hj] 34 (0, 0)) := by rw [hv]; exact heap_setCell_same _ go 1 _ _ _ Ho.out
            clear Ho o0 o1 o2 o3
            obtain ⟨o0, o1, o2, o3⟩ := pair_cells ho
            rw [← hv]
            clear hv
            have Hb4 := Lib.hid hb4; have Ha := Lib.hid ha; have Hb := Lib.hid hb; have Hr := Lib.hid hr; have Ho := Lib.hid ho; clear hb4 ha hb hr ho
            have hZ := HO.out lo hj hl hh2
            obtain ⟨s, hs⟩ : ∃ z, z = mayS (lo.data.toList, hj.data.toList) := ⟨_, rfl⟩
            rw [← hs] at hZ
            have hok := Hok.out
            have hval := Hval.out
            simp only [reduceCtorEq, eq_self, and_self, true_and, and_true, false_and, and_false, or_true, true_or, or_false, false_or, or_self, if_true, if_false, ite_true, ite_false, Bool.true_and, Bool.and_true, ← hs] at hok hval
            clear hs Hok Hval
            have HZ := Lib.hid hZ; have Hok := Lib.hid hok; have Hval := Lib.hid hval; clear hZ hok hval
            go_wp2_with fail
            refine (HZ.out _ Hb4.out).mono ?_
            rintro e w5 ⟨rfl, hs⟩
            have hb5 := Hb4.out.trans (hs.mono Hb4.out.size)
            have ha := heap_below hs Ha.out
            clear Ha a0 a1 a2 a3
            obtain ⟨a0, a1, a2, a3⟩ := pair_cells ha
            have hb := heap_below hs Hb.out
            clear Hb b0 b1 b2 b3
            obtain ⟨b0, b1, b2, b3⟩ := pair_cells hb
            have hr := heap_below hs Hr.out
            clear Hr r0 r1 r2 r3
            obtain ⟨r0, r1, r2, r3⟩ := pair_cells hr
            have ho := heap_below hs Ho.out
            clear Ho o0 o1 o2 o3
            obtain ⟨o0, o1, o2, o3⟩ := pair_cells ho
            have Hs := Lib.hid hs; have Hb5 := Lib.hid hb5; have Ha := Lib.hid ha; have Hb := Lib.hid hb; have Hr := Lib.hid hr; have Ho := Lib.hid ho; clear hs hb5 ha hb hr ho
            cases s with
            | false =>
              go_wp2_with fail
              refine bodyPost_spn2 rfl rfl rfl (pair_set _ _ Hr.out) rfl ?_
              exact ⟨ret_spn2 (by rw [Hval.out]; rfl) (by rw [Hval.out]; rfl) (by rw [Hok.out] <;> rfl), pair_bel _ _ (below_on Hw.out Hb5.out) Hle.out⟩
            | true =>
              go_wp2_with fail
              refine bodyPost_spn2 rfl rfl rfl (pair_set _ _ Hr.out) rfl ?_
              exact ⟨ret_spn2 (by rw [Hval.out]; rfl) (by rw [Hval.out]; rfl) (by rw [Hok.out] <;> rfl), pair_bel _ _ (below_on Hw.out Hb5.out) Hle.out⟩
        | true =>
          have hZ := HO.out lo hi hl hh
          obtain ⟨s, hs⟩ : ∃ z, z = mayS (lo.data.toList, hi.data.toList) := ⟨_, rfl⟩
          rw [← hs] at hZ
          have hok := Hok.out
          have hval := Hval.out
          simp only [reduceCtorEq, eq_self, and_self, true_and, and_true, false_and, and_false, or_true, true_or, or_false, false_or, or_self, if_true, if_false, ite_true, ite_false, Bool.true_and, Bool.and_true, ← hs] at hok hval
          clear hs Hok Hval
          have HZ := Lib.hid hZ; have Hok := Lib.hid hok; have Hval := Lib.hid hval; clear hZ hok hval
          go_wp2_with fail
          refine (HZ.out _ Hb3.out).mono ?_
          rintro e w4 ⟨rfl, hs⟩
          have hb4 := Hb3.out.trans (hs.mono Hb3.out.size)
          have ha := heap_below hs Ha.out
          clear Ha a0 a1 a2 a3
          obtain ⟨a0, a1, a2, a3⟩ := pair_cells ha
          have hb := heap_below hs Hb.out
          clear Hb b0 b1 b2 b3
          obtain ⟨b0, b1, b2, b3⟩ := pair_cells hb
          have hr := heap_below hs Hr.out
          clear Hr r0 r1 r2 r3
          obtain ⟨r0, r1, r2, r3⟩ := pair_cells hr
          have ho := heap_below hs Ho.out
          clear Ho o0 o1 o2 o3
          obtain ⟨o0, o1, o2, o3⟩ := pair_cells ho
          have Hs := Lib.hid hs; have Hb4 := Lib.hid hb4; have Ha := Lib.hid ha; have Hb := Lib.hid hb; have Hr := Lib.hid hr; have Ho := Lib.hid ho; clear hs hb4 ha hb hr ho
          cases s with
          | false =>
            go_wp2_with fail
            refine bodyPost_spn2 rfl rfl rfl (pair_set _ _ Hr.out) rfl ?_
            exact ⟨ret_spn2 (by rw [Hval.out]; rfl) (by rw [Hval.out]; rfl) (by rw [Hok.out] <;> rfl), pair_bel _ _ (below_on Hw.out Hb4.out) Hle.out⟩
          | true =>
            go_wp2_with fail
            refine bodyPost_spn2 rfl rfl rfl (pair_set _ _ Hr.out) rfl ?_
            exact ⟨ret_spn2 (by rw [Hval.out]; rfl) (by rw [Hval.out]; rfl) (by rw [Hok.out] <;> rfl), pair_bel _ _ (below_on Hw.out Hb4.out) Hle.out⟩
end Go.Proofs.YteailgjiifdgcaaGreatDoor

/- The walk of cooperref03.merged: two that meet are put together, or none do. Condition: at most two thousand spans that may be, of bounds of at most 9000 bytes. -/
namespace Go.Proofs.YteailgjiifdgcaaGreatDoor
open Go.Shelf Go.RowKit Go.Lib Go.Sort SortM VerN

instance : Inhabited Tp := ⟨⟨(⟨#[]⟩, ⟨#[]⟩), by decide⟩⟩
def MergedPost (l : List Tp) (v : Value) (w : World) (e : Ending) (w' : World) : Prop :=
  Below w.heap.size w w' ∧ ((∃ o l', e = .returned (.tuple #[o, .bool true]) ∧ MStep l l' ∧ w'.ownsRow w.heap.size 34 2 o l'.length ((tB l').flatMap spCells)) ∨ (e = .returned (.tuple #[v, .bool false]) ∧ NoMeet l))
def NoneUp (l : List Tp) (k : Nat) : Prop := ∀ i j (hi : i < l.length) (hj : j < l.length), i < k → i < j → mtT l[i] l[j] = false
def NoneAt (l : List Tp) (x : Tp) (i k : Nat) : Prop := ∀ j (hj : j < l.length), j < k → i < j → mtT x l[j] = false
theorem noneUp_next {l : List Tp} {i : Nat} (hi : i < l.length) (h : NoneUp l i) (h2 : NoneAt l l[i] i l.length) : NoneUp l (i + 1) := fun a j ha hj hai haj => by
  by_cases e : a = i
  · subst e; exact h2 j hj hj haj
  · exact h a j ha hj (by omega) haj
theorem noneAt_next {l : List Tp} {x : Tp} {i k : Nat} (h : NoneAt l x i k) (h2 : ∀ hk : k < l.length, i < k → mtT x l[k] = false) : NoneAt l x i (k + 1) := fun j hj hjk hij => by
  by_cases e : j = k
  · subst e; exact h2 hj hij
  · exact h j hj (by omega) hij
theorem tB_pick {l : List Tp} {i k n : Nat} (hn : n < l.length) (h : n ≠ i ∧ n ≠ k) : (tB (pickL l i k (n + 1))).flatMap spCells = (tB (pickL l i k n)).flatMap spCells ++ [.string l[n].1.1, .string l[n].1.2] := by
  have e : pickL l i k (n + 1) = pickL l i k n ++ [l[n]] := by
    show (if n ≠ i ∧ n ≠ k then pickL l i k n ++ [l[n]!] else pickL l i k n) = _
    rw [if_pos h, getElem!_pos l n hn]
  rw [e, tB, List.map_append, List.flatMap_append]
  rfl
theorem pick_skip {l : List Tp} {i k n : Nat} (h : ¬ (n ≠ i ∧ n ≠ k)) : pickL l i k (n + 1) = pickL l i k n := by
  show (if n ≠ i ∧ n ≠ k then pickL l i k n ++ [l[n]!] else pickL l i k n) = _
  rw [if_neg h]
set_option linter.unusedSimpArgs false in
set_option maxRecDepth 10000 in
set_option maxHeartbeats 40000000 in
theorem refMerged_any {w : World} {v : Value} {l : List Tp} (h : RSps w [v] (tB l)) (hm : mayT l) (hl : l.length ≤ 2000) : Calls Tryz.prog 60 #[v] w (MergedPost l v w) := by
  have hat0 := fun a c (e : v = .slice a (tB l).length c) => sps_at (by rw [← e]; exact h)
  obtain ⟨a, cap, rfl⟩ := sps_shape h
  have hat := hat0 a cap rfl
  clear hat0
  obtain ⟨n, hn⟩ : ∃ n, n = (tB l).length := ⟨_, rfl⟩
  have hnl : n = l.length := by rw [hn, List.length_map]
  rw [← hn] at h ⊢
  have hn1 : n ≤ 2000 := by omega
  have Hh := Lib.hid h; have Hm := Lib.hid hm; have Hn := Lib.hid hn; have Hnl := Lib.hid hnl; have Hat := Lib.hid hat; clear h hm hn hnl hat
  go_enter Tryz.func60, Tryz.ntmps60
  go_wp2_with fail
  go_loopw [12] (fun i wr => ∃ k : Nat, k ≤ n ∧ i = .int .i64 k ∧ NoneUp l k ∧ Below w.heap.size w wr) (fun i _ => n - (RowKit.intOf i).toNat)
  case atStart => exact ⟨0, Nat.zero_le _, rfl, fun _ _ _ _ h _ => absurd h (Nat.not_lt_zero _), Below.refl _ _⟩
  case round =>
    obtain ⟨i, hi, rfl, hno, hbr⟩ := hrel
    by_cases hlt : i < n
    · have hil : i < l.length := by have := Hnl.out; omega
      obtain ⟨x, hx⟩ : ∃ x, x = l[i] := ⟨_, rfl⟩
      obtain ⟨b, off, rfl, c0, c1⟩ := Hat.out i x.1 (by rw [hx, List.getElem?_map, List.getElem?_eq_getElem hil]; rfl)
      have k5 : (0 : Int) ≤ (i : Int) := by omega
      have k6 : (i : Int) < (n : Int) := by omega
      have d0 := cell_later hbr c0
      have d1 := cell_later hbr c1
      have Hno := Lib.hid hno; have Hbr := Lib.hid hbr; have Hx := Lib.hid hx; have Hc0 := Lib.hid c0; have Hc1 := Lib.hid c1; clear hno hbr hx c0 c1
      go_wp2_with fail
      go_loopw [17] (fun j wq => ∃ k : Nat, k ≤ n ∧ j = .int .i64 k ∧ NoneAt l x i k ∧ Below w.heap.size w wq) (fun j _ => n - (RowKit.intOf j).toNat)
      case atStart => exact ⟨0, Nat.zero_le _, rfl, fun _ _ h _ => absurd h (Nat.not_lt_zero _), Hbr.out⟩
      case round =>
        obtain ⟨k, hk, rfl, hna, hbq⟩ := hrel
        by_cases hlk : k < n
        · have hkl : k < l.length := by have := Hnl.out; omega
          obtain ⟨y, hy⟩ : ∃ y, y = l[k] := ⟨_, rfl⟩
          obtain ⟨b2, off2, e2, d2, d3⟩ := Hat.out k y.1 (by rw [hy, List.getElem?_map, List.getElem?_eq_getElem hkl]; rfl)
          injection e2 with e2
          injection e2 with e2 e3 _
          subst e2 e3
          have hxs := x.2
          have hys := y.2
          have hxm := Hm.out x (by rw [Hx.out]; exact List.getElem_mem _)
          have hym := Hm.out y (by rw [hy]; exact List.getElem_mem _)
          have hM := fun (W : World) (_ : Below w.heap.size w W) => refMeet_any x.1.1 x.1.2 y.1.1 y.1.2 (by omega) (by omega) (by omega) (by omega) W
          have hJ := fun (W : World) (_ : Below w.heap.size w W) => refJoin_any x.1.1 x.1.2 y.1.1 y.1.2 (by omega) (by omega) (by omega) (by omega) hxm hym W
          have hcf : ∀ W, Below w.heap.size w W → W.cell? ⟨b, off + i * 2, none⟩ = some (.string x.1.1) ∧ W.cell? ⟨b, off + i * 2 + 1, none⟩ = some (.string x.1.2) ∧ W.cell? ⟨b, off + k * 2, none⟩ = some (.string y.1.1) ∧ W.cell? ⟨b, off + k * 2 + 1, none⟩ = some (.string y.1.2) :=
            fun W hW => ⟨cell_later hW Hc0.out, cell_later hW Hc1.out, cell_later hW d2, cell_later hW d3⟩
          have hnx := fun (ho : ¬ (i < k ∧ mtT x y = true)) => noneAt_next hna fun hk2 hik => by
            have : mtT x y = false := by cases hmt : mtT x y with
              | false => rfl
              | true => exact absurd ⟨hik, hmt⟩ ho
            rw [hy] at this
            exact this
          obtain ⟨m1, m2, hmv⟩ : ∃ p q, (p, q) = mtV x.1.1 x.1.2 y.1.1 y.1.2 := ⟨_, _, rfl⟩
          obtain ⟨j1, j2, hjv⟩ : ∃ p q, (p, q) = jnV x.1.1 x.1.2 y.1.1 y.1.2 := ⟨_, _, rfl⟩
          obtain ⟨ok, hok⟩ : ∃ b, b = mtT x y := ⟨_, rfl⟩
          have hok2 : meetOk (x.1.1.data.toList, x.1.2.data.toList) (y.1.1.data.toList, y.1.2.data.toList) = ok := hok.symm
          rw [← hmv, hok2] at hM
          rw [← hjv] at hJ
          rw [← hok] at hnx
          obtain ⟨x1, hx1⟩ : ∃ s, s = x.1.1 := ⟨_, rfl⟩
          obtain ⟨x2, hx2⟩ : ∃ s, s = x.1.2 := ⟨_, rfl⟩
          obtain ⟨y1, hy1⟩ : ∃ s, s = y.1.1 := ⟨_, rfl⟩
          obtain ⟨y2, hy2⟩ : ∃ s, s = y.1.2 := ⟨_, rfl⟩
          rw [← hx1, ← hx2, ← hy1, ← hy2] at hM hJ
          simp only [← hx1, ← hx2, ← hy1, ← hy2] at hcf
          have k7 : (0 : Int) ≤ (k : Int) := by omega
          have k8 : (k : Int) < (n : Int) := by omega
          have hbz := bel_drewN (Below.refl wr.heap.size wr) 1
          have hcz := hcf _ (hbq.trans (hbz.mono hbq.size))
          obtain ⟨e0, e1, e4, e5⟩ := hcf _ hbq
          clear d0 d1 d2 d3 hok2
          have Hna := Lib.hid hna; have Hbq := Lib.hid hbq; have Hy := Lib.hid hy; have Hxs := Lib.hid hxs; have Hys := Lib.hid hys; have Hxm := Lib.hid hxm; have Hym := Lib.hid hym; have HM := Lib.hid hM; have HJ := Lib.hid hJ; have Hnx := Lib.hid hnx; have Hmv := Lib.hid hmv; have Hjv := Lib.hid hjv; have Hok := Lib.hid hok; have Hx1 := Lib.hid hx1; have Hx2 := Lib.hid hx2; have Hy1 := Lib.hid hy1; have Hy2 := Lib.hid hy2; clear hna hbq hy hxs hys hxm hym hM hJ hnx hmv hjv hok hx1 hx2 hy1 hy2
          have Hcz := Lib.hid hcf
          clear hcf
          go_upto_region 7 with (fail)
          go_cut [7] (fun v W => v = .bool ok ∧ Below w.heap.size w W)
          case first =>
            have hbz2 : ∀ o, Below wr.heap.size wr ((wr.alloc o).drew) := fun o => ((Below.refl _ _).alloc (Nat.le_refl _) o).drew
            go_region_held3 (fun w' => w'.cell? ⟨b, off + i * 2, none⟩ = some (.string x1) ∧ w'.cell? ⟨b, off + i * 2 + 1, none⟩ = some (.string x2) ∧ w'.cell? ⟨b, off + k * 2, none⟩ = some (.string y1) ∧ w'.cell? ⟨b, off + k * 2 + 1, none⟩ = some (.string y2)) (first | exact hcz | exact Hcz.out _ (Hbq.out.trans ((hbz2 _).mono Hbq.out.size)) | exact Hcz.out _ (Hbq.out.trans ((hbz.alloc hbz.size _).mono Hbq.out.size)) | exact Hcz.out _ (Hbq.out.trans ((pair_bel _ _ hbz hbz.size).mono Hbq.out.size)) | exact Hcz.out _ (Hbq.out.trans ((pair_bel _ _ hbz (Nat.le_refl _)).mono Hbq.out.size)) | go_keep) (first | (go_at_call 118; refine (HM.out _ (by exact Hbq.out.trans (hbz.mono Hbq.out.size))).mono ?_; rintro e wz ⟨rfl, hsz⟩; replace hbz := hbz.trans (hsz.mono hbz.size); replace hcz := Hcz.out _ (Hbq.out.trans (hbz.mono Hbq.out.size))) | (go_at_call 118; refine (HM.out _ (by exact Hbq.out.trans ((hbz2 _).mono Hbq.out.size))).mono ?_; rintro e wz ⟨rfl, hsz⟩; obtain ⟨zz0, zz1, zz2, zz3⟩ := pair_cells (heap_below hsz (heap_alloc_new _ _)); replace hbz := (hbz2 _).trans (hsz.mono (hbz2 _).size); replace hcz := Hcz.out _ (Hbq.out.trans (hbz.mono Hbq.out.size))))
            all_goals
              go_wp2_with fail
              go_meet
              exact ⟨rfl, Hbq.out.trans (Below.mono (by first | exact hbz.alloc hbz.size _ | exact pair_bel _ _ hbz (Nat.le_refl _) | exact pair_bel _ _ (hbz.alloc hbz.size _) hbz.size) Hbq.out.size)⟩
          case rest =>
            obtain ⟨rfl, hbc⟩ := hcut
            by_cases hik : i < k ∧ ok = true
            · obtain ⟨hik, rfl⟩ := hik
              have q1 : decide ((k : Int) ≤ (i : Int)) = false := decide_eq_false (by omega)
              have hcf := Hcz.out _ hbc
              obtain ⟨g0, g1, g2, g3⟩ := hcf
              clear e0 e1 e4 e5
              have Hbc := Lib.hid hbc; clear hbc
              go_upto_region 9 with (fail)
              have hbz := bel_drewN (Below.refl wc.heap.size wc) 1
              have hcz := Hcz.out _ (Hbc.out.trans (hbz.mono Hbc.out.size))
              go_region_held3 (fun w' => w'.cell? ⟨b, off + i * 2, none⟩ = some (.string x1) ∧ w'.cell? ⟨b, off + i * 2 + 1, none⟩ = some (.string x2) ∧ w'.cell? ⟨b, off + k * 2, none⟩ = some (.string y1) ∧ w'.cell? ⟨b, off + k * 2 + 1, none⟩ = some (.string y2)) (first | exact hcz | exact Hcz.out _ (Hbc.out.trans ((hbz.alloc hbz.size _).mono Hbc.out.size)) | go_keep) (first | (go_at_call 119; refine (HJ.out _ (by exact Hbc.out.trans (hbz.mono Hbc.out.size))).mono ?_; rintro e wz ⟨rfl, hsz⟩; replace hbz := hbz.trans (hsz.mono hbz.size); replace hcz := Hcz.out _ (Hbc.out.trans (hbz.mono Hbc.out.size))))
              have hbw := Hbc.out.trans (hbz.mono Hbc.out.size)
              have hown : (wz.alloc (.cells #[.string j1, .string j2] 34)).ownsRow w.heap.size 34 2 (.slice (some ⟨wz.heap.size, 0, none⟩) 1 1) 1 [.string j1, .string j2] := World.ownsRow_lit (base := w.heap.size) (e := 34) (size := 2) wz #[.string j1, .string j2] 1 hbw.size (by decide) rfl
              have hbw2 := hbw.alloc hbw.size (.cells #[.string j1, .string j2] 34)
              have Hown := Lib.hid hown; have Hbw := Lib.hid hbw; have Hbw2 := Lib.hid hbw2; clear hown hbw hbw2
              have hj0 : (tB (jnT x y :: pickL l i k 0)).flatMap spCells = [.string j1, .string j2] := by
                show spCells (jnV x.1.1 x.1.2 y.1.1 y.1.2) ++ [] = _
                rw [← Hjv.out]
                rfl
              have hst : MStep l (jnT x y :: pickL l i k l.length) := by
                have h9 := step_of (l := l) hik hkl (by rw [← Hx.out, ← Hy.out]; exact Hok.out.symm)
                rw [← Hx.out, ← Hy.out] at h9
                exact h9
              have Hj0 := Lib.hid hj0; have Hst := Lib.hid hst; clear hj0 hst
              go_wp2_with fail
              go_loopw [8, 51] (fun v m wr => ∃ q : Nat, q ≤ n ∧ m = .int .i64 q ∧ wr.ownsRow w.heap.size 34 2 v (jnT x y :: pickL l i k q).length ((tB (jnT x y :: pickL l i k q)).flatMap spCells) ∧ Below w.heap.size w wr) (fun _ m _ => n - (RowKit.intOf m).toNat)
              case atStart => exact ⟨0, Nat.zero_le _, rfl, by rw [Hj0.out]; exact Hown.out, Hbw2.out⟩
              case round =>
                obtain ⟨q, hq, rfl, hrow, hbz⟩ := hrel
                obtain ⟨ra, rc, rfl⟩ := own_shape hrow
                by_cases hlq : q < n
                · by_cases hqk : q ≠ i ∧ q ≠ k
                  · have hql : q < l.length := by have := Hnl.out; omega
                    obtain ⟨z, hz⟩ : ∃ z, z = l[q] := ⟨_, rfl⟩
                    obtain ⟨b3, off3, e3, f0, f1⟩ := Hat.out q z.1 (by rw [hz, List.getElem?_map, List.getElem?_eq_getElem hql]; rfl)
                    injection e3 with e3
                    injection e3 with e3 e4 _
                    subst e3 e4
                    have f2 := cell_later hbz f0
                    have f3 := cell_later hbz f1
                    have hpk := tB_pick (l := l) (i := i) (k := k) hql hqk
                    have hpl : pickL l i k (q + 1) = pickL l i k q ++ [z] := by
                      show (if q ≠ i ∧ q ≠ k then pickL l i k q ++ [l[q]!] else pickL l i k q) = _
                      rw [if_pos hqk, getElem!_pos l q hql, hz]
                    have hpn := pick_len l i k q
                    rw [← hz] at hpk
                    obtain ⟨N, hN⟩ : ∃ N, N = (tB (jnT x y :: pickL l i k q)).flatMap spCells := ⟨_, rfl⟩
                    obtain ⟨m, hm⟩ : ∃ m, m = (jnT x y :: pickL l i k q).length := ⟨_, rfl⟩
                    obtain ⟨z1, hz1⟩ : ∃ s, s = z.1.1 := ⟨_, rfl⟩
                    obtain ⟨z2, hz2⟩ : ∃ s, s = z.1.2 := ⟨_, rfl⟩
                    have hN' : (tB (jnT x y :: pickL l i k (q + 1))).flatMap spCells = N ++ [.string z1, .string z2] := by
                      rw [hN, hz1, hz2]
                      show spCells _ ++ (tB (pickL l i k (q + 1))).flatMap spCells = (spCells _ ++ (tB (pickL l i k q)).flatMap spCells) ++ _
                      rw [hpk, List.append_assoc]
                    have hm' : (jnT x y :: pickL l i k (q + 1)).length = m + 1 := by rw [hm, hpl]; simp
                    have hmq : m ≤ 2001 := by rw [hm]; simp only [List.length_cons]; omega
                    rw [← hN, ← hm] at hrow
                    rw [← hz1] at f2
                    rw [← hz2] at f3
                    have t1 : ((q : Int) != (i : Int)) = true := by rw [bne_iff_ne]; omega
                    have t2 : ((q : Int) != (k : Int)) = true := by rw [bne_iff_ne]; omega
                    have t3 : (0 : Int) ≤ (q : Int) := by omega
                    have t4 : (q : Int) < (n : Int) := by omega
                    have t5 := hbz.size
                    clear f0 f1 hqk
                    rw [← hm]
                    have Hrow := Lib.hid hrow; have Hbz := Lib.hid hbz; have Hz := Lib.hid hz; have Hpk := Lib.hid hpk; have Hpl := Lib.hid hpl; have Hpn := Lib.hid hpn; have HN := Lib.hid hN; have Hm := Lib.hid hm; have Hz1 := Lib.hid hz1; have Hz2 := Lib.hid hz2; have HN' := Lib.hid hN'; have Hm' := Lib.hid hm'; clear hrow hbz hz hpk hpl hpn hN hm hz1 hz2 hN' hm'
                    go_wp2_with (at_builtin; (refine wpList_append_lit elem_spn rfl (.tmp 62) (.tmp 67) rfl w.heap.size (.slice ra m rc) m N rfl Hrow.out 1 #[.string z1, .string z2] rfl rfl (by simp [Value.oneCell']) (by omega) (by unfold maxLen; omega) (by omega) ?_; intro v9 w9 hown9 hg9 hm9; obtain ⟨a9, c9, rfl⟩ := own_shape hown9; have hb9 := (bel_own Hbz.out Hrow.out (Nat.le_refl _) hg9 (by omega) : Below w.heap.size w w9); have Hown9 := Lib.hid hown9; have Hb9 := Lib.hid hb9; clear hown9 hg9 hm9 hb9))
                    go_roundw
                    case rel => exact ⟨q + 1, by omega, by go_num, by rw [HN'.out, Hm'.out]; exact Hown9.out, Hb9.out⟩
                    case measure => (simp [RowKit.intOf]) <;> omega
                  · have hsk := pick_skip (l := l) hqk
                    rw [← hsk] at hrow ⊢
                    have Hsk := Lib.hid hsk; have Hrow := Lib.hid hrow; have Hbz := Lib.hid hbz; clear hsk hrow hbz
                    by_cases hqi : q = i
                    · have t1 : ((q : Int) != (i : Int)) = false := by rw [bne_eq_false_iff_eq]; omega
                      go_wp2_with fail
                      go_roundw
                      case rel => exact ⟨q + 1, by omega, by go_num, Hrow.out, Hbz.out⟩
                      case measure => (simp [RowKit.intOf]) <;> omega
                    · have t1 : ((q : Int) != (i : Int)) = true := by rw [bne_iff_ne]; omega
                      have t2 : ((q : Int) != (k : Int)) = false := by rw [bne_eq_false_iff_eq]; omega
                      go_wp2_with fail
                      go_roundw
                      case rel => exact ⟨q + 1, by omega, by go_num, Hrow.out, Hbz.out⟩
                      case measure => (simp [RowKit.intOf]) <;> omega
                · obtain rfl : q = n := by omega
                  have hrow2 := hrow
                  rw [Hnl.out] at hrow2
                  have Hrow := Lib.hid hrow; have Hrow2 := Lib.hid hrow2; have Hbz := Lib.hid hbz; clear hrow hrow2 hbz
                  go_wp2_with fail
                  go_ret2
                  exact ⟨Hbz.out, .inl ⟨_, _, rfl, Hst.out, by have := Hrow.out; rw [Hnl.out] at this ⊢; exact this⟩⟩
            · have q1 : i < k → ok = false := fun h => by cases ok with
                | false => rfl
                | true => exact absurd ⟨h, rfl⟩ hik
              have hnx2 := Hnx.out (by rw [← Hok.out] at *; exact hik)
              have Hbc := Lib.hid hbc; have Hnx2 := Lib.hid hnx2; clear hbc hnx2
              by_cases h2 : i < k
              · obtain rfl := q1 h2
                have q2 : decide ((k : Int) ≤ (i : Int)) = false := decide_eq_false (by omega)
                go_wp2_with fail
                go_roundw
                case rel => exact ⟨k + 1, by omega, by go_num, Hnx2.out, Hbc.out⟩
                case measure => (simp [RowKit.intOf]) <;> omega
              · have q2 : decide ((k : Int) ≤ (i : Int)) = true := decide_eq_true (by omega)
                clear q1
                go_wp2_with fail
                go_roundw
                case rel => exact ⟨k + 1, by omega, by go_num, Hnx2.out, Hbc.out⟩
                case measure => (simp [RowKit.intOf]) <;> omega
        · obtain rfl : k = n := by omega
          have hnext := noneUp_next hil Hno.out (by rw [← Hx.out, ← Hnl.out]; exact hna)
          have Hna := Lib.hid hna; have Hbq := Lib.hid hbq; have Hnext := Lib.hid hnext; clear hna hbq hnext
          go_wp2_with fail
          go_roundw
          case rel => exact ⟨i + 1, by omega, by go_num, Hnext.out, Hbq.out⟩
          case measure => (simp [RowKit.intOf]) <;> omega
    · obtain rfl : i = n := by omega
      have hnm : NoMeet l := pairs_none fun a b ha hb hab => hno a b ha hb (by have := Hnl.out; omega) hab
      have Hno := Lib.hid hno; have Hbr := Lib.hid hbr; have Hnm := Lib.hid hnm; clear hno hbr hnm
      go_wp2_with fail
      go_ret2
      exact ⟨Hbr.out, .inr ⟨rfl, Hnm.out⟩⟩
end Go.Proofs.YteailgjiifdgcaaGreatDoor

/- The walk of cooperref03.behind. Condition: bounds of at most a million bytes. -/
namespace Go.Proofs.YteailgjiifdgcaaGreatDoor
open Go.RowKit Go.Lib VerN

theorem less_lt (a b : List UInt8) : lessL a b = decide (compareL a b < 0) := by
  rw [less_is]
  have := row_compare.tri a b
  exact decide_eq_decide.2 ⟨fun h => by omega, fun h => by omega⟩
set_option maxRecDepth 10000 in
set_option maxHeartbeats 1000000 in
theorem behind_any (lo hi lp hj : ByteArray) (hl : lo.size ≤ 1000000) (hl2 : lp.size ≤ 1000000) (w : World) : Calls Tryz.prog 61 #[.agg #[.string lo, .string hi], .agg #[.string lp, .string hj]] w fun e w' => e = .returned (.bool (ltLo lp.data.toList lo.data.toList)) ∧ Below w.heap.size w w' := by
  obtain ⟨W0, hW0⟩ : ∃ W0, W0 = (w.alloc (.cells #[.string lo, .string hi] 34)).alloc (.cells #[.string lp, .string hj] 34) := ⟨_, rfl⟩
  obtain ⟨nb, hnb⟩ : ∃ nb, nb = w.heap.size := ⟨_, rfl⟩
  have hw : Below w.heap.size w W0 := by rw [hW0]; exact (below_alloc1 _ _).alloc (by simp) _
  have c0 : W0.cell? ⟨nb, 0, none⟩ = some (.string lo) := by rw [hW0, hnb]; exact (pair_cells (pbox2_0 _ _ _ _ _)).1
  have d0 : W0.cell? ⟨nb + 1, 0, none⟩ = some (.string lp) := by rw [hW0, hnb]; exact (pair_cells (pbox2_1 _ _ _ _ _)).1
  have k2 : lo.toList.isEmpty = decide (lo.data.toList = []) := empty_bool lo
  have k3 : lp.toList.isEmpty = decide (lp.data.toList = []) := empty_bool lp
  have hP := calls_to hw (less1_any lp lo hl2 hl W0)
  rw [less_lt] at hP
  obtain ⟨q, hq⟩ : ∃ p, p = decide (lo.data.toList = []) := ⟨_, rfl⟩
  obtain ⟨r, hr⟩ : ∃ p, p = decide (lp.data.toList = []) := ⟨_, rfl⟩
  obtain ⟨s, hs⟩ : ∃ p, p = decide (compareL lp.data.toList lo.data.toList < 0) := ⟨_, rfl⟩
  have hv : ltLo lp.data.toList lo.data.toList = (!q && (r || s)) := by
    unfold ltLo
    rw [hq, hr, hs]
    congr 1
    by_cases h : lo.data.toList = [] <;> simp [h]
  rw [← hq] at k2
  rw [← hr] at k3
  rw [← hs] at hP
  clear hq hr hs
  have HP := Lib.hid hP; have Hw := Lib.hid hw; have Hv := Lib.hid hv; clear hP hw hv
  go_enter Tryz.func61, Tryz.ntmps61
  go_upto_region 1 with (fail)
  rw [← hW0, ← hnb]
  clear hW0 hnb
  cases q with
  | true =>
    go_wp2_with fail
    go_ret
    exact ⟨by rw [Hv.out]; rfl, Hw.out⟩
  | false =>
    cases r with
    | true =>
      go_wp2_with fail
      go_ret
      exact ⟨by rw [Hv.out]; rfl, Hw.out⟩
    | false =>
      go_wp2_with fail
      refine HP.out.mono ?_
      rintro e w1 ⟨rfl, hb1⟩
      have Hb1 := Lib.hid hb1; clear hb1
      go_wp2_with fail
      go_ret
      exact ⟨by rw [Hv.out]; rfl, Hb1.out⟩
end Go.Proofs.YteailgjiifdgcaaGreatDoor

/- Plain facts: an element is put behind the last one that does not stand behind it. No condition. -/
namespace Go.Proofs.YteailgjiifdgcaaGreatDoor
open SortM

theorem ins_split {α : Type} {lt : α → α → Bool} (x : α) : ∀ (p q : List α), (∀ y ∈ p, lt x y = false) → (∀ y ∈ q, lt x y = true) → ins lt x (p ++ q) = p ++ x :: q
  | [], [], _, _ => rfl
  | [], y :: r, _, hq => by
    show ins lt x (y :: r) = x :: y :: r
    unfold ins
    rw [if_pos (hq y (by simp))]
  | y :: p, q, hp, hq => by
    show ins lt x (y :: (p ++ q)) = y :: (p ++ x :: q)
    unfold ins
    rw [if_neg (by rw [hp y (by simp)]; simp), ins_split x p q (fun z hz => hp z (by simp [hz])) hq]
/-- one round of the law's own loop -/
theorem ins_round {α : Type} {lt : α → α → Bool} (h : Swo lt) {x : α} {l : List α} (hl : Sorted lt l) {at_ : Nat} (hat : at_ ≤ l.length) (hq : ∀ i (hi : i < l.length), at_ ≤ i → lt x l[i] = true) (hp : ∀ h0 : 0 < at_, lt x (l[at_ - 1]'(by omega)) = false) :
    ins lt x l = l.take at_ ++ x :: l.drop at_ := by
  have e := ins_split (lt := lt) x (l.take at_) (l.drop at_) ?_ ?_
  · rw [List.take_append_drop] at e
    exact e
  · intro y hy
    obtain ⟨i, hi, rfl⟩ := List.mem_iff_getElem.1 hy
    rw [List.length_take] at hi
    rw [List.getElem_take]
    have hpos : 0 < at_ := by omega
    have h1 := hp hpos
    by_cases he : i = at_ - 1
    · subst he; exact h1
    · have h2 := List.pairwise_iff_getElem.1 hl i (at_ - 1) (by omega) (by omega) (by omega)
      exact h.ntrans _ _ _ h2 h1
  · intro y hy
    obtain ⟨i, hi, rfl⟩ := List.mem_iff_getElem.1 hy
    rw [List.length_drop] at hi
    rw [List.getElem_drop]
    exact hq _ (by omega) (by omega)
end Go.Proofs.YteailgjiifdgcaaGreatDoor
