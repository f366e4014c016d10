/- Walks and plain facts. Texts merged: SpnRm, SpnRf, SpsS, ShrM, ShrP, ShrA, SpsV. Condition: none beyond what each says. -/
import Derived.Deep.RegionHeld3
import Derived.Test.YteailgjiifdgcaaGreatDoorSpansSharesAll1
import Derived.Test.YteailgjiifdgcaaGreatDoorSpansSharesAll2
import Derived.Test.YteailgjiifdgcaaGreatDoorSpansSharesAll3
import Derived.Test.YteailgjiifdgcaaGreatDoorSpansSharesAll4
import Derived.Test.YteailgjiifdgcaaGreatDoorSpansSharesAll5
import Derived.Test.YteailgjiifdgcaaGreatDoorSpansSharesAll6
set_option linter.unusedVariables false
/- The walk of the document's Meet of spans. Condition: texts of at most a million bytes. -/
namespace Go.Proofs.YteailgjiifdgcaaGreatDoor
open Go.RowKit Go.Lib VerN

set_option linter.unusedSimpArgs false
theorem refMt_val (lo hi lp hj : ByteArray) : (if lp.size ≠ 0 ∧ (lo.size = 0 ∨ lessL lo.data.toList lp.data.toList = true) then lp else lo) = laterS lo lp ∧ (if hj.size ≠ 0 ∧ (hi.size = 0 ∨ lessL hj.data.toList hi.data.toList = true) then hj else hi) = soonerS hi hj := by
  have h := refMeet_is (lo.data.toList, hi.data.toList) (lp.data.toList, hj.data.toList)
  have h1 := congrArg Prod.fst h
  have h2 := congrArg Prod.snd h
  refine ⟨Txt.ext ?_, Txt.ext ?_⟩
  · rw [laterS_data, if_data]
    simp only [← nil_size, ne_eq]
    exact h1
  · rw [soonerS_data, if_data]
    simp only [← nil_size, ne_eq]
    exact h2
set_option maxRecDepth 10000 in
set_option maxHeartbeats 8000000 in
theorem refMeet_any (lo hi lp hj : ByteArray) (hl : lo.size ≤ 1000000) (hh : hi.size ≤ 1000000) (hl2 : lp.size ≤ 1000000) (hh2 : hj.size ≤ 1000000) (w : World) : Calls Tryz.prog 118 #[.agg #[.string lo, .string hi], .agg #[.string lp, .string hj]] w fun e w' => e = .returned (.tuple #[.agg #[.string (mtV lo hi lp hj).1, .string (mtV lo hi lp hj).2], .bool (meetOk (lo.data.toList, hi.data.toList) (lp.data.toList, hj.data.toList))]) ∧ Below w.heap.size w w' := by
  obtain ⟨w0, hW0⟩ : ∃ W0, W0 = ((w.alloc (.cells #[.string lo, .string hi] 34)).alloc (.cells #[.string lp, .string hj] 34)).alloc (.cells #[.string ⟨#[]⟩, .string ⟨#[]⟩] 34) := ⟨_, rfl⟩
  obtain ⟨nb, hnb⟩ : ∃ nb, nb = w.heap.size := ⟨_, rfl⟩
  have hw : Below w.heap.size w w0 := by rw [hW0]; exact ((below_alloc1 _ _).alloc (below_alloc1 _ _).size _).alloc ((below_alloc1 _ _).alloc (below_alloc1 _ _).size _).size _
  have hb0 : Below w0.heap.size w0 w0 := Below.refl _ _
  have ha : w0.heap[nb]? = some (.cells #[.string lo, .string hi] 34 (0, 0)) := by rw [hW0, hnb]; exact pbox3_0 _ _ _ _ _ _ _
  obtain ⟨a0, a1, a2, a3⟩ := pair_cells ha
  have hb : w0.heap[nb + 1]? = some (.cells #[.string lp, .string hj] 34 (0, 0)) := by rw [hW0, hnb]; exact pbox3_1 _ _ _ _ _ _ _
  obtain ⟨b0, b1, b2, b3⟩ := pair_cells hb
  have hr : w0.heap[nb + 1 + 1]? = some (.cells #[.string ⟨#[]⟩, .string ⟨#[]⟩] 34 (0, 0)) := by rw [hW0, hnb]; exact pbox3_2 _ _ _ _ _ _ _
  obtain ⟨r0, r1, r2, r3⟩ := pair_cells hr
  have hA := fun (W : World) (_ : Below w0.heap.size w0 W) => refMay2_any lo hi hl hh W
  have hB := fun (W : World) (_ : Below w0.heap.size w0 W) => refMay2_any lp hj hl2 hh2 W
  have hX := fun (W : World) (_ : Below w0.heap.size w0 W) => less1_any lo lp hl hl2 W
  have hY := fun (W : World) (_ : Below w0.heap.size w0 W) => less1_any hj hi hh2 hh W
  have hO := fun (x y : ByteArray) (hx : x.size ≤ 1000000) (hy : y.size ≤ 1000000) (W : World) (_ : Below w0.heap.size w0 W) => refMay2_any x y hx hy W
  have hvv := refMt_val lo hi lp hj
  obtain ⟨p, hp⟩ : ∃ x, x = mayS (lo.data.toList, hi.data.toList) := ⟨_, rfl⟩
  obtain ⟨q, hq⟩ : ∃ x, x = mayS (lp.data.toList, hj.data.toList) := ⟨_, rfl⟩
  obtain ⟨rx, hrx⟩ : ∃ x, x = lessL lo.data.toList lp.data.toList := ⟨_, rfl⟩
  obtain ⟨ry, hry⟩ : ∃ x, x = lessL hj.data.toList hi.data.toList := ⟨_, rfl⟩
  obtain ⟨d1, k1⟩ : ∃ x, lp.toList.isEmpty = x := ⟨_, rfl⟩
  obtain ⟨d2, k2⟩ : ∃ x, lo.toList.isEmpty = x := ⟨_, rfl⟩
  obtain ⟨d3, k3⟩ : ∃ x, hj.toList.isEmpty = x := ⟨_, rfl⟩
  obtain ⟨d4, k4⟩ : ∃ x, hi.toList.isEmpty = x := ⟨_, rfl⟩
  rw [← hrx, ← hry] at hvv
  have hlv : laterS lo lp = if d1 = false ∧ (d2 = true ∨ rx = true) then lp else lo := by rw [← hvv.1, ← k1, ← k2]; simp only [Txt.no_dec, decide_eq_false_iff_not, ne_eq, decide_eq_true_eq]
  have hsv : soonerS hi hj = if d3 = false ∧ (d4 = true ∨ ry = true) then hj else hi := by rw [← hvv.2, ← k3, ← k4]; simp only [Txt.no_dec, decide_eq_false_iff_not, ne_eq, decide_eq_true_eq]
  have hok : meetOk (lo.data.toList, hi.data.toList) (lp.data.toList, hj.data.toList) = (p && q && mayS ((laterS lo lp).data.toList, (soonerS hi hj).data.toList)) := by
    unfold meetOk meetO
    rw [hp, hq, laterS_data, soonerS_data]
  have hval : mtV lo hi lp hj = if (p && q && mayS ((laterS lo lp).data.toList, (soonerS hi hj).data.toList)) = true then (laterS lo lp, soonerS hi hj) else (⟨#[]⟩, ⟨#[]⟩) := by unfold mtV; rw [hok]
  have hle : w.heap.size ≤ nb + 1 + 1 := by omega
  rw [← hp] at hA
  rw [← hq] at hB
  rw [← hrx] at hX
  rw [← hry] at hY
  rw [hlv, hsv] at hok hval
  clear hp hq hrx hry hvv hlv hsv
  have HA := Lib.hid hA; have HB := Lib.hid hB; have HO := Lib.hid hO; have HX := Lib.hid hX; have HY := Lib.hid hY; have Hok := Lib.hid hok; have Hval := Lib.hid hval; have Hle := Lib.hid hle; have Hw := Lib.hid hw; have Hb0 := Lib.hid hb0; have Ha := Lib.hid ha; have Hb := Lib.hid hb; have Hr := Lib.hid hr; clear hA hB hO hX hY hok hval hle hw hb0 ha hb hr
  go_enter Tryz.func118, Tryz.ntmps118
  go_upto_region 1 with (fail)
  rw [← hW0, ← hnb]
  clear hW0 hnb
  go_wp2_with fail
  refine (HA.out _ Hb0.out).mono ?_
  rintro e w1 ⟨rfl, hs⟩
  have hb1 := Hb0.out.trans (hs.mono Hb0.out.size)
  have ha := heap_below hs Ha.out
  clear Ha a0 a1 a2 a3
  obtain ⟨a0, a1, a2, a3⟩ := pair_cells ha
  have hb := heap_below hs Hb.out
  clear Hb b0 b1 b2 b3
  obtain ⟨b0, b1, b2, b3⟩ := pair_cells hb
  have hr := heap_below hs Hr.out
  clear Hr r0 r1 r2 r3
  obtain ⟨r0, r1, r2, r3⟩ := pair_cells hr
  have Hs := Lib.hid hs; have Hb1 := Lib.hid hb1; have Ha := Lib.hid ha; have Hb := Lib.hid hb; have Hr := Lib.hid hr; clear hs hb1 ha hb hr
  cases p with
  | false =>
    go_wp2_with fail
    refine bodyPost_spn2 rfl rfl rfl (pair_set _ _ Hr.out) rfl ?_
    exact ⟨ret_spn2 (by rw [Hval.out]; rfl) (by rw [Hval.out]; rfl) (by rw [Hok.out] <;> rfl), pair_bel _ _ (below_on Hw.out Hb1.out) Hle.out⟩
  | true =>
    go_wp2_with fail
    refine (HB.out _ Hb1.out).mono ?_
    rintro e w2 ⟨rfl, hs⟩
    have hb2 := Hb1.out.trans (hs.mono Hb1.out.size)
    have ha := heap_below hs Ha.out
    clear Ha a0 a1 a2 a3
    obtain ⟨a0, a1, a2, a3⟩ := pair_cells ha
    have hb := heap_below hs Hb.out
    clear Hb b0 b1 b2 b3
    obtain ⟨b0, b1, b2, b3⟩ := pair_cells hb
    have hr := heap_below hs Hr.out
    clear Hr r0 r1 r2 r3
    obtain ⟨r0, r1, r2, r3⟩ := pair_cells hr
    have Hs := Lib.hid hs; have Hb2 := Lib.hid hb2; have Ha := Lib.hid ha; have Hb := Lib.hid hb; have Hr := Lib.hid hr; clear hs hb2 ha hb hr
    cases q with
    | false =>
      go_wp2_with fail
      refine bodyPost_spn2 rfl rfl rfl (pair_set _ _ Hr.out) rfl ?_
      exact ⟨ret_spn2 (by rw [Hval.out]; rfl) (by rw [Hval.out]; rfl) (by rw [Hok.out] <;> rfl), pair_bel _ _ (below_on Hw.out Hb2.out) Hle.out⟩
    | true =>
      go_upto_region 4 with (fail)
      obtain ⟨w3, hv⟩ : ∃ W, W = w2.alloc (.cells #[.string lo, .string hi] 34) := ⟨_, rfl⟩
      obtain ⟨go, hg⟩ : ∃ g, g = w2.heap.size := ⟨_, rfl⟩
      have hs : Below w2.heap.size w2 w3 := by rw [hv]; exact below_alloc1 _ _
      have hb3 := Hb2.out.trans (hs.mono Hb2.out.size)
      have hgeo : w0.heap.size ≤ go := by rw [hg]; exact Hb2.out.size
      have hneao : nb ≠ go := by have := (Array.getElem?_eq_some_iff.1 Ha.out).1; omega
      have hnebo : nb + 1 ≠ go := by have := (Array.getElem?_eq_some_iff.1 Hb.out).1; omega
      have hnero : nb + 1 + 1 ≠ go := by have := (Array.getElem?_eq_some_iff.1 Hr.out).1; omega
      have ha := heap_below hs Ha.out
      clear Ha a0 a1 a2 a3
      obtain ⟨a0, a1, a2, a3⟩ := pair_cells ha
      have hb := heap_below hs Hb.out
      clear Hb b0 b1 b2 b3
      obtain ⟨b0, b1, b2, b3⟩ := pair_cells hb
      have hr := heap_below hs Hr.out
      clear Hr r0 r1 r2 r3
      obtain ⟨r0, r1, r2, r3⟩ := pair_cells hr
      have ho : w3.heap[go]? = some (.cells #[.string lo, .string hi] 34 (0, 0)) := by rw [hv, hg]; exact heap_alloc_new _ _
      obtain ⟨o0, o1, o2, o3⟩ := pair_cells ho
      rw [← hv, ← hg]
      clear hv hg
      have Hs := Lib.hid hs; have Hb3 := Lib.hid hb3; have Hgeo := Lib.hid hgeo; have Ha := Lib.hid ha; have Hb := Lib.hid hb; have Hr := Lib.hid hr; have Ho := Lib.hid ho; have Hneao := Lib.hid hneao; have Hnebo := Lib.hid hnebo; have Hnero := Lib.hid hnero; clear hs hb3 hgeo ha hb hr ho hneao hnebo hnero
      cases d1 with
      | false =>
        cases d2 with
        | false =>
          go_wp2_with fail
          refine (HX.out _ Hb3.out).mono ?_
          rintro e w4 ⟨rfl, hs⟩
          have hb4 := Hb3.out.trans (hs.mono Hb3.out.size)
          have ha := heap_below hs Ha.out
          clear Ha a0 a1 a2 a3
          obtain ⟨a0, a1, a2, a3⟩ := pair_cells ha
          have hb := heap_below hs Hb.out
          clear Hb b0 b1 b2 b3
          obtain ⟨b0, b1, b2, b3⟩ := pair_cells hb
          have hr := heap_below hs Hr.out
          clear Hr r0 r1 r2 r3
          obtain ⟨r0, r1, r2, r3⟩ := pair_cells hr
          have ho := heap_below hs Ho.out
          clear Ho o0 o1 o2 o3
          obtain ⟨o0, o1, o2, o3⟩ := pair_cells ho
          have Hs := Lib.hid hs; have Hb4 := Lib.hid hb4; have Ha := Lib.hid ha; have Hb := Lib.hid hb; have Hr := Lib.hid hr; have Ho := Lib.hid ho; clear hs hb4 ha hb hr ho
          cases rx with
          | false =>
            cases d3 with
            | false =>
              cases d4 with
              | false =>
                go_wp2_with fail
                refine (HY.out _ Hb4.out).mono ?_
                rintro e w5 ⟨rfl, hs⟩
                have hb5 := Hb4.out.trans (hs.mono Hb4.out.size)
                have ha := heap_below hs Ha.out
                clear Ha a0 a1 a2 a3
                obtain ⟨a0, a1, a2, a3⟩ := pair_cells ha
                have hb := heap_below hs Hb.out
                clear Hb b0 b1 b2 b3
                obtain ⟨b0, b1, b2, b3⟩ := pair_cells hb
                have hr := heap_below hs Hr.out
                clear Hr r0 r1 r2 r3
                obtain ⟨r0, r1, r2, r3⟩ := pair_cells hr
                have ho := heap_below hs Ho.out
                clear Ho o0 o1 o2 o3
                obtain ⟨o0, o1, o2, o3⟩ := pair_cells ho
                have Hs := Lib.hid hs; have Hb5 := Lib.hid hb5; have Ha := Lib.hid ha; have Hb := Lib.hid hb; have Hr := Lib.hid hr; have Ho := Lib.hid ho; clear hs hb5 ha hb hr ho
                cases ry with
                | false =>
                  have hZ := HO.out lo hi hl hh
                  obtain ⟨s, hs⟩ : ∃ z, z = mayS (lo.data.toList, hi.data.toList) := ⟨_, rfl⟩
                  rw [← hs] at hZ
                  have hok := Hok.out
                  have hval := Hval.out
                  simp only [reduceCtorEq, eq_self, and_self, true_and, and_true, false_and, and_false, or_true, true_or, or_false, false_or, or_self, if_true, if_false, ite_true, ite_false, Bool.true_and, Bool.and_true, ← hs] at hok hval
                  clear hs Hok Hval
                  have HZ := Lib.hid hZ; have Hok := Lib.hid hok; have Hval := Lib.hid hval; clear hZ hok hval
                  go_wp2_with fail
                  refine (HZ.out _ Hb5.out).mono ?_
                  rintro e w6 ⟨rfl, hs⟩
                  have hb6 := Hb5.out.trans (hs.mono Hb5.out.size)
                  have ha := heap_below hs Ha.out
                  clear Ha a0 a1 a2 a3
                  obtain ⟨a0, a1, a2, a3⟩ := pair_cells ha
                  have hb := heap_below hs Hb.out
                  clear Hb b0 b1 b2 b3
                  obtain ⟨b0, b1, b2, b3⟩ := pair_cells hb
                  have hr := heap_below hs Hr.out
                  clear Hr r0 r1 r2 r3
                  obtain ⟨r0, r1, r2, r3⟩ := pair_cells hr
                  have ho := heap_below hs Ho.out
                  clear Ho o0 o1 o2 o3
                  obtain ⟨o0, o1, o2, o3⟩ := pair_cells ho
                  have Hs := Lib.hid hs; have Hb6 := Lib.hid hb6; have Ha := Lib.hid ha; have Hb := Lib.hid hb; have Hr := Lib.hid hr; have Ho := Lib.hid ho; clear hs hb6 ha hb hr ho
                  cases s with
                  | false =>
                    go_wp2_with fail
                    refine bodyPost_spn2 rfl rfl rfl (pair_set _ _ Hr.out) rfl ?_
                    exact ⟨ret_spn2 (by rw [Hval.out]; rfl) (by rw [Hval.out]; rfl) (by rw [Hok.out] <;> rfl), pair_bel _ _ (below_on Hw.out Hb6.out) Hle.out⟩
                  | true =>
                    go_wp2_with fail
                    refine bodyPost_spn2 rfl rfl rfl (pair_set _ _ Hr.out) rfl ?_
                    exact ⟨ret_spn2 (by rw [Hval.out]; rfl) (by rw [Hval.out]; rfl) (by rw [Hok.out] <;> rfl), pair_bel _ _ (below_on Hw.out Hb6.out) Hle.out⟩
                | true =>
                  go_upto_region 8 with (fail)
                  obtain ⟨w6, hv⟩ : ∃ W, W = w5.setCell ⟨go, 1, none⟩ (.string hj) := ⟨_, rfl⟩
                  have hb6 : Below w0.heap.size w0 w6 := by rw [hv]; exact Hb5.out.setCell (p := ⟨go, 1, none⟩) Hgeo.out _
                  have ha : w6.heap[nb]? = some (.cells #[.string lo, .string hi] 34 (0, 0)) := by rw [hv, Below.heap_setCell _ _ _ _ Hneao.out]; exact Ha.out
                  clear Ha a0 a1 a2 a3
                  obtain ⟨a0, a1, a2, a3⟩ := pair_cells ha
                  have hb : w6.heap[nb + 1]? = some (.cells #[.string lp, .string hj] 34 (0, 0)) := by rw [hv, Below.heap_setCell _ _ _ _ Hnebo.out]; exact Hb.out
                  clear Hb b0 b1 b2 b3
                  obtain ⟨b0, b1, b2, b3⟩ := pair_cells hb
                  have hr : w6.heap[nb + 1 + 1]? = some (.cells #[.string ⟨#[]⟩, .string ⟨#[]⟩] 34 (0, 0)) := by rw [hv, Below.heap_setCell _ _ _ _ Hnero.out]; exact Hr.out
                  clear Hr r0 r1 r2 r3
                  obtain ⟨r0, r1, r2, r3⟩ := pair_cells hr
                  have ho : w6.heap[go]? = some (.cells #[.string lo, .string hj] 34 (0, 0)) := by rw [hv]; exact heap_setCell_same _ go 1 _ _ _ Ho.out
                  clear Ho o0 o1 o2 o3
                  obtain ⟨o0, o1, o2, o3⟩ := pair_cells ho
                  rw [← hv]
                  clear hv
                  have Hb6 := Lib.hid hb6; have Ha := Lib.hid ha; have Hb := Lib.hid hb; have Hr := Lib.hid hr; have Ho := Lib.hid ho; clear hb6 ha hb hr ho
                  have hZ := HO.out lo hj hl hh2
                  obtain ⟨s, hs⟩ : ∃ z, z = mayS (lo.data.toList, hj.data.toList) := ⟨_, rfl⟩
                  rw [← hs] at hZ
                  have hok := Hok.out
                  have hval := Hval.out
                  simp only [reduceCtorEq, eq_self, and_self, true_and, and_true, false_and, and_false, or_true, true_or, or_false, false_or, or_self, if_true, if_false, ite_true, ite_false, Bool.true_and, Bool.and_true, ← hs] at hok hval
                  clear hs Hok Hval
                  have HZ := Lib.hid hZ; have Hok := Lib.hid hok; have Hval := Lib.hid hval; clear hZ hok hval
                  go_wp2_with fail
                  refine (HZ.out _ Hb6.out).mono ?_
                  rintro e w7 ⟨rfl, hs⟩
                  have hb7 := Hb6.out.trans (hs.mono Hb6.out.size)
                  have ha := heap_below hs Ha.out
                  clear Ha a0 a1 a2 a3
                  obtain ⟨a0, a1, a2, a3⟩ := pair_cells ha
                  have hb := heap_below hs Hb.out
                  clear Hb b0 b1 b2 b3
                  obtain ⟨b0, b1, b2, b3⟩ := pair_cells hb
                  have hr := heap_below hs Hr.out
                  clear Hr r0 r1 r2 r3
                  obtain ⟨r0, r1, r2, r3⟩ := pair_cells hr
                  have ho := heap_below hs Ho.out
                  clear Ho o0 o1 o2 o3
                  obtain ⟨o0, o1, o2, o3⟩ := pair_cells ho
                  have Hs := Lib.hid hs; have Hb7 := Lib.hid hb7; have Ha := Lib.hid ha; have Hb := Lib.hid hb; have Hr := Lib.hid hr; have Ho := Lib.hid ho; clear hs hb7 ha hb hr ho
                  cases s with
                  | false =>
                    go_wp2_with fail
                    refine bodyPost_spn2 rfl rfl rfl (pair_set _ _ Hr.out) rfl ?_
                    exact ⟨ret_spn2 (by rw [Hval.out]; rfl) (by rw [Hval.out]; rfl) (by rw [Hok.out] <;> rfl), pair_bel _ _ (below_on Hw.out Hb7.out) Hle.out⟩
                  | true =>
                    go_wp2_with fail
                    refine bodyPost_spn2 rfl rfl rfl (pair_set _ _ Hr.out) rfl ?_
                    exact ⟨ret_spn2 (by rw [Hval.out]; rfl) (by rw [Hval.out]; rfl) (by rw [Hok.out] <;> rfl), pair_bel _ _ (below_on Hw.out Hb7.out) Hle.out⟩
              | true =>
                go_upto_region 8 with (fail)
                obtain ⟨w5, hv⟩ : ∃ W, W = w4.setCell ⟨go, 1, none⟩ (.string hj) := ⟨_, rfl⟩
                have hb5 : Below w0.heap.size w0 w5 := by rw [hv]; exact Hb4.out.setCell (p := ⟨go, 1, none⟩) Hgeo.out _
                have ha : w5.heap[nb]? = some (.cells #[.string lo, .string hi] 34 (0, 0)) := by rw [hv, Below.heap_setCell _ _ _ _ Hneao.out]; exact Ha.out
                clear Ha a0 a1 a2 a3
                obtain ⟨a0, a1, a2, a3⟩ := pair_cells ha
                have hb : w5.heap[nb + 1]? = some (.cells #[.string lp, .string hj] 34 (0, 0)) := by rw [hv, Below.heap_setCell _ _ _ _ Hnebo.out]; exact Hb.out
                clear Hb b0 b1 b2 b3
                obtain ⟨b0, b1, b2, b3⟩ := pair_cells hb
                have hr : w5.heap[nb + 1 + 1]? = some (.cells #[.string ⟨#[]⟩, .string ⟨#[]⟩] 34 (0, 0)) := by rw [hv, Below.heap_setCell _ _ _ _ Hnero.out]; exact Hr.out
                clear Hr r0 r1 r2 r3
                obtain ⟨r0, r1, r2, r3⟩ := pair_cells hr
                have ho : w5.heap[go]? = some (.cells #[.string lo, .string hj] 34 (0, 0)) := by rw [hv]; exact heap_setCell_same _ go 1 _ _ _ Ho.out
                clear Ho o0 o1 o2 o3
                obtain ⟨o0, o1, o2, o3⟩ := pair_cells ho
                rw [← hv]
                clear hv
                have Hb5 := Lib.hid hb5; have Ha := Lib.hid ha; have Hb := Lib.hid hb; have Hr := Lib.hid hr; have Ho := Lib.hid ho; clear hb5 ha hb hr ho
                have hZ := HO.out lo hj hl hh2
                obtain ⟨s, hs⟩ : ∃ z, z = mayS (lo.data.toList, hj.data.toList) := ⟨_, rfl⟩
                rw [← hs] at hZ
                have hok := Hok.out
                have hval := Hval.out
                simp only [reduceCtorEq, eq_self, and_self, true_and, and_true, false_and, and_false, or_true, true_or, or_false, false_or, or_self, if_true, if_false, ite_true, ite_false, Bool.true_and, Bool.and_true, ← hs] at hok hval
                clear hs Hok Hval
                have HZ := Lib.hid hZ; have Hok := Lib.hid hok; have Hval := Lib.hid hval; clear hZ hok hval
                go_wp2_with fail
                refine (HZ.out _ Hb5.out).mono ?_
                rintro e w6 ⟨rfl, hs⟩
                have hb6 := Hb5.out.trans (hs.mono Hb5.out.size)
                have ha := heap_below hs Ha.out
                clear Ha a0 a1 a2 a3
                obtain ⟨a0, a1, a2, a3⟩ := pair_cells ha
                have hb := heap_below hs Hb.out
                clear Hb b0 b1 b2 b3
                obtain ⟨b0, b1, b2, b3⟩ := pair_cells hb
                have hr := heap_below hs Hr.out
                clear Hr r0 r1 r2 r3
                obtain ⟨r0, r1, r2, r3⟩ := pair_cells hr
                have ho := heap_below hs Ho.out
                clear Ho o0 o1 o2 o3
                obtain ⟨o0, o1, o2, o3⟩ := pair_cells ho
                have Hs := Lib.hid hs; have Hb6 := Lib.hid hb6; have Ha := Lib.hid ha; have Hb := Lib.hid hb; have Hr := Lib.hid hr; have Ho := Lib.hid ho; clear hs hb6 ha hb hr ho
                cases s with
                | false =>
                  go_wp2_with fail
                  refine bodyPost_spn2 rfl rfl rfl (pair_set _ _ Hr.out) rfl ?_
                  exact ⟨ret_spn2 (by rw [Hval.out]; rfl) (by rw [Hval.out]; rfl) (by rw [Hok.out] <;> rfl), pair_bel _ _ (below_on Hw.out Hb6.out) Hle.out⟩
                | true =>
                  go_wp2_with fail
                  refine bodyPost_spn2 rfl rfl rfl (pair_set _ _ Hr.out) rfl ?_
                  exact ⟨ret_spn2 (by rw [Hval.out]; rfl) (by rw [Hval.out]; rfl) (by rw [Hok.out] <;> rfl), pair_bel _ _ (below_on Hw.out Hb6.out) Hle.out⟩
            | true =>
              have hZ := HO.out lo hi hl hh
              obtain ⟨s, hs⟩ : ∃ z, z = mayS (lo.data.toList, hi.data.toList) := ⟨_, rfl⟩
              rw [← hs] at hZ
              have hok := Hok.out
              have hval := Hval.out
              simp only [reduceCtorEq, eq_self, and_self, true_and, and_true, false_and, and_false, or_true, true_or, or_false, false_or, or_self, if_true, if_false, ite_true, ite_false, Bool.true_and, Bool.and_true, ← hs] at hok hval
              clear hs Hok Hval
              have HZ := Lib.hid hZ; have Hok := Lib.hid hok; have Hval := Lib.hid hval; clear hZ hok hval
              go_wp2_with fail
              refine (HZ.out _ Hb4.out).mono ?_
              rintro e w5 ⟨rfl, hs⟩
              have hb5 := Hb4.out.trans (hs.mono Hb4.out.size)
              have ha := heap_below hs Ha.out
              clear Ha a0 a1 a2 a3
              obtain ⟨a0, a1, a2, a3⟩ := pair_cells ha
              have hb := heap_below hs Hb.out
              clear Hb b0 b1 b2 b3
              obtain ⟨b0, b1, b2, b3⟩ := pair_cells hb
              have hr := heap_below hs Hr.out
              clear Hr r0 r1 r2 r3
              obtain ⟨r0, r1, r2, r3⟩ := pair_cells hr
              have ho := heap_below hs Ho.out
              clear Ho o0 o1 o2 o3
              obtain ⟨o0, o1, o2, o3⟩ := pair_cells ho
              have Hs := Lib.hid hs; have Hb5 := Lib.hid hb5; have Ha := Lib.hid ha; have Hb := Lib.hid hb; have Hr := Lib.hid hr; have Ho := Lib.hid ho; clear hs hb5 ha hb hr ho
              cases s with
              | false =>
                go_wp2_with fail
                refine bodyPost_spn2 rfl rfl rfl (pair_set _ _ Hr.out) rfl ?_
                exact ⟨ret_spn2 (by rw [Hval.out]; rfl) (by rw [Hval.out]; rfl) (by rw [Hok.out] <;> rfl), pair_bel _ _ (below_on Hw.out Hb5.out) Hle.out⟩
              | true =>
                go_wp2_with fail
                refine bodyPost_spn2 rfl rfl rfl (pair_set _ _ Hr.out) rfl ?_
                exact ⟨ret_spn2 (by rw [Hval.out]; rfl) (by rw [Hval.out]; rfl) (by rw [Hok.out] <;> rfl), pair_bel _ _ (below_on Hw.out Hb5.out) Hle.out⟩
          | true =>
            go_upto_region 6 with (fail)
            obtain ⟨w5, hv⟩ : ∃ W, W = w4.setCell ⟨go, 0, none⟩ (.string lp) := ⟨_, rfl⟩
            have hb5 : Below w0.heap.size w0 w5 := by rw [hv]; exact Hb4.out.setCell (p := ⟨go, 0, none⟩) Hgeo.out _
            have ha : w5.heap[nb]? = some (.cells #[.string lo, .string hi] 34 (0, 0)) := by rw [hv, Below.heap_setCell _ _ _ _ Hneao.out]; exact Ha.out
            clear Ha a0 a1 a2 a3
            obtain ⟨a0, a1, a2, a3⟩ := pair_cells ha
            have hb : w5.heap[nb + 1]? = some (.cells #[.string lp, .string hj] 34 (0, 0)) := by rw [hv, Below.heap_setCell _ _ _ _ Hnebo.out]; exact Hb.out
            clear Hb b0 b1 b2 b3
            obtain ⟨b0, b1, b2, b3⟩ := pair_cells hb
            have hr : w5.heap[nb + 1 + 1]? = some (.cells #[.string ⟨#[]⟩, .string ⟨#[]⟩] 34 (0, 0)) := by rw [hv, Below.heap_setCell _ _ _ _ Hnero.out]; exact Hr.out
            clear Hr r0 r1 r2 r3
            obtain ⟨r0, r1, r2, r3⟩ := pair_cells hr
            have ho : w5.heap[go]? = some (.cells #[.string lp, .string hi] 34 (0, 0)) := by rw [hv]; exact heap_setCell_same _ go 0 _ _ _ Ho.out
            clear Ho o0 o1 o2 o3
            obtain ⟨o0, o1, o2, o3⟩ := pair_cells ho
            rw [← hv]
            clear hv
            have Hb5 := Lib.hid hb5; have Ha := Lib.hid ha; have Hb := Lib.hid hb; have Hr := Lib.hid hr; have Ho := Lib.hid ho; clear hb5 ha hb hr ho
            cases d3 with
            | false =>
              cases d4 with
              | false =>
                go_wp2_with fail
                refine (HY.out _ Hb5.out).mono ?_
                rintro e w6 ⟨rfl, hs⟩
                have hb6 := Hb5.out.trans (hs.mono Hb5.out.size)
                have ha := heap_below hs Ha.out
                clear Ha a0 a1 a2 a3
                obtain ⟨a0, a1, a2, a3⟩ := pair_cells ha
                have hb := heap_below hs Hb.out
                clear Hb b0 b1 b2 b3
                obtain ⟨b0, b1, b2, b3⟩ := pair_cells hb
                have hr := heap_below hs Hr.out
                clear Hr r0 r1 r2 r3
                obtain ⟨r0, r1, r2, r3⟩ := pair_cells hr
                have ho := heap_below hs Ho.out
                clear Ho o0 o1 o2 o3
                obtain ⟨o0, o1, o2, o3⟩ := pair_cells ho
                have Hs := Lib.hid hs; have Hb6 := Lib.hid hb6; have Ha := Lib.hid ha; have Hb := Lib.hid hb; have Hr := Lib.hid hr; have Ho := Lib.hid ho; clear hs hb6 ha hb hr ho
                cases ry with
                | false =>
                  have hZ := HO.out lp hi hl2 hh
                  obtain ⟨s, hs⟩ : ∃ z, z = mayS (lp.data.toList, hi.data.toList) := ⟨_, rfl⟩
                  rw [← hs] at hZ
                  have hok := Hok.out
                  have hval := Hval.out
                  simp only [reduceCtorEq, eq_self, and_self, true_and, and_true, false_and, and_false, or_true, true_or, or_false, false_or, or_self, if_true, if_false, ite_true, ite_false, Bool.true_and, Bool.and_true, ← hs] at hok hval
                  clear hs Hok Hval
                  have HZ := Lib.hid hZ; have Hok := Lib.hid hok; have Hval := Lib.hid hval; clear hZ hok hval
                  go_wp2_with fail
                  refine (HZ.out _ Hb6.out).mono ?_
                  rintro e w7 ⟨rfl, hs⟩
                  have hb7 := Hb6.out.trans (hs.mono Hb6.out.size)
                  have ha := heap_below hs Ha.out
                  clear Ha a0 a1 a2 a3
                  obtain ⟨a0, a1, a2, a3⟩ := pair_cells ha
                  have hb := heap_below hs Hb.out
                  clear Hb b0 b1 b2 b3
                  obtain ⟨b0, b1, b2, b3⟩ := pair_cells hb
                  have hr := heap_below hs Hr.out
                  clear Hr r0 r1 r2 r3
                  obtain ⟨r0, r1, r2, r3⟩ := pair_cells hr
                  have ho := heap_below hs Ho.out
                  clear Ho o0 o1 o2 o3
                  obtain ⟨o0, o1, o2, o3⟩ := pair_cells ho
                  have Hs := Lib.hid hs; have Hb7 := Lib.hid hb7; have Ha := Lib.hid ha; have Hb := Lib.hid hb; have Hr := Lib.hid hr; have Ho := Lib.hid ho; clear hs hb7 ha hb hr ho
                  cases s with
                  | false =>
                    go_wp2_with fail
                    refine bodyPost_spn2 rfl rfl rfl (pair_set _ _ Hr.out) rfl ?_
                    exact ⟨ret_spn2 (by rw [Hval.out]; rfl) (by rw [Hval.out]; rfl) (by rw [Hok.out] <;> rfl), pair_bel _ _ (below_on Hw.out Hb7.out) Hle.out⟩
                  | true =>
                    go_wp2_with fail
                    refine bodyPost_spn2 rfl rfl rfl (pair_set _ _ Hr.out) rfl ?_
                    exact ⟨ret_spn2 (by rw [Hval.out]; rfl) (by rw [Hval.out]; rfl) (by rw [Hok.out] <;> rfl), pair_bel _ _ (below_on Hw.out Hb7.out) Hle.out⟩
                | true =>
                  go_upto_region 8 with (fail)
                  obtain ⟨w7, hv⟩ : ∃ W, W = w6.setCell ⟨go, 1, none⟩ (.string hj) := ⟨_, rfl⟩
                  have hb7 : Below w0.heap.size w0 w7 := by rw [hv]; exact Hb6.out.setCell (p := ⟨go, 1, none⟩) Hgeo.out _
                  have ha : w7.heap[nb]? = some (.cells #[.string lo, .string hi] 34 (0, 0)) := by rw [hv, Below.heap_setCell _ _ _ _ Hneao.out]; exact Ha.out
                  clear Ha a0 a1 a2 a3
                  obtain ⟨a0, a1, a2, a3⟩ := pair_cells ha
                  have hb : w7.heap[nb + 1]? = some (.cells #[.string lp, .string hj] 34 (0, 0)) := by rw [hv, Below.heap_setCell _ _ _ _ Hnebo.out]; exact Hb.out
                  clear Hb b0 b1 b2 b3
                  obtain ⟨b0, b1, b2, b3⟩ := pair_cells hb
                  have hr : w7.heap[nb + 1 + 1]? = some (.cells #[.string ⟨#[]⟩, .string ⟨#[]⟩] 34 (0, 0)) := by rw [hv, Below.heap_setCell _ _ _ _ Hnero.out]; exact Hr.out
                  clear Hr r0 r1 r2 r3
                  obtain ⟨r0, r1, r2, r3⟩ := pair_cells hr
                  have ho : w7.heap[go]? = some (.cells #[.string lp, .string hj] 34 (0, 0)) := by rw [hv]; exact heap_setCell_same _ go 1 _ _ _ Ho.out
                  clear Ho o0 o1 o2 o3
                  obtain ⟨o0, o1, o2, o3⟩ := pair_cells ho
                  rw [← hv]
                  clear hv
                  have Hb7 := Lib.hid hb7; have Ha := Lib.hid ha; have Hb := Lib.hid hb; have Hr := Lib.hid hr; have Ho := Lib.hid ho; clear hb7 ha hb hr ho
                  have hZ := HO.out lp hj hl2 hh2
                  obtain ⟨s, hs⟩ : ∃ z, z = mayS (lp.data.toList, hj.data.toList) := ⟨_, rfl⟩
                  rw [← hs] at hZ
                  have hok := Hok.out
                  have hval := Hval.out
                  simp only [reduceCtorEq, eq_self, and_self, true_and, and_true, false_and, and_false, or_true, true_or, or_false, false_or, or_self, if_true, if_false, ite_true, ite_false, Bool.true_and, Bool.and_true, ← hs] at hok hval
                  clear hs Hok Hval
                  have HZ := Lib.hid hZ; have Hok := Lib.hid hok; have Hval := Lib.hid hval; clear hZ hok hval
                  go_wp2_with fail
                  refine (HZ.out _ Hb7.out).mono ?_
                  rintro e w8 ⟨rfl, hs⟩
                  have hb8 := Hb7.out.trans (hs.mono Hb7.out.size)
                  have ha := heap_below hs Ha.out
                  clear Ha a0 a1 a2 a3
                  obtain ⟨a0, a1, a2, a3⟩ := pair_cells ha
                  have hb := heap_below hs Hb.out
                  clear Hb b0 b1 b2 b3
                  obtain ⟨b0, b1, b2, b3⟩ := pair_cells hb
                  have hr := heap_below hs Hr.out
                  clear Hr r0 r1 r2 r3
                  obtain ⟨r0, r1, r2, r3⟩ := pair_cells hr
                  have ho := heap_below hs Ho.out
                  clear Ho o0 o1 o2 o3
                  obtain ⟨o0, o1, o2, o3⟩ := pair_cells ho
                  have Hs := Lib.hid hs; have Hb8 := Lib.hid hb8; have Ha := Lib.hid ha; have Hb := Lib.hid hb; have Hr := Lib.hid hr; have Ho := Lib.hid ho; clear hs hb8 ha hb hr ho
                  cases s with
                  | false =>
                    go_wp2_with fail
                    refine bodyPost_spn2 rfl rfl rfl (pair_set _ _ Hr.out) rfl ?_
                    exact ⟨ret_spn2 (by rw [Hval.out]; rfl) (by rw [Hval.out]; rfl) (by rw [Hok.out] <;> rfl), pair_bel _ _ (below_on Hw.out Hb8.out) Hle.out⟩
                  | true =>
                    go_wp2_with fail
                    refine bodyPost_spn2 rfl rfl rfl (pair_set _ _ Hr.out) rfl ?_
                    exact ⟨ret_spn2 (by rw [Hval.out]; rfl) (by rw [Hval.out]; rfl) (by rw [Hok.out] <;> rfl), pair_bel _ _ (below_on Hw.out Hb8.out) Hle.out⟩
              | true =>
                go_upto_region 8 with (fail)
                obtain ⟨w6, hv⟩ : ∃ W, W = w5.setCell ⟨go, 1, none⟩ (.string hj) := ⟨_, rfl⟩
                have hb6 : Below w0.heap.size w0 w6 := by rw [hv]; exact Hb5.out.setCell (p := ⟨go, 1, none⟩) Hgeo.out _
                have ha : w6.heap[nb]? = some (.cells #[.string lo, .string hi] 34 (0, 0)) := by rw [hv, Below.heap_setCell _ _ _ _ Hneao.out]; exact Ha.out
                clear Ha a0 a1 a2 a3
                obtain ⟨a0, a1, a2, a3⟩ := pair_cells ha
                have hb : w6.heap[nb + 1]? = some (.cells #[.string lp, .string hj] 34 (0, 0)) := by rw [hv, Below.heap_setCell _ _ _ _ Hnebo.out]; exact Hb.out
                clear Hb b0 b1 b2 b3
                obtain ⟨b0, b1, b2, b3⟩ := pair_cells hb
                have hr : w6.heap[nb + 1 + 1]? = some (.cells #[.string ⟨#[]⟩, .string ⟨#[]⟩] 34 (0, 0)) := by rw [hv, Below.heap_setCell _ _ _ _ Hnero.out]; exact Hr.out
                clear Hr r0 r1 r2 r3
                obtain ⟨r0, r1, r2, r3⟩ := pair_cells hr
                have ho : w6.heap[go]? = some (.cells #[.string lp, .string hj] 34 (0, 0)) := by rw [hv]; exact heap_setCell_same _ go 1 _ _ _ Ho.out
                clear Ho o0 o1 o2 o3
                obtain ⟨o0, o1, o2, o3⟩ := pair_cells ho
                rw [← hv]
                clear hv
                have Hb6 := Lib.hid hb6; have Ha := Lib.hid ha; have Hb := Lib.hid hb; have Hr := Lib.hid hr; have Ho := Lib.hid ho; clear hb6 ha hb hr ho
                have hZ := HO.out lp hj hl2 hh2
                obtain ⟨s, hs⟩ : ∃ z, z = mayS (lp.data.toList, hj.data.toList) := ⟨_, rfl⟩
                rw [← hs] at hZ
                have hok := Hok.out
                have hval := Hval.out
                simp only [reduceCtorEq, eq_self, and_self, true_and, and_true, false_and, and_false, or_true, true_or, or_false, false_or, or_self, if_true, if_false, ite_true, ite_false, Bool.true_and, Bool.and_true, ← hs] at hok hval
                clear hs Hok Hval
                have HZ := Lib.hid hZ; have Hok := Lib.hid hok; have Hval := Lib.hid hval; clear hZ hok hval
                go_wp2_with fail
                refine (HZ.out _ Hb6.out).mono ?_
                rintro e w7 ⟨rfl, hs⟩
                have hb7 := Hb6.out.trans (hs.mono Hb6.out.size)
                have ha := heap_below hs Ha.out
                clear Ha a0 a1 a2 a3
                obtain ⟨a0, a1, a2, a3⟩ := pair_cells ha
                have hb := heap_below hs Hb.out
                clear Hb b0 b1 b2 b3
                obtain ⟨b0, b1, b2, b3⟩ := pair_cells hb
                have hr := heap_below hs Hr.out
                clear Hr r0 r1 r2 r3
                obtain ⟨r0, r1, r2, r3⟩ := pair_cells hr
                have ho := heap_below hs Ho.out
                clear Ho o0 o1 o2 o3
                obtain ⟨o0, o1, o2, o3⟩ := pair_cells ho
                have Hs := Lib.hid hs; have Hb7 := Lib.hid hb7; have Ha := Lib.hid ha; have Hb := Lib.hid hb; have Hr := Lib.hid hr; have Ho := Lib.hid ho; clear hs hb7 ha hb hr ho
                cases s with
                | false =>
                  go_wp2_with fail
                  refine bodyPost_spn2 rfl rfl rfl (pair_set _ _ Hr.out) rfl ?_
                  exact ⟨ret_spn2 (by rw [Hval.out]; rfl) (by rw [Hval.out]; rfl) (by rw [Hok.out] <;> rfl), pair_bel _ _ (below_on Hw.out Hb7.out) Hle.out⟩
                | true =>
                  go_wp2_with fail
                  refine bodyPost_spn2 rfl rfl rfl (pair_set _ _ Hr.out) rfl ?_
                  exact ⟨ret_spn2 (by rw [Hval.out]; rfl) (by rw [Hval.out]; rfl) (by rw [Hok.out] <;> rfl), pair_bel _ _ (below_on Hw.out Hb7.out) Hle.out⟩
            | true =>
              have hZ := HO.out lp hi hl2 hh
              obtain ⟨s, hs⟩ : ∃ z, z = mayS (lp.data.toList, hi.data.toList) := ⟨_, rfl⟩
              rw [← hs] at hZ
              have hok := Hok.out
              have hval := Hval.out
              simp only [reduceCtorEq, eq_self, and_self, true_and, and_true, false_and, and_false, or_true, true_or, or_false, false_or, or_self, if_true, if_false, ite_true, ite_false, Bool.true_and, Bool.and_true, ← hs] at hok hval
              clear hs Hok Hval
              have HZ := Lib.hid hZ; have Hok := Lib.hid hok; have Hval := Lib.hid hval; clear hZ hok hval
              go_wp2_with fail
              refine (HZ.out _ Hb5.out).mono ?_
              rintro e w6 ⟨rfl, hs⟩
              have hb6 := Hb5.out.trans (hs.mono Hb5.out.size)
              have ha := heap_below hs Ha.out
              clear Ha a0 a1 a2 a3
              obtain ⟨a0, a1, a2, a3⟩ := pair_cells ha
              have hb := heap_below hs Hb.out
              clear Hb b0 b1 b2 b3
              obtain ⟨b0, b1, b2, b3⟩ := pair_cells hb
              have hr := heap_below hs Hr.out
              clear Hr r0 r1 r2 r3
              obtain ⟨r0, r1, r2, r3⟩ := pair_cells hr
              have ho := heap_below hs Ho.out
              clear Ho o0 o1 o2 o3
              obtain ⟨o0, o1, o2, o3⟩ := pair_cells ho
              have Hs := Lib.hid hs; have Hb6 := Lib.hid hb6; have Ha := Lib.hid ha; have Hb := Lib.hid hb; have Hr := Lib.hid hr; have Ho := Lib.hid ho; clear hs hb6 ha hb hr ho
              cases s with
              | false =>
                go_wp2_with fail
                refine bodyPost_spn2 rfl rfl rfl (pair_set _ _ Hr.out) rfl ?_
                exact ⟨ret_spn2 (by rw [Hval.out]; rfl) (by rw [Hval.out]; rfl) (by rw [Hok.out] <;> rfl), pair_bel _ _ (below_on Hw.out Hb6.out) Hle.out⟩
              | true =>
                go_wp2_with fail
                refine bodyPost_spn2 rfl rfl rfl (pair_set _ _ Hr.out) rfl ?_
                exact ⟨ret_spn2 (by rw [Hval.out]; rfl) (by rw [Hval.out]; rfl) (by rw [Hok.out] <;> rfl), pair_bel _ _ (below_on Hw.out Hb6.out) Hle.out⟩
        | true =>
          go_upto_region 6 with (fail)
          obtain ⟨w4, hv⟩ : ∃ W, W = w3.setCell ⟨go, 0, none⟩ (.string lp) := ⟨_, rfl⟩
          have hb4 : Below w0.heap.size w0 w4 := by rw [hv]; exact Hb3.out.setCell (p := ⟨go, 0, none⟩) Hgeo.out _
          have ha : w4.heap[nb]? = some (.cells #[.string lo, .string hi] 34 (0, 0)) := by rw [hv, Below.heap_setCell _ _ _ _ Hneao.out]; exact Ha.out
          clear Ha a0 a1 a2 a3
          obtain ⟨a0, a1, a2, a3⟩ := pair_cells ha
          have hb : w4.heap[nb + 1]? = some (.cells #[.string lp, .string hj] 34 (0, 0)) := by rw [hv, Below.heap_setCell _ _ _ _ Hnebo.out]; exact Hb.out
          clear Hb b0 b1 b2 b3
          obtain ⟨b0, b1, b2, b3⟩ := pair_cells hb
          have hr : w4.heap[nb + 1 + 1]? = some (.cells #[.string ⟨#[]⟩, .string ⟨#[]⟩] 34 (0, 0)) := by rw [hv, Below.heap_setCell _ _ _ _ Hnero.out]; exact Hr.out
          clear Hr r0 r1 r2 r3
          obtain ⟨r0, r1, r2, r3⟩ := pair_cells hr
          have ho : w4.heap[go]? = some (.cells #[.string lp, .string hi] 34 (0, 0)) := by rw [hv]; exact heap_setCell_same _ go 0 _ _ _ Ho.out
          clear Ho o0 o1 o2 o3
          obtain ⟨o0, o1, o2, o3⟩ := pair_cells ho
          rw [← hv]
          clear hv
          have Hb4 := Lib.hid hb4; have Ha := Lib.hid ha; have Hb := Lib.hid hb; have Hr := Lib.hid hr; have Ho := Lib.hid ho; clear hb4 ha hb hr ho
          cases d3 with
          | false =>
            cases d4 with
            | false =>
              go_wp2_with fail
              refine (HY.out _ Hb4.out).mono ?_
              rintro e w5 ⟨rfl, hs⟩
              have hb5 := Hb4.out.trans (hs.mono Hb4.out.size)
              have ha := heap_below hs Ha.out
              clear Ha a0 a1 a2 a3
              obtain ⟨a0, a1, a2, a3⟩ := pair_cells ha
              have hb := heap_below hs Hb.out
              clear Hb b0 b1 b2 b3
              obtain ⟨b0, b1, b2, b3⟩ := pair_cells hb
              have hr := heap_below hs Hr.out
              clear Hr r0 r1 r2 r3
              obtain ⟨r0, r1, r2, r3⟩ := pair_cells hr
              have ho := heap_below hs Ho.out
              clear Ho o0 o1 o2 o3
              obtain ⟨o0, o1, o2, o3⟩ := pair_cells ho
              have Hs := Lib.hid hs; have Hb5 := Lib.hid hb5; have Ha := Lib.hid ha; have Hb := Lib.hid hb; have Hr := Lib.hid hr; have Ho := Lib.hid ho; clear hs hb5 ha hb hr ho
              cases ry with
              | false =>
                have hZ := HO.out lp hi hl2 hh
                obtain ⟨s, hs⟩ : ∃ z, z = mayS (lp.data.toList, hi.data.toList) := ⟨_, rfl⟩
                rw [← hs] at hZ
                have hok := Hok.out
                have hval := Hval.out
                simp only [reduceCtorEq, eq_self, and_self, true_and, and_true, false_and, and_false, or_true, true_or, or_false, false_or, or_self, if_true, if_false, ite_true, ite_false, Bool.true_and, Bool.and_true, ← hs] at hok hval
                clear hs Hok Hval
                have HZ := Lib.hid hZ; have Hok := Lib.hid hok; have Hval := Lib.hid hval; clear hZ hok hval
                go_wp2_with fail
                refine (HZ.out _ Hb5.out).mono ?_
                rintro e w6 ⟨rfl, hs⟩
                have hb6 := Hb5.out.trans (hs.mono Hb5.out.size)
                have ha := heap_below hs Ha.out
                clear Ha a0 a1 a2 a3
                obtain ⟨a0, a1, a2, a3⟩ := pair_cells ha
                have hb := heap_below hs Hb.out
                clear Hb b0 b1 b2 b3
                obtain ⟨b0, b1, b2, b3⟩ := pair_cells hb
                have hr := heap_below hs Hr.out
                clear Hr r0 r1 r2 r3
                obtain ⟨r0, r1, r2, r3⟩ := pair_cells hr
                have ho := heap_below hs Ho.out
                clear Ho o0 o1 o2 o3
                obtain ⟨o0, o1, o2, o3⟩ := pair_cells ho
                have Hs := Lib.hid hs; have Hb6 := Lib.hid hb6; have Ha := Lib.hid ha; have Hb := Lib.hid hb; have Hr := Lib.hid hr; have Ho := Lib.hid ho; clear hs hb6 ha hb hr ho
                cases s with
                | false =>
                  go_wp2_with fail
                  refine bodyPost_spn2 rfl rfl rfl (pair_set _ _ Hr.out) rfl ?_
                  exact ⟨ret_spn2 (by rw [Hval.out]; rfl) (by rw [Hval.out]; rfl) (by rw [Hok.out] <;> rfl), pair_bel _ _ (below_on Hw.out Hb6.out) Hle.out⟩
                | true =>
                  go_wp2_with fail
                  refine bodyPost_spn2 rfl rfl rfl (pair_set _ _ Hr.out) rfl ?_
                  exact ⟨ret_spn2 (by rw [Hval.out]; rfl) (by rw [Hval.out]; rfl) (by rw [Hok.out] <;> rfl), pair_bel _ _ (below_on Hw.out Hb6.out) Hle.out⟩
              | true =>
                go_upto_region 8 with (fail)
                obtain ⟨w6, hv⟩ : ∃ W, W = w5.setCell ⟨go, 1, none⟩ (.string hj) := ⟨_, rfl⟩
                have hb6 : Below w0.heap.size w0 w6 := by rw [hv]; exact Hb5.out.setCell (p := ⟨go, 1, none⟩) Hgeo.out _
                have ha : w6.heap[nb]? = some (.cells #[.string lo, .string hi] 34 (0, 0)) := by rw [hv, Below.heap_setCell _ _ _ _ Hneao.out]; exact Ha.out
                clear Ha a0 a1 a2 a3
                obtain ⟨a0, a1, a2, a3⟩ := pair_cells ha
                have hb : w6.heap[nb + 1]? = some (.cells #[.string lp, .string hj] 34 (0, 0)) := by rw [hv, Below.heap_setCell _ _ _ _ Hnebo.out]; exact Hb.out
                clear Hb b0 b1 b2 b3
                obtain ⟨b0, b1, b2, b3⟩ := pair_cells hb
                have hr : w6.heap[nb + 1 + 1]? = some (.cells #[.string ⟨#[]⟩, .string ⟨#[]⟩] 34 (0, 0)) := by rw [hv, Below.heap_setCell _ _ _ _ Hnero.out]; exact Hr.out
                clear Hr r0 r1 r2 r3
                obtain ⟨r0, r1, r2, r3⟩ := pair_cells hr
                have ho : w6.heap[go]? = some (.cells #[.string lp, .string hj] 34 (0, 0)) := by rw [hv]; exact heap_setCell_same _ go 1 _ _ _ Ho.out
                clear Ho o0 o1 o2 o3
                obtain ⟨o0, o1, o2, o3⟩ := pair_cells ho
                rw [← hv]
                clear hv
                have Hb6 := Lib.hid hb6; have Ha := Lib.hid ha; have Hb := Lib.hid hb; have Hr := Lib.hid hr; have Ho := Lib.hid ho; clear hb6 ha hb hr ho
                have hZ := HO.out lp hj hl2 hh2
                obtain ⟨s, hs⟩ : ∃ z, z = mayS (lp.data.toList, hj.data.toList) := ⟨_, rfl⟩
                rw [← hs] at hZ
                have hok := Hok.out
                have hval := Hval.out
                simp only [reduceCtorEq, eq_self, and_self, true_and, and_true, false_and, and_false, or_true, true_or, or_false, false_or, or_self, if_true, if_false, ite_true, ite_false, Bool.true_and, Bool.and_true, ← hs] at hok hval
                clear hs Hok Hval
                have HZ := Lib.hid hZ; have Hok := Lib.hid hok; have Hval := Lib.hid hval; clear hZ hok hval
                go_wp2_with fail
                refine (HZ.out _ Hb6.out).mono ?_
                rintro e w7 ⟨rfl, hs⟩
                have hb7 := Hb6.out.trans (hs.mono Hb6.out.size)
                have ha := heap_below hs Ha.out
                clear Ha a0 a1 a2 a3
                obtain ⟨a0, a1, a2, a3⟩ := pair_cells ha
                have hb := heap_below hs Hb.out
                clear Hb b0 b1 b2 b3
                obtain ⟨b0, b1, b2, b3⟩ := pair_cells hb
                have hr := heap_below hs Hr.out
                clear Hr r0 r1 r2 r3
                obtain ⟨r0, r1, r2, r3⟩ := pair_cells hr
                have ho := heap_below hs Ho.out
                clear Ho o0 o1 o2 o3
                obtain ⟨o0, o1, o2, o3⟩ := pair_cells ho
                have Hs := Lib.hid hs; have Hb7 := Lib.hid hb7; have Ha := Lib.hid ha; have Hb := Lib.hid hb; have Hr := Lib.hid hr; have Ho := Lib.hid ho; clear hs hb7 ha hb hr ho
                cases s with
                | false =>
                  go_wp2_with fail
                  refine bodyPost_spn2 rfl rfl rfl (pair_set _ _ Hr.out) rfl ?_
                  exact ⟨ret_spn2 (by rw [Hval.out]; rfl) (by rw [Hval.out]; rfl) (by rw [Hok.out] <;> rfl), pair_bel _ _ (below_on Hw.out Hb7.out) Hle.out⟩
                | true =>
                  go_wp2_with fail
                  refine bodyPost_spn2 rfl rfl rfl (pair_set _ _ Hr.out) rfl ?_
                  exact ⟨ret_spn2 (by rw [Hval.out]; rfl) (by rw [Hval.out]; rfl) (by rw [Hok.out] <;> rfl), pair_bel _ _ (below_on Hw.out Hb7.out) Hle.out⟩
            | true =>
              go_upto_region 8 with (fail)
              obtain ⟨w5, hv⟩ : ∃ W, W = w4.setCell ⟨go, 1, none⟩ (.string hj) := ⟨_, rfl⟩
              have hb5 : Below w0.heap.size w0 w5 := by rw [hv]; exact Hb4.out.setCell (p := ⟨go, 1, none⟩) Hgeo.out _
              have ha : w5.heap[nb]? = some (.cells #[.string lo, .string hi] 34 (0, 0)) := by rw [hv, Below.heap_setCell _ _ _ _ Hneao.out]; exact Ha.out
              clear Ha a0 a1 a2 a3
              obtain ⟨a0, a1, a2, a3⟩ := pair_cells ha
              have hb : w5.heap[nb + 1]? = some (.cells #[.string lp, .string hj] 34 (0, 0)) := by rw [hv, Below.heap_setCell _ _ _ _ Hnebo.out]; exact Hb.out
              clear Hb b0 b1 b2 b3
              obtain ⟨b0, b1, b2, b3⟩ := pair_cells hb
              have hr : w5.heap[nb + 1 + 1]? = some (.cells #[.string ⟨#[]⟩, .string ⟨#[]⟩] 34 (0, 0)) := by rw [hv, Below.heap_setCell _ _ _ _ Hnero.out]; exact Hr.out
              clear Hr r0 r1 r2 r3
              obtain ⟨r0, r1, r2, r3⟩ := pair_cells hr
              have ho : w5.heap[go]? = some (.cells #[.string lp, .string hj] 34 (0, 0)) := by rw [hv]; exact heap_setCell_same _ go 1 _ _ _ Ho.out
              clear Ho o0 o1 o2 o3
              obtain ⟨o0, o1, o2, o3⟩ := pair_cells ho
              rw [← hv]
              clear hv
              have Hb5 := Lib.hid hb5; have Ha := Lib.hid ha; have Hb := Lib.hid hb; have Hr := Lib.hid hr; have Ho := Lib.hid ho; clear hb5 ha hb hr ho
              have hZ := HO.out lp hj hl2 hh2
              obtain ⟨s, hs⟩ : ∃ z, z = mayS (lp.data.toList, hj.data.toList) := ⟨_, rfl⟩
              rw [← hs] at hZ
              have hok := Hok.out
              have hval := Hval.out
              simp only [reduceCtorEq, eq_self, and_self, true_and, and_true, false_and, and_false, or_true, true_or, or_false, false_or, or_self, if_true, if_false, ite_true, ite_false, Bool.true_and, Bool.and_true, ← hs] at hok hval
              clear hs Hok Hval
              have HZ := Lib.hid hZ; have Hok := Lib.hid hok; have Hval := Lib.hid hval; clear hZ hok hval
              go_wp2_with fail
              refine (HZ.out _ Hb5.out).mono ?_
              rintro e w6 ⟨rfl, hs⟩
              have hb6 := Hb5.out.trans (hs.mono Hb5.out.size)
              have ha := heap_below hs Ha.out
              clear Ha a0 a1 a2 a3
              obtain ⟨a0, a1, a2, a3⟩ := pair_cells ha
              have hb := heap_below hs Hb.out
              clear Hb b0 b1 b2 b3
              obtain ⟨b0, b1, b2, b3⟩ := pair_cells hb
              have hr := heap_below hs Hr.out
              clear Hr r0 r1 r2 r3
              obtain ⟨r0, r1, r2, r3⟩ := pair_cells hr
              have ho := heap_below hs Ho.out
              clear Ho o0 o1 o2 o3
              obtain ⟨o0, o1, o2, o3⟩ := pair_cells ho
              have Hs := Lib.hid hs; have Hb6 := Lib.hid hb6; have Ha := Lib.hid ha; have Hb := Lib.hid hb; have Hr := Lib.hid hr; have Ho := Lib.hid ho; clear hs hb6 ha hb hr ho
              cases s with
              | false =>
                go_wp2_with fail
                refine bodyPost_spn2 rfl rfl rfl (pair_set _ _ Hr.out) rfl ?_
                exact ⟨ret_spn2 (by rw [Hval.out]; rfl) (by rw [Hval.out]; rfl) (by rw [Hok.out] <;> rfl), pair_bel _ _ (below_on Hw.out Hb6.out) Hle.out⟩
              | true =>
                go_wp2_with fail
                refine bodyPost_spn2 rfl rfl rfl (pair_set _ _ Hr.out) rfl ?_
                exact ⟨ret_spn2 (by rw [Hval.out]; rfl) (by rw [Hval.out]; rfl) (by rw [Hok.out] <;> rfl), pair_bel _ _ (below_on Hw.out Hb6.out) Hle.out⟩
          | true =>
            have hZ := HO.out lp hi hl2 hh
            obtain ⟨s, hs⟩ : ∃ z, z = mayS (lp.data.toList, hi.data.toList) := ⟨_, rfl⟩
            rw [← hs] at hZ
            have hok := Hok.out
            have hval := Hval.out
            simp only [reduceCtorEq, eq_self, and_self, true_and, and_true, false_and, and_false, or_true, true_or, or_false, false_or, or_self, if_true, if_false, ite_true, ite_false, Bool.true_and, Bool.and_true, ← hs] at hok hval
            clear hs Hok Hval
            have HZ := Lib.hid hZ; have Hok := Lib.hid hok; have Hval := Lib.hid hval; clear hZ hok hval
            go_wp2_with fail
            refine (HZ.out _ Hb4.out).mono ?_
            rintro e w5 ⟨rfl, hs⟩
            have hb5 := Hb4.out.trans (hs.mono Hb4.out.size)
            have ha := heap_below hs Ha.out
            clear Ha a0 a1 a2 a3
            obtain ⟨a0, a1, a2, a3⟩ := pair_cells ha
            have hb := heap_below hs Hb.out
            clear Hb b0 b1 b2 b3
            obtain ⟨b0, b1, b2, b3⟩ := pair_cells hb
            have hr := heap_below hs Hr.out
            clear Hr r0 r1 r2 r3
            obtain ⟨r0, r1, r2, r3⟩ := pair_cells hr
            have ho := heap_below hs Ho.out
            clear Ho o0 o1 o2 o3
            obtain ⟨o0, o1, o2, o3⟩ := pair_cells ho
            have Hs := Lib.hid hs; have Hb5 := Lib.hid hb5; have Ha := Lib.hid ha; have Hb := Lib.hid hb; have Hr := Lib.hid hr; have Ho := Lib.hid ho; clear hs hb5 ha hb hr ho
            cases s with
            | false =>
              go_wp2_with fail
              refine bodyPost_spn2 rfl rfl rfl (pair_set _ _ Hr.out) rfl ?_
              exact ⟨ret_spn2 (by rw [Hval.out]; rfl) (by rw [Hval.out]; rfl) (by rw [Hok.out] <;> rfl), pair_bel _ _ (below_on Hw.out Hb5.out) Hle.out⟩
            | true =>
              go_wp2_with fail
              refine bodyPost_spn2 rfl rfl rfl (pair_set _ _ Hr.out) rfl ?_
              exact ⟨ret_spn2 (by rw [Hval.out]; rfl) (by rw [Hval.out]; rfl) (by rw [Hok.out] <;> rfl), pair_bel _ _ (below_on Hw.out Hb5.out) Hle.out⟩
      | true =>
        cases d3 with
        | false =>
          cases d4 with
          | false =>
            go_wp2_with fail
            refine (HY.out _ Hb3.out).mono ?_
            rintro e w4 ⟨rfl, hs⟩
            have hb4 := Hb3.out.trans (hs.mono Hb3.out.size)
            have ha := heap_below hs Ha.out
            clear Ha a0 a1 a2 a3
            obtain ⟨a0, a1, a2, a3⟩ := pair_cells ha
            have hb := heap_below hs Hb.out
            clear Hb b0 b1 b2 b3
            obtain ⟨b0, b1, b2, b3⟩ := pair_cells hb
            have hr := heap_below hs Hr.out
            clear Hr r0 r1 r2 r3
            obtain ⟨r0, r1, r2, r3⟩ := pair_cells hr
            have ho := heap_below hs Ho.out
            clear Ho o0 o1 o2 o3
            obtain ⟨o0, o1, o2, o3⟩ := pair_cells ho
            have Hs := Lib.hid hs; have Hb4 := Lib.hid hb4; have Ha := Lib.hid ha; have Hb := Lib.hid hb; have Hr := Lib.hid hr; have Ho := Lib.hid ho; clear hs hb4 ha hb hr ho
            cases ry with
            | false =>
              have hZ := HO.out lo hi hl hh
              obtain ⟨s, hs⟩ : ∃ z, z = mayS (lo.data.toList, hi.data.toList) := ⟨_, rfl⟩
              rw [← hs] at hZ
              have hok := Hok.out
              have hval := Hval.out
              simp only [reduceCtorEq, eq_self, and_self, true_and, and_true, false_and, and_false, or_true, true_or, or_false, false_or, or_self, if_true, if_false, ite_true, ite_false, Bool.true_and, Bool.and_true, ← hs] at hok hval
              clear hs Hok Hval
              have HZ := Lib.hid hZ; have Hok := Lib.hid hok; have Hval := Lib.hid hval; clear hZ hok hval
              go_wp2_with fail
              refine (HZ.out _ Hb4.out).mono ?_
              rintro e w5 ⟨rfl, hs⟩
              have hb5 := Hb4.out.trans (hs.mono Hb4.out.size)
              have ha := heap_below hs Ha.out
              clear Ha a0 a1 a2 a3
              obtain ⟨a0, a1, a2, a3⟩ := pair_cells ha
              have hb := heap_below hs Hb.out
              clear Hb b0 b1 b2 b3
              obtain ⟨b0, b1, b2, b3⟩ := pair_cells hb
              have hr := heap_below hs Hr.out
              clear Hr r0 r1 r2 r3
              obtain ⟨r0, r1, r2, r3⟩ := pair_cells hr
              have ho := heap_below hs Ho.out
              clear Ho o0 o1 o2 o3
              obtain ⟨o0, o1, o2, o3⟩ := pair_cells ho
              have Hs := Lib.hid hs; have Hb5 := Lib.hid hb5; have Ha := Lib.hid ha; have Hb := Lib.hid hb; have Hr := Lib.hid hr; have Ho := Lib.hid ho; clear hs hb5 ha hb hr ho
              cases s with
              | false =>
                go_wp2_with fail
                refine bodyPost_spn2 rfl rfl rfl (pair_set _ _ Hr.out) rfl ?_
                exact ⟨ret_spn2 (by rw [Hval.out]; rfl) (by rw [Hval.out]; rfl) (by rw [Hok.out] <;> rfl), pair_bel _ _ (below_on Hw.out Hb5.out) Hle.out⟩
              | true =>
                go_wp2_with fail
                refine bodyPost_spn2 rfl rfl rfl (pair_set _ _ Hr.out) rfl ?_
                exact ⟨ret_spn2 (by rw [Hval.out]; rfl) (by rw [Hval.out]; rfl) (by rw [Hok.out] <;> rfl), pair_bel _ _ (below_on Hw.out Hb5.out) Hle.out⟩
            | true =>
              go_upto_region 8 with (fail)
              obtain ⟨w5, hv⟩ : ∃ W, W = w4.setCell ⟨go, 1, none⟩ (.string hj) := ⟨_, rfl⟩
              have hb5 : Below w0.heap.size w0 w5 := by rw [hv]; exact Hb4.out.setCell (p := ⟨go, 1, none⟩) Hgeo.out _
              have ha : w5.heap[nb]? = some (.cells #[.string lo, .string hi] 34 (0, 0)) := by rw [hv, Below.heap_setCell _ _ _ _ Hneao.out]; exact Ha.out
              clear Ha a0 a1 a2 a3
              obtain ⟨a0, a1, a2, a3⟩ := pair_cells ha
              have hb : w5.heap[nb + 1]? = some (.cells #[.string lp, .string hj] 34 (0, 0)) := by rw [hv, Below.heap_setCell _ _ _ _ Hnebo.out]; exact Hb.out
              clear Hb b0 b1 b2 b3
              obtain ⟨b0, b1, b2, b3⟩ := pair_cells hb
              have hr : w5.heap[nb + 1 + 1]? = some (.cells #[.string ⟨#[]⟩, .string ⟨#[]⟩] 34 (0, 0)) := by rw [hv, Below.heap_setCell _ _ _ _ Hnero.out]; exact Hr.out
              clear Hr r0 r1 r2 r3
              obtain ⟨r0, r1, r2, r3⟩ := pair_cells hr
              have ho : w5.heap[go]? = some (.cells #[.string lo, .string hj] 34 (0, 0)) := by rw [hv]; exact heap_setCell_same _ go 1 _ _ _ Ho.out
              clear Ho o0 o1 o2 o3
              obtain ⟨o0, o1, o2, o3⟩ := pair_cells ho
              rw [← hv]
              clear hv
              have Hb5 := Lib.hid hb5; have Ha := Lib.hid ha; have Hb := Lib.hid hb; have Hr := Lib.hid hr; have Ho := Lib.hid ho; clear hb5 ha hb hr ho
              have hZ := HO.out lo hj hl hh2
              obtain ⟨s, hs⟩ : ∃ z, z = mayS (lo.data.toList, hj.data.toList) := ⟨_, rfl⟩
              rw [← hs] at hZ
              have hok := Hok.out
              have hval := Hval.out
              simp only [reduceCtorEq, eq_self, and_self, true_and, and_true, false_and, and_false, or_true, true_or, or_false, false_or, or_self, if_true, if_false, ite_true, ite_false, Bool.true_and, Bool.and_true, ← hs] at hok hval
              clear hs Hok Hval
              have HZ := Lib.hid hZ; have Hok := Lib.hid hok; have Hval := Lib.hid hval; clear hZ hok hval
              go_wp2_with fail
              refine (HZ.out _ Hb5.out).mono ?_
              rintro e w6 ⟨rfl, hs⟩
              have hb6 := Hb5.out.trans (hs.mono Hb5.out.size)
              have ha := heap_below hs Ha.out
              clear Ha a0 a1 a2 a3
              obtain ⟨a0, a1, a2, a3⟩ := pair_cells ha
              have hb := heap_below hs Hb.out
              clear Hb b0 b1 b2 b3
              obtain ⟨b0, b1, b2, b3⟩ := pair_cells hb
              have hr := heap_below hs Hr.out
              clear Hr r0 r1 r2 r3
              obtain ⟨r0, r1, r2, r3⟩ := pair_cells hr
              have ho := heap_below hs Ho.out
              clear Ho o0 o1 o2 o3
              obtain ⟨o0, o1, o2, o3⟩ := pair_cells ho
              have Hs := Lib.hid hs; have Hb6 := Lib.hid hb6; have Ha := Lib.hid ha; have Hb := Lib.hid hb; have Hr := Lib.hid hr; have Ho := Lib.hid ho; clear hs hb6 ha hb hr ho
              cases s with
              | false =>
                go_wp2_with fail
                refine bodyPost_spn2 rfl rfl rfl (pair_set _ _ Hr.out) rfl ?_
                exact ⟨ret_spn2 (by rw [Hval.out]; rfl) (by rw [Hval.out]; rfl) (by rw [Hok.out] <;> rfl), pair_bel _ _ (below_on Hw.out Hb6.out) Hle.out⟩
              | true =>
                go_wp2_with fail
                refine bodyPost_spn2 rfl rfl rfl (pair_set _ _ Hr.out) rfl ?_
                exact ⟨ret_spn2 (by rw [Hval.out]; rfl) (by rw [Hval.out]; rfl) (by rw [Hok.out] <;> rfl), pair_bel _ _ (below_on Hw.out Hb6.out) Hle.out⟩
          | true =>
            go_upto_region 8 with (fail)
            obtain ⟨w4, hv⟩ : ∃ W, W = w3.setCell ⟨go, 1, none⟩ (.string hj) := ⟨_, rfl⟩
            have hb4 : Below w0.heap.size w0 w4 := by rw [hv]; exact Hb3.out.setCell (p := ⟨go, 1, none⟩) Hgeo.out _
            have ha : w4.heap[nb]? = some (.cells #[.string lo, .string hi] 34 (0, 0)) := by rw [hv, Below.heap_setCell _ _ _ _ Hneao.out]; exact Ha.out
            clear Ha a0 a1 a2 a3
            obtain ⟨a0, a1, a2, a3⟩ := pair_cells ha
            have hb : w4.heap[nb + 1]? = some (.cells #[.string lp, .string hj] 34 (0, 0)) := by rw [hv, Below.heap_setCell _ _ _ _ Hnebo.out]; exact Hb.out
            clear Hb b0 b1 b2 b3
            obtain ⟨b0, b1, b2, b3⟩ := pair_cells hb
            have hr : w4.heap[nb + 1 + 1]? = some (.cells #[.string ⟨#[]⟩, .string ⟨#[]⟩] 34 (0, 0)) := by rw [hv, Below.heap_setCell _ _ _ _ Hnero.out]; exact Hr.out
            clear Hr r0 r1 r2 r3
            obtain ⟨r0, r1, r2, r3⟩ := pair_cells hr
            have ho : w4.heap[go]? = some (.cells #[.string lo, .string hj] 34 (0, 0)) := by rw [hv]; exact heap_setCell_same _ go 1 _ _ _ Ho.out
            clear Ho o0 o1 o2 o3
            obtain ⟨o0, o1, o2, o3⟩ := pair_cells ho
            rw [← hv]
            clear hv
            have Hb4 := Lib.hid hb4; have Ha := Lib.hid ha; have Hb := Lib.hid hb; have Hr := Lib.hid hr; have Ho := Lib.hid ho; clear hb4 ha hb hr ho
            have hZ := HO.out lo hj hl hh2
            obtain ⟨s, hs⟩ : ∃ z, z = mayS (lo.data.toList, hj.data.toList) := ⟨_, rfl⟩
            rw [← hs] at hZ
            have hok := Hok.out
            have hval := Hval.out
            simp only [reduceCtorEq, eq_self, and_self, true_and, and_true, false_and, and_false, or_true, true_or, or_false, false_or, or_self, if_true, if_false, ite_true, ite_false, Bool.true_and, Bool.and_true, ← hs] at hok hval
            clear hs Hok Hval
            have HZ := Lib.hid hZ; have Hok := Lib.hid hok; have Hval := Lib.hid hval; clear hZ hok hval
            go_wp2_with fail
            refine (HZ.out _ Hb4.out).mono ?_
            rintro e w5 ⟨rfl, hs⟩
            have hb5 := Hb4.out.trans (hs.mono Hb4.out.size)
            have ha := heap_below hs Ha.out
            clear Ha a0 a1 a2 a3
            obtain ⟨a0, a1, a2, a3⟩ := pair_cells ha
            have hb := heap_below hs Hb.out
            clear Hb b0 b1 b2 b3
            obtain ⟨b0, b1, b2, b3⟩ := pair_cells hb
            have hr := heap_below hs Hr.out
            clear Hr r0 r1 r2 r3
            obtain ⟨r0, r1, r2, r3⟩ := pair_cells hr
            have ho := heap_below hs Ho.out
            clear Ho o0 o1 o2 o3
            obtain ⟨o0, o1, o2, o3⟩ := pair_cells ho
            have Hs := Lib.hid hs; have Hb5 := Lib.hid hb5; have Ha := Lib.hid ha; have Hb := Lib.hid hb; have Hr := Lib.hid hr; have Ho := Lib.hid ho; clear hs hb5 ha hb hr ho
            cases s with
            | false =>
              go_wp2_with fail
              refine bodyPost_spn2 rfl rfl rfl (pair_set _ _ Hr.out) rfl ?_
              exact ⟨ret_spn2 (by rw [Hval.out]; rfl) (by rw [Hval.out]; rfl) (by rw [Hok.out] <;> rfl), pair_bel _ _ (below_on Hw.out Hb5.out) Hle.out⟩
            | true =>
              go_wp2_with fail
              refine bodyPost_spn2 rfl rfl rfl (pair_set _ _ Hr.out) rfl ?_
              exact ⟨ret_spn2 (by rw [Hval.out]; rfl) (by rw [Hval.out]; rfl) (by rw [Hok.out] <;> rfl), pair_bel _ _ (below_on Hw.out Hb5.out) Hle.out⟩
        | true =>
          have hZ := HO.out lo hi hl hh
          obtain ⟨s, hs⟩ : ∃ z, z = mayS (lo.data.toList, hi.data.toList) := ⟨_, rfl⟩
          rw [← hs] at hZ
          have hok := Hok.out
          have hval := Hval.out
          simp only [reduceCtorEq, eq_self, and_self, true_and, and_true, false_and, and_false, or_true, true_or, or_false, false_or, or_self, if_true, if_false, ite_true, ite_false, Bool.true_and, Bool.and_true, ← hs] at hok hval
          clear hs Hok Hval
          have HZ := Lib.hid hZ; have Hok := Lib.hid hok; have Hval := Lib.hid hval; clear hZ hok hval
          go_wp2_with fail
          refine (HZ.out _ Hb3.out).mono ?_
          rintro e w4 ⟨rfl, hs⟩
          have hb4 := Hb3.out.trans (hs.mono Hb3.out.size)
          have ha := heap_below hs Ha.out
          clear Ha a0 a1 a2 a3
          obtain ⟨a0, a1, a2, a3⟩ := pair_cells ha
          have hb := heap_below hs Hb.out
          clear Hb b0 b1 b2 b3
          obtain ⟨b0, b1, b2, b3⟩ := pair_cells hb
          have hr := heap_below hs Hr.out
          clear Hr r0 r1 r2 r3
          obtain ⟨r0, r1, r2, r3⟩ := pair_cells hr
          have ho := heap_below hs Ho.out
          clear Ho o0 o1 o2 o3
          obtain ⟨o0, o1, o2, o3⟩ := pair_cells ho
          have Hs := Lib.hid hs; have Hb4 := Lib.hid hb4; have Ha := Lib.hid ha; have Hb := Lib.hid hb; have Hr := Lib.hid hr; have Ho := Lib.hid ho; clear hs hb4 ha hb hr ho
          cases s with
          | false =>
            go_wp2_with fail
            refine bodyPost_spn2 rfl rfl rfl (pair_set _ _ Hr.out) rfl ?_
            exact ⟨ret_spn2 (by rw [Hval.out]; rfl) (by rw [Hval.out]; rfl) (by rw [Hok.out] <;> rfl), pair_bel _ _ (below_on Hw.out Hb4.out) Hle.out⟩
          | true =>
            go_wp2_with fail
            refine bodyPost_spn2 rfl rfl rfl (pair_set _ _ Hr.out) rfl ?_
            exact ⟨ret_spn2 (by rw [Hval.out]; rfl) (by rw [Hval.out]; rfl) (by rw [Hok.out] <;> rfl), pair_bel _ _ (below_on Hw.out Hb4.out) Hle.out⟩
end Go.Proofs.YteailgjiifdgcaaGreatDoor

/- The walk of the document's Read of spans. Condition: a text of at most a hundred thousand bytes. -/
namespace Go.Proofs.YteailgjiifdgcaaGreatDoor
open Go.RowKit Go.Lib VerN

/-- the span of a text as the document reads it, and whether -/
def rfB (s : ByteArray) : ByteArray × ByteArray := if (cutS 58 s).length = 1 then (s, s) else ((cutS 58 s).getD 0 noTxt, (cutS 58 s).getD 1 noTxt)
def rfOk (s : ByteArray) : Bool := if 2 < (cutS 58 s).length then false else spRefOk s.data.toList
theorem rfB_data (s : ByteArray) : ((rfB s).1.data.toList, (rfB s).2.data.toList) = spRefO s.data.toList := by
  unfold rfB spRefO
  rw [cutS_len]
  split
  · rfl
  · exact Prod.ext (getD_data 58 s 0) (getD_data 58 s 1)
/-- what it hands back: whatever at a text that tells of no span -/
def refReadPost (s : ByteArray) (w : World) (e : Ending) (w' : World) : Prop :=
  ∃ x y, e = .returned (.tuple #[.agg #[.string x, .string y], .bool (rfOk s)]) ∧ (rfOk s = true → (x, y) = rfB s) ∧ Below w.heap.size w w'
set_option maxRecDepth 10000 in
set_option maxHeartbeats 4000000 in
theorem refRead_any (s : ByteArray) (hs : s.size ≤ 100000) (w : World) : Calls Tryz.prog 55 #[.string s] w (refReadPost s w) := by
  unfold refReadPost
  obtain ⟨w0, hW0⟩ : ∃ W0, W0 = w.alloc (.cells #[.string ⟨#[]⟩, .string ⟨#[]⟩] 34) := ⟨_, rfl⟩
  obtain ⟨nb, hnb⟩ : ∃ nb, nb = w.heap.size := ⟨_, rfl⟩
  have hw : Below w.heap.size w w0 := by rw [hW0]; exact below_alloc1 _ _
  have hr : w0.heap[nb]? = some (.cells #[.string ⟨#[]⟩, .string ⟨#[]⟩] 34 (0, 0)) := by rw [hW0, hnb]; exact pbox1_0 _ _ _
  have hle : w.heap.size ≤ nb := by omega
  have hC := cut1_any s (by omega) 58 (by omega) w0
  rw [show UInt8.ofNat 58 = (58 : UInt8) from rfl] at hC
  obtain ⟨ps, hps⟩ : ∃ ps, ps = cutS 58 s := ⟨_, rfl⟩
  rw [← hps] at hC
  have hpz : ∀ i, (ps.getD i noTxt).size ≤ 100000 := fun i => by
    by_cases h : i < ps.length
    · rw [List.getD, List.getElem?_eq_getElem h]
      have := cutS_piece (c := 58) (s := s) (by rw [← hps]; exact List.getElem_mem h)
      show ps[i].size ≤ 100000
      omega
    · rw [List.getD, List.getElem?_eq_none (by omega)]; decide
  have hp1 : 1 ≤ ps.length ∧ ps.length ≤ 1000000 := by
    have := cutL_len 58 s.data.toList
    rw [hps, cutS_len, ← Txt.len] at *
    omega
  have HC := Lib.hid hC; have Hw := Lib.hid hw; have Hr := Lib.hid hr; have Hps := Lib.hid hps; have Hpz := Lib.hid hpz; have Hp1 := Lib.hid hp1; have Hle := Lib.hid hle; clear hC hw hr hps hpz hp1 hle
  go_enter Tryz.func55, Tryz.ntmps55
  go_upto_region 1 with (fail)
  rw [← hW0, ← hnb]
  clear hW0 hnb
  go_wp2_with fail
  refine HC.out.mono ?_
  rintro e w1 ⟨v, rfl, hown, hb1⟩
  obtain ⟨a, cap, rfl⟩ := own_shape hown
  obtain ⟨n, hn⟩ : ∃ n, n = ps.length := ⟨_, rfl⟩
  rw [← hn] at hown ⊢
  have hn1 : 1 ≤ n ∧ n ≤ 1000000 := by rw [hn]; exact Hp1.out
  have Hown := Lib.hid hown; have Hb1 := Lib.hid hb1; have Hn := Lib.hid hn; clear hown hb1 hn
  go_upto_region 3 with (fail)
  obtain ⟨w2, hv⟩ : ∃ W, W = w1.alloc (.cells #[.string ⟨#[]⟩, .string ⟨#[]⟩] 34) := ⟨_, rfl⟩
  obtain ⟨g, hg⟩ : ∃ g, g = w1.heap.size := ⟨_, rfl⟩
  have hs2 : Below w1.heap.size w1 w2 := by rw [hv]; exact below_alloc1 _ _
  have hb2 := Hb1.out.trans (hs2.mono Hb1.out.size)
  have ho : w2.heap[g]? = some (.cells #[.string ⟨#[]⟩, .string ⟨#[]⟩] 34 (0, 0)) := by rw [hv, hg]; exact heap_alloc_new _ _
  have hr2 := heap_below hb2 Hr.out
  have hown2 := ownsRow_below Hown.out hs2
  rw [← hv, ← hg]
  clear hv hg
  obtain ⟨o0, o1, o2, o3⟩ := pair_cells ho
  obtain ⟨r0, r1, r2, r3⟩ := pair_cells hr2
  have Hs2 := Lib.hid hs2; have Hb2 := Lib.hid hb2; have Ho := Lib.hid ho; have Hr2 := Lib.hid hr2; have Hown2 := Lib.hid hown2; clear hs2 hb2 ho hr2 hown2
  by_cases h2 : 2 < n
  · have k1 : decide ((2 : Int) < (n : Int)) = true := by simp; omega
    have hok : rfOk s = false := by unfold rfOk; rw [← Hps.out, ← Hn.out, if_pos h2]
    have Hok := Lib.hid hok; clear hok
    go_wp2_with fail
    refine bodyPost_spn2 rfl rfl rfl (pair_set _ _ Hr2.out) rfl ?_
    exact ⟨_, _, ret_spn2 rfl rfl Hok.out.symm, (fun h => by rw [Hok.out] at h; cases h), pair_bel _ _ (below_on Hw.out Hb2.out) Hle.out⟩
  · have k1 : decide ((2 : Int) < (n : Int)) = false := by simp; omega
    by_cases h1 : n = 1
    · subst h1
      have hok : rfOk s = mayL s.data.toList := by
        unfold rfOk spRefOk
        rw [← cutS_len, ← Hps.out, ← Hn.out]
        rfl
      have hB : rfB s = (s, s) := by unfold rfB; rw [← Hps.out, ← Hn.out]; rfl
      have hM := may1_any s (by omega) w2
      obtain ⟨p, hp⟩ : ∃ x, x = mayL s.data.toList := ⟨_, rfl⟩
      rw [← hp] at hok hM
      clear hp
      have Hok := Lib.hid hok; have HB := Lib.hid hB; have HM := Lib.hid hM; clear hok hB hM
      go_wp2_with fail
      refine HM.out.mono ?_
      rintro e w3 ⟨rfl, hs3⟩
      have hb3 := Hb2.out.trans (hs3.mono Hb2.out.size)
      have hr3 := heap_below hs3 Hr2.out
      obtain ⟨r0, r1, r2, r3⟩ := pair_cells hr3
      have Hs3 := Lib.hid hs3; have Hb3 := Lib.hid hb3; have Hr3 := Lib.hid hr3; clear hs3 hb3 hr3
      go_wp2_with fail
      refine bodyPost_spn2 rfl rfl rfl (pair_set _ _ Hr3.out) rfl ?_
      exact ⟨_, _, ret_spn2 rfl rfl Hok.out.symm, fun _ => HB.out.symm, pair_bel _ _ (below_on Hw.out Hb3.out) Hle.out⟩
    · obtain rfl : n = 2 := by omega
      have hlen : ps.length = 2 := Hn.out.symm
      obtain ⟨b0, cap0, hsh, c0⟩ := texts_cell Hown2.out 0 (by omega)
      obtain ⟨b1, cap1, hsh1, c1⟩ := texts_cell Hown2.out 1 (by omega)
      simp only [Value.slice.injEq] at hsh hsh1
      obtain ⟨rfl, -, rfl⟩ := hsh
      obtain ⟨hbb, -, rfl⟩ := hsh1
      simp only [Option.some.injEq, Addr.mk.injEq, and_true] at hbb
      subst hbb
      obtain ⟨x, hx⟩ : ∃ x, x = ps.getD 0 noTxt := ⟨_, rfl⟩
      obtain ⟨y, hy⟩ : ∃ x, x = ps.getD 1 noTxt := ⟨_, rfl⟩
      have zx := Hpz.out 0
      have zy := Hpz.out 1
      rw [← hx] at zx
      rw [← hy] at zy
      rw [show ps[0]'(by omega) = x by rw [hx, List.getD, List.getElem?_eq_getElem (by omega)]; rfl] at c0
      rw [show ps[1]'(by omega) = y by rw [hy, List.getD, List.getElem?_eq_getElem (by omega)]; rfl] at c1
      have hB : rfB s = (x, y) := by unfold rfB; rw [← Hps.out, if_neg (by omega), ← hx, ← hy]
      have hok : rfOk s = (mayS (x.data.toList, y.data.toList) && decide (txR x y = s)) := by
        unfold rfOk spRefOk
        rw [← cutS_len, ← Hps.out, if_neg (by omega), if_neg (by omega), ← rfB_data, hB, ← txR_data]
        exact congrArg _ (decide_eq_decide.2 ba_eq.symm)
      clear hx hy hlen
      have HB := Lib.hid hB; have Hok := Lib.hid hok; clear hB hok
      go_upto_region 7 with (fail)
      go_cut [6] (fun v W => CutBox w2 x y v W)
      case first =>
        have hcz : (w2.drewN 1).cell? ⟨b0, 0, none⟩ = some (.string x) ∧ (w2.drewN 1).cell? ⟨b0, 1, none⟩ = some (.string y) := ⟨c0, c1⟩
        have hcf : ∀ W, Below w2.heap.size w2 W → W.cell? ⟨b0, 0, none⟩ = some (.string x) ∧ W.cell? ⟨b0, 1, none⟩ = some (.string y) := fun W k => ⟨cell_later k c0, cell_later k c1⟩
        have hbz := bel_drewN (Below.refl w2.heap.size w2) 1
        have Hcz := Lib.hid hcf
        clear hcf
        go_region_held3 (fun w' => w'.cell? ⟨b0, 0, none⟩ = some (.string x) ∧ w'.cell? ⟨b0, 1, none⟩ = some (.string y)) (first | exact hcz | exact Hcz.out _ (hbz.alloc hbz.size _) | exact Hcz.out _ (pair_bel _ _ hbz hbz.size) | go_keep) (fail)
        all_goals
          go_wp2_with fail
          go_meet
          exact ⟨_, rfl, heap_alloc_new _ _, hbz.alloc hbz.size _⟩
      case rest =>
        obtain ⟨gz, rfl, hz, hs3⟩ := hcut
        have hb3 := Hb2.out.trans (hs3.mono Hb2.out.size)
        have hr3 := heap_below hs3 Hr2.out
        clear o0 o1 o2 o3 r0 r1 r2 r3 c0 c1
        obtain ⟨z0, z1, z2, z3⟩ := pair_cells hz
        obtain ⟨r0, r1, r2, r3⟩ := pair_cells hr3
        have hP := fun (W : World) (_ : Below wc.heap.size wc W) => refMay2_any x y (by omega) (by omega) W
        have hT := fun (W : World) (_ : Below wc.heap.size wc W) => refText_any x y (by omega) (by omega) W
        have hcf : ∀ W, Below wc.heap.size wc W → (W.cell? ⟨gz, 0, none⟩ = some (.string x) ∧ W.cell? ⟨gz, 1, none⟩ = some (.string y)) ∧ W.cell? ⟨nb, 0, none⟩ = some (.string ⟨#[]⟩) ∧ W.cell? ⟨nb, 1, none⟩ = some (.string ⟨#[]⟩) ∧ W.frozen? ⟨nb, 0, none⟩ = false ∧ W.frozen? ⟨nb, 1, none⟩ = false := fun W k => ⟨⟨(pair_cells (heap_below k hz)).1, (pair_cells (heap_below k hz)).2.1⟩, pair_cells (heap_below k hr3)⟩
        obtain ⟨p, hp⟩ : ∃ q, q = mayS (x.data.toList, y.data.toList) := ⟨_, rfl⟩
        obtain ⟨tx, htx⟩ : ∃ q, q = txR x y := ⟨_, rfl⟩
        obtain ⟨d, k3⟩ : ∃ q, (tx.toList == s.toList) = q := ⟨_, rfl⟩
        have hok2 : rfOk s = (p && d) := by rw [Hok.out, ← hp, ← htx, ← k3, Txt.eq_dec]
        rw [← hp] at hP
        rw [← htx] at hT
        have hbz := bel_drewN (Below.refl wc.heap.size wc) 1
        have hcz := hcf _ hbz
        clear hp htx Hok
        have Hb3 := Lib.hid hb3; have Hs3 := Lib.hid hs3; have Hr3 := Lib.hid hr3; have Hz := Lib.hid hz; have HP := Lib.hid hP; have HT := Lib.hid hT; have Hok2 := Lib.hid hok2; clear hb3 hs3 hr3 hz hP hT hok2
        have Hcz := Lib.hid hcf
        clear hcf
        cases p with
        | false =>
          go_wp2_with fail
          first
            | go_region_with (go_at_call 59; refine (HP.out _ (by exact hbz)).mono ?_; rintro e wz ⟨rfl, hsz⟩; replace hbz := hbz.trans (hsz.mono hbz.size); obtain ⟨⟨q0, q1⟩, q2, q3, q4, q5⟩ := Hcz.out _ hbz; replace hcz := Hcz.out _ hbz)
            | fail "the region"
          all_goals
            have hr9 := heap_below hbz Hr3.out
            have hb9 := Hb3.out.trans (hbz.mono Hb3.out.size)
            have Hr9 := Lib.hid hr9; have Hb9 := Lib.hid hb9; clear hr9 hb9
            go_wp2_with fail
            refine bodyPost_spn2 rfl rfl rfl (pair_set _ _ Hr9.out) rfl ?_
            exact ⟨_, _, ret_spn2 rfl rfl (by rw [Hok2.out] <;> rfl), (fun _ => HB.out.symm), pair_bel _ _ (below_on Hw.out Hb9.out) Hle.out⟩
        | true =>
          cases d with
          | false =>
            go_wp2_with fail
            first
              | go_region_with (first | (go_at_call 59; refine (HP.out _ (by exact hbz)).mono ?_; rintro e wz ⟨rfl, hsz⟩; replace hbz := hbz.trans (hsz.mono hbz.size); obtain ⟨⟨q0, q1⟩, q2, q3, q4, q5⟩ := Hcz.out _ hbz; replace hcz := Hcz.out _ hbz) | (go_at_call 114; refine (HT.out _ (by exact hbz)).mono ?_; rintro e wz ⟨rfl, hsz⟩; replace hbz := hbz.trans (hsz.mono hbz.size); obtain ⟨⟨q0, q1⟩, q2, q3, q4, q5⟩ := Hcz.out _ hbz; replace hcz := Hcz.out _ hbz))
              | fail "the region"
            all_goals
              have hr9 := heap_below hbz Hr3.out
              have hb9 := Hb3.out.trans (hbz.mono Hb3.out.size)
              have Hr9 := Lib.hid hr9; have Hb9 := Lib.hid hb9; clear hr9 hb9
              go_wp2_with fail
              refine bodyPost_spn2 rfl rfl rfl (pair_set _ _ Hr9.out) rfl ?_
              exact ⟨_, _, ret_spn2 rfl rfl (by rw [Hok2.out] <;> rfl), (fun _ => HB.out.symm), pair_bel _ _ (below_on Hw.out Hb9.out) Hle.out⟩
          | true =>
            go_wp2_with fail
            first
              | go_region_with (first | (go_at_call 59; refine (HP.out _ (by exact hbz)).mono ?_; rintro e wz ⟨rfl, hsz⟩; replace hbz := hbz.trans (hsz.mono hbz.size); obtain ⟨⟨q0, q1⟩, q2, q3, q4, q5⟩ := Hcz.out _ hbz; replace hcz := Hcz.out _ hbz) | (go_at_call 114; refine (HT.out _ (by exact hbz)).mono ?_; rintro e wz ⟨rfl, hsz⟩; replace hbz := hbz.trans (hsz.mono hbz.size); obtain ⟨⟨q0, q1⟩, q2, q3, q4, q5⟩ := Hcz.out _ hbz; replace hcz := Hcz.out _ hbz))
              | fail "the region"
            all_goals
              have hr9 := heap_below hbz Hr3.out
              have hb9 := Hb3.out.trans (hbz.mono Hb3.out.size)
              have Hr9 := Lib.hid hr9; have Hb9 := Lib.hid hb9; clear hr9 hb9
              go_wp2_with fail
              refine bodyPost_spn2 rfl rfl rfl (pair_set _ _ Hr9.out) rfl ?_
              exact ⟨_, _, ret_spn2 rfl rfl (by rw [Hok2.out] <;> rfl), (fun _ => HB.out.symm), pair_bel _ _ (below_on Hw.out Hb9.out) Hle.out⟩
end Go.Proofs.YteailgjiifdgcaaGreatDoor

/- Plain facts: which texts are sets of spans, by the program's way and by the document's. No condition. -/
namespace Go.Proofs.YteailgjiifdgcaaGreatDoor
open Go.Lib VerN

theorem part_comma {p : List UInt8} (h : partL p = true) : (44 : UInt8) ∉ p := by
  intro hx
  unfold partL at h
  rcases Bool.or_eq_true _ _ ▸ h with h | h
  · unfold letOk at h
    simp only [Bool.and_eq_true, List.all_eq_true] at h
    have := (isLet_iff _).1 (h.2 44 hx)
    simp at this
  · unfold digOk at h
    simp only [Bool.and_eq_true, List.all_eq_true] at h
    have := (isDig_iff _).1 (h.1.1.2 44 hx)
    simp at this
theorem may_comma {l : List UInt8} (h : mayL l = true) : (44 : UInt8) ∉ l := by
  intro hx
  have hg := glue_cut 46 l []
  rw [List.nil_append] at hg
  rw [← hg] at hx
  rcases glue_mem _ _ _ hx with e | ⟨p, hp, hx⟩
  · exact absurd e (by decide)
  · exact part_comma (((may_iff l).1 h).2.2.1 p hp) hx
theorem bound_comma {l : List UInt8} (h : boundB l = true) : (44 : UInt8) ∉ l := by
  rcases bound_iff.1 h with h | h
  · rw [h]; simp
  · exact may_comma h
theorem piece_comma {s : BSp} (h : mayS (dS s) = true) : (44 : UInt8) ∉ (pieceB s).data.toList := by
  have e : (pieceB s).data.toList = textS (dS s) := txS_data _ _
  have h1 := mayS_iff.1 h
  rw [e, textS_of h]
  unfold textR
  split
  · exact bound_comma h1.1
  · intro k
    rcases List.mem_append.1 k with k | k
    · exact bound_comma h1.1 k
    · rcases List.mem_cons.1 k with k | k
      · exact absurd k (by decide)
      · exact bound_comma h1.2.1 k
theorem cut_tail : ∀ (r : List (List UInt8)) (x : List UInt8), (44 : UInt8) ∉ x → (∀ p ∈ r, (44 : UInt8) ∉ p) → cutL 44 (x ++ Lib.joinTail [44] r) = x :: r
  | [], x, hx, _ => by
    have : Lib.joinTail [44] [] = [] := rfl
    rw [this, List.append_nil]
    exact cutF_none 44 x [] (fun y hy e => hx (e ▸ hy))
  | y :: r, x, hx, hr => by
    have : Lib.joinTail [44] (y :: r) = 44 :: (y ++ Lib.joinTail [44] r) := by simp [Lib.joinTail]
    rw [this, cutL_join, cut_tail r y (hr y (by simp)) fun p hp => hr p (by simp [hp])]
    have : cutL 44 x = [x] := cutF_none 44 x [] (fun y hy e => hx (e ▸ hy))
    rw [this]; rfl
theorem cut_joined {L : List (List UInt8)} (h0 : L ≠ []) (h : ∀ p ∈ L, (44 : UInt8) ∉ p) : cutL 44 (Lib.join L [44]) = L := by
  cases L with
  | nil => exact absurd rfl h0
  | cons x r => rw [Lib.join_cons, cut_tail r x (h x (by simp)) fun p hp => h p (by simp [hp])]
/-- the document's text of a form -/
def refTx (F : List BSp) : ByteArray := if F.length = 0 then ⟨#[33]⟩ else joinF F
theorem formOk_iff {l : List Tp} : formOk l = true ↔ allMay (tB l) = true ∧ (formB l).length ≤ 16 := by unfold formOk; simp
theorem joined_len {l : List Tp} {t : ByteArray} (hf : formOk l = true) (h0 : (formB l).length ≠ 0) (h : joinF (formB l) = t) : (cutS 44 t).length = (formB l).length := by
  have hs := (form_sep (formOk_iff.1 hf).1).1.1
  rw [cutS_len, ← h]
  show (cutL 44 (Lib.join (((formB l).map pieceB).map (·.data.toList)) [44])).length = _
  rw [cut_joined]
  · simp
  · intro e
    have := congrArg List.length e
    simp at this
    exact h0 (by rw [this]; rfl)
  · intro p hp
    obtain ⟨y, hy, rfl⟩ := List.mem_map.1 hp
    obtain ⟨z, hz, rfl⟩ := List.mem_map.1 hy
    exact piece_comma (hs _ (List.mem_map.2 ⟨z, hz, rfl⟩))
/-- both ways of reading tell the same of a text -/
theorem reads_one {t : ByteArray} {l : List Tp} (h0 : t ≠ ⟨#[33]⟩) (hok : ∀ p ∈ cutS 44 t, spOk p.data.toList = true) : spsText l = t ↔ ((cutS 44 t).length ≤ 40 ∧ formOk l = true ∧ refTx (formB l) = t) := by
  constructor
  · intro h
    unfold spsText at h
    split at h
    · exfalso
      subst h
      have := hok ⟨#[]⟩ (by rw [show cutS 44 ⟨#[]⟩ = [⟨#[]⟩] from rfl]; exact List.mem_singleton.2 rfl)
      revert this
      decide
    · rename_i hf
      have hf : formOk l = true := by simpa using hf
      split at h
      · exact absurd h.symm h0
      · rename_i hn
        refine ⟨?_, hf, by unfold refTx; rw [if_neg hn]; exact h⟩
        rw [joined_len hf hn h]
        have := (formOk_iff.1 hf).2
        omega
  · rintro ⟨_, hf, h⟩
    unfold refTx at h
    split at h
    · exact absurd h.symm h0
    · rename_i hn
      unfold spsText
      rw [if_neg (by rw [hf]; simp), if_neg hn]
      exact h
end Go.Proofs.YteailgjiifdgcaaGreatDoor

/- Plain facts: what two sets of spans have in common, pair by pair; how many pairs meet. No condition. -/
namespace Go.Proofs.YteailgjiifdgcaaGreatDoor.VerN
open Go.Lib

theorem later_nil {a b : List UInt8} : laterB a b = [] ↔ a = [] ∧ b = [] := by
  unfold laterB
  by_cases h : a = []
  · simp [h]
  · by_cases k : aheadB a b = true
    · rw [if_pos (.inr k)]
      have := (ahead_yes.1 k).2.1
      simp [h, this]
    · rw [if_neg (by rintro (e | e); exact h e; exact k e)]
      simp [h]
theorem gap_sooner {a b p : List UInt8} : (soonerB a b = [] ∨ ¬ le (soonerB a b) p) ↔ (a = [] ∨ ¬ le a p) ∧ (b = [] ∨ ¬ le b p) := by
  by_cases ha : a = []
  · have : soonerB a b = b := by unfold soonerB; rw [if_pos (.inl ha)]
    rw [this]; simp [ha]
  · by_cases hb : b = []
    · have : soonerB a b = a := by
        unfold soonerB
        rw [if_neg]
        rintro (e | e)
        · exact ha e
        · exact (ahead_yes.1 e).1 hb
      rw [this]; simp [hb]
    · have e := sooner_or ha hb p
      have n := (sooner_le ha hb).2.2
      simp only [ha, hb, n, false_or, e, not_or]
theorem meet_cov (a b : Sp) (x : Pt) : covS (meetO a b) x ↔ covS a x ∧ covS b x := by
  match x with
  | none => exact later_nil
  | some (false, p) =>
    show lower (laterB a.1 b.1) p ∧ upper (soonerB a.2 b.2) p ↔ (lower _ p ∧ upper _ p) ∧ (lower _ p ∧ upper _ p)
    rw [lower_later, upper_sooner]
    constructor
    · rintro ⟨⟨h1, h2⟩, h3, h4⟩; exact ⟨⟨h1, h3⟩, h2, h4⟩
    · rintro ⟨⟨h1, h3⟩, h2, h4⟩; exact ⟨⟨h1, h2⟩, h3, h4⟩
  | some (true, p) =>
    show lower (laterB a.1 b.1) p ∧ (soonerB a.2 b.2 = [] ∨ ¬ le (soonerB a.2 b.2) p) ↔ (lower _ p ∧ (_ ∨ _)) ∧ (lower _ p ∧ (_ ∨ _))
    rw [lower_later, gap_sooner]
    constructor
    · rintro ⟨⟨h1, h2⟩, h3, h4⟩; exact ⟨⟨h1, h3⟩, h2, h4⟩
    · rintro ⟨⟨h1, h3⟩, h2, h4⟩; exact ⟨⟨h1, h2⟩, h3, h4⟩
/-- what two rows have in common, pair by pair -/
def pairsS (F G : List Sp) : List Sp := F.flatMap fun a => (G.filter fun b => meetOk a b).map fun b => meetO a b
theorem pairs_may {F G : List Sp} : ∀ s ∈ pairsS F G, mayS s = true := by
  intro s hs
  obtain ⟨a, _, hs⟩ := List.mem_flatMap.1 hs
  obtain ⟨b, hb, rfl⟩ := List.mem_map.1 hs
  have := (List.mem_filter.1 hb).2
  unfold meetOk at this
  simp only [Bool.and_eq_true] at this
  exact this.2
theorem pairs_cov {F G : List Sp} (hF : ∀ s ∈ F, mayS s = true) (hG : ∀ s ∈ G, mayS s = true) (x : Pt) : cov (pairsS F G) x ↔ cov F x ∧ cov G x := by
  constructor
  · rintro ⟨s, hs, hc⟩
    obtain ⟨a, ha, hs⟩ := List.mem_flatMap.1 hs
    obtain ⟨b, hb, rfl⟩ := List.mem_map.1 hs
    obtain ⟨h1, h2⟩ := (meet_cov a b x).1 hc
    exact ⟨⟨a, ha, h1⟩, b, (List.mem_filter.1 hb).1, h2⟩
  · rintro ⟨⟨a, ha, h1⟩, b, hb, h2⟩
    have hm : meetOk a b = true := (meet_iff (hF a ha) (hG b hb)).2 ⟨fun h => bef_apart h x h1 h2, fun h => bef_apart h x h2 h1⟩
    exact ⟨meetO a b, List.mem_flatMap.2 ⟨a, ha, List.mem_map.2 ⟨b, List.mem_filter.2 ⟨hb, hm⟩, rfl⟩⟩, (meet_cov a b x).2 ⟨h1, h2⟩⟩
def nPairs (F G : List Sp) : Nat := (F.map fun a => G.countP fun b => meetOk a b).sum
theorem pairs_len (F G : List Sp) : (pairsS F G).length = nPairs F G := by
  unfold pairsS nPairs
  rw [List.length_flatMap]
  congr 1
  apply List.map_congr_left
  intro a _
  rw [List.length_map, List.countP_eq_length_filter]
theorem cross_pairs {a b x y : Sp} (ha : mayS a = true) (hb : mayS b = true) (hx : mayS x = true) (hy : mayS y = true) (h1 : bef a x) (h2 : bef b y) (h3 : meetOk x b = true) (h4 : meetOk a y = true) : False := by
  have k3 := ((meet_iff hx hb).1 h3).2
  have k4 := ((meet_iff ha hy).1 h4).1
  have e3 : le x.1 b.2 := Classical.not_not.1 fun k => k3 ⟨h2.1, h1.2.1, k⟩
  have e4 : le y.1 a.2 := Classical.not_not.1 fun k => k4 ⟨h1.1, h2.2.1, k⟩
  exact h1.2.2 (le_trans (le_trans e3 (not_le_le h2.2.2)) e4)
theorem nPairs_le : ∀ (n : Nat) (F G : List Sp), F.length + G.length ≤ n → Sep F → Sep G → nPairs F G ≤ F.length + G.length
  | _, [], _, _, _, _ => by simp [nPairs]
  | _, a :: F, [], _, _, _ => by
    have : ∀ F : List Sp, nPairs F [] = 0 := by
      intro F
      unfold nPairs
      induction F with
      | nil => rfl
      | cons x r ih => simpa using ih
    rw [this]; omega
  | 0, a :: F, b :: G, h, _, _ => by simp at h
  | n + 1, a :: F, b :: G, h, hF, hG => by
    simp only [List.length_cons] at h ⊢
    by_cases hx : ∃ x ∈ F, meetOk x b = true
    · obtain ⟨x, hx, hm⟩ := hx
      have h0 : G.countP (fun y => meetOk a y) = 0 := by
        rw [List.countP_eq_zero]
        intro y hy hk
        exact cross_pairs (hF.1 a (by simp)) (hG.1 b (by simp)) (hF.1 x (by simp [hx])) (hG.1 y (by simp [hy])) ((List.pairwise_cons.1 hF.2).1 x hx) ((List.pairwise_cons.1 hG.2).1 y hy) hm hk
      have ih := nPairs_le n F (b :: G) (by simp; omega) hF.tail hG
      have e : nPairs (a :: F) (b :: G) = (b :: G).countP (fun y => meetOk a y) + nPairs F (b :: G) := by simp [nPairs]
      rw [e, List.countP_cons, h0]
      simp only [List.length_cons] at ih
      split <;> omega
    · have ih := nPairs_le n (a :: F) G (by simp; omega) hF hG.tail
      have e1 : nPairs F (b :: G) = nPairs F G := by
        unfold nPairs
        congr 1
        apply List.map_congr_left
        intro x hx'
        rw [List.countP_cons, if_neg (fun k => hx ⟨x, hx', k⟩)]
        rfl
      have e : nPairs (a :: F) (b :: G) = (b :: G).countP (fun y => meetOk a y) + nPairs F (b :: G) := by simp [nPairs]
      have e2 : nPairs (a :: F) G = G.countP (fun y => meetOk a y) + nPairs F G := by simp [nPairs]
      rw [e, List.countP_cons, e1]
      rw [e2] at ih
      simp only [List.length_cons] at ih
      split <;> omega
/-- is a text in one of a row? -/
def hasAny (F : List Sp) (v : List UInt8) : Bool := F.any fun s => hasS s v
theorem hasAny_iff {F : List Sp} (hF : ∀ s ∈ F, mayS s = true) (v : List UInt8) : hasAny F v = true ↔ mayL v = true ∧ cov F (some (false, v)) := by
  unfold hasAny
  rw [List.any_eq_true]
  constructor
  · rintro ⟨s, hs, h⟩
    obtain ⟨_, h1, h2, h3⟩ := hasS_iff.1 h
    exact ⟨h1, s, hs, h2, h3⟩
  · rintro ⟨h1, s, hs, h2, h3⟩
    exact ⟨s, hs, hasS_iff.2 ⟨hF s hs, h1, h2, h3⟩⟩
end Go.Proofs.YteailgjiifdgcaaGreatDoor.VerN

/- Plain facts for SpansShares: forms, unions and meets of rows of texts. No condition. -/
namespace Go.Proofs.YteailgjiifdgcaaGreatDoor
open Go.Lib VerN

theorem small_list {F : List BSp} (h : SmallB F) : ∃ l : List Tp, tB l = F := by
  have h2 : ∀ z ∈ F, z.1.size ≤ 9000 ∧ z.2.size ≤ 9000 := h
  refine ⟨F.pmap (fun s hs => (⟨s, hs⟩ : Tp)) h2, ?_⟩
  unfold tB
  rw [List.map_pmap]
  simp
/-- the form of a form is itself -/
theorem form_self {l f : List Tp} (hl : formOk l = true) (hf : tB f = formB l) : formB f = formB l ∧ formOk f = true := by
  have h1 := form_sep (formOk_iff.1 hl).1
  have hm : allMay (tB f) = true := by rw [hf]; exact allMay_iff.2 h1.1.1
  have e : formB f = formB l := form_of hm h1.1 fun p => by show _ ↔ cov ((tB f).map dS) p; rw [hf]
  exact ⟨e, formOk_iff.2 ⟨hm, by rw [e]; exact (formOk_iff.1 hl).2⟩⟩
theorem allMay_app {a b : List BSp} : allMay (a ++ b) = true ↔ allMay a = true ∧ allMay b = true := by unfold allMay; rw [List.all_append, Bool.and_eq_true]
theorem cov_app {a b : List Sp} (x : Pt) : cov (a ++ b) x ↔ cov a x ∨ cov b x := by
  unfold cov
  simp only [List.mem_append, or_and_right, exists_or]
/-- what two rows have in common -/
def pairsB (F G : List BSp) : List BSp := F.flatMap fun a => (G.filter fun b => meetOk (dS a) (dS b)).map fun b => mtV a.1 a.2 b.1 b.2
theorem mt_dS {a b : BSp} (h : meetOk (dS a) (dS b) = true) : dS (mtV a.1 a.2 b.1 b.2) = meetO (dS a) (dS b) := by
  have : dS (mtV a.1 a.2 b.1 b.2) = meetS (dS a) (dS b) := mtV_data _ _ _ _
  rw [this]
  unfold meetS
  rw [if_pos h]
theorem pairs_dS (F G : List BSp) : (pairsB F G).map dS = pairsS (F.map dS) (G.map dS) := by
  unfold pairsB pairsS
  rw [List.map_flatMap, List.flatMap_map]
  congr 1
  funext a
  rw [List.map_map, List.filter_map, List.map_map]
  apply List.map_congr_left
  intro b hb
  exact mt_dS (List.mem_filter.1 hb).2
theorem mt_size {a b : BSp} (ha : a.1.size ≤ 9000 ∧ a.2.size ≤ 9000) (hb : b.1.size ≤ 9000 ∧ b.2.size ≤ 9000) : (mtV a.1 a.2 b.1 b.2).1.size ≤ 9000 ∧ (mtV a.1 a.2 b.1 b.2).2.size ≤ 9000 := by
  unfold mtV
  split
  · exact ⟨laterS_size ha.1 hb.1, soonerS_size ha.2 hb.2⟩
  · exact ⟨Nat.zero_le _, Nat.zero_le _⟩
theorem smallB_pairs {F G : List BSp} (hF : SmallB F) (hG : SmallB G) : SmallB (pairsB F G) := by
  intro z hz
  obtain ⟨a, ha, hz⟩ := List.mem_flatMap.1 hz
  obtain ⟨b, hb, rfl⟩ := List.mem_map.1 hz
  exact mt_size (hF a ha) (hG b (List.mem_filter.1 hb).1)
/-- what two forms have in common, and how many there are of it -/
theorem pairs_form {a b l : List Tp} (ha : formOk a = true) (hb : formOk b = true) (hl : tB l = pairsB (formB a) (formB b)) :
    allMay (tB l) = true ∧ l.length ≤ (formB a).length + (formB b).length ∧ ∀ x, cov ((tB l).map dS) x ↔ cov ((formB a).map dS) x ∧ cov ((formB b).map dS) x := by
  have h1 := (form_sep (formOk_iff.1 ha).1).1
  have h2 := (form_sep (formOk_iff.1 hb).1).1
  have e : (tB l).map dS = pairsS ((formB a).map dS) ((formB b).map dS) := by rw [hl, pairs_dS]
  refine ⟨allMay_iff.2 (by rw [e]; exact pairs_may), ?_, fun x => by rw [e]; exact pairs_cov h1.1 h2.1 x⟩
  have h := nPairs_le _ _ _ (Nat.le_refl _) h1 h2
  rw [← pairs_len, ← e] at h
  simpa using h
theorem formOk_small {l : List Tp} (h : allMay (tB l) = true) (hn : l.length ≤ 16) : formOk l = true := formOk_iff.2 ⟨h, Nat.le_trans (form_len l) hn⟩
/-- the union of two -/
def unionB (a b : List Tp) : List BSp := if formOk a = true ∧ formOk b = true ∧ formOk (a ++ b) = true then formB (a ++ b) else []
theorem tB_app (a b : List Tp) : tB (a ++ b) = tB a ++ tB b := List.map_append
theorem smallB_nil : SmallB [] := fun z hz => by simp at hz
theorem smallB_union (a b : List Tp) : SmallB (unionB a b) := by
  unfold unionB
  split
  · exact smallB_form _
  · exact smallB_nil
/-- what two have in common, in its form -/
def meetP (a b l : List Tp) : Prop := tB l = pairsB (formB a) (formB b)
def meetB (a b l : List Tp) : List BSp := if formOk a = true ∧ formOk b = true ∧ formOk l = true then formB l else []
theorem meetP_some (a b : List Tp) : ∃ l, meetP a b l := small_list (smallB_pairs (smallB_form a) (smallB_form b))
theorem smallB_meet (a b l : List Tp) : SmallB (meetB a b l) := by
  unfold meetB
  split
  · exact smallB_form _
  · exact smallB_nil
theorem union_len (a b : List Tp) : (unionB a b).length ≤ 16 := by
  unfold unionB
  split
  · rename_i h; exact (formOk_iff.1 h.2.2).2
  · exact Nat.zero_le _
theorem meetB_len (a b l : List Tp) : (meetB a b l).length ≤ 16 := by
  unfold meetB
  split
  · rename_i h; exact (formOk_iff.1 h.2.2).2
  · exact Nat.zero_le _
/-- a row and itself make itself -/
theorem union_self {a u : List Tp} (ha : formOk a = true) (hn : a.length ≤ 8) (hu : tB u = unionB a a) : formOk u = true ∧ formB u = formB a := by
  have hm : allMay (tB (a ++ a)) = true := by rw [tB_app, allMay_app]; exact ⟨(formOk_iff.1 ha).1, (formOk_iff.1 ha).1⟩
  have hok : formOk (a ++ a) = true := formOk_small hm (by rw [List.length_append]; omega)
  have h1 := form_sep (formOk_iff.1 ha).1
  have e : formB (a ++ a) = formB a := form_of hm h1.1 fun p => by
    rw [h1.2 p]
    show _ ↔ cov ((tB (a ++ a)).map dS) p
    rw [tB_app, List.map_append, cov_app, or_self]
  have e2 : tB u = formB a := by rw [hu]; unfold unionB; rw [if_pos ⟨ha, ha, hok⟩, e]
  have := form_self ha e2
  exact ⟨this.2, this.1⟩
theorem meet_same {a b l u : List Tp} (ha : formOk a = true) (hb : formOk b = true) (hn : (formB a).length + (formB b).length ≤ 16) (hl : meetP a b l) (hc : ∀ x, cov ((formB a).map dS) x → cov ((formB b).map dS) x) (hu : tB u = meetB a b l) : formOk u = true ∧ formB u = formB a := by
  obtain ⟨h1, h2, h3⟩ := pairs_form ha hb hl
  have hok : formOk l = true := formOk_small h1 (by omega)
  have e : formB l = formB a := form_of h1 (form_sep (formOk_iff.1 ha).1).1 fun p => by
    show _ ↔ cov ((tB l).map dS) p
    rw [h3 p]
    exact ⟨fun k => ⟨k, hc p k⟩, fun k => k.1⟩
  have e2 : tB u = formB a := by rw [hu]; unfold meetB; rw [if_pos ⟨ha, hb, hok⟩, e]
  have := form_self ha e2
  exact ⟨this.2, this.1⟩
/-- is a text in one of a row? -/
def hasB (F : List BSp) (v : List UInt8) : Bool := F.any fun s => hasS (dS s) v
theorem hasB_is (F : List BSp) (v : List UInt8) : hasB F v = hasAny (F.map dS) v := by unfold hasB hasAny; rw [List.any_map]; rfl
theorem hasB_iff {F : List BSp} (hF : allMay F = true) (v : List UInt8) : hasB F v = true ↔ mayL v = true ∧ cov (F.map dS) (some (false, v)) := by
  rw [hasB_is]
  exact hasAny_iff (allMay_iff.1 hF) v
theorem form_cov {l : List Tp} (h : formOk l = true) (p : Pt) : cov ((formB l).map dS) p ↔ cov ((tB l).map dS) p := (form_sep (formOk_iff.1 h).1).2 p
theorem form_may {l : List Tp} (h : formOk l = true) : allMay (formB l) = true := allMay_iff.2 (form_sep (formOk_iff.1 h).1).1.1
theorem bool_of {p q : Bool} {P Q : Prop} (hp : p = true ↔ P) (hq : q = true ↔ Q) (h : P ↔ Q) : p = q := by
  cases p <;> cases q <;> simp_all
/-- with the two put together -/
theorem shr_one {a b c u l : List Tp} {v : List UInt8} (ha : formOk a = true) (hb : formOk b = true) (hc : formOk c = true) (nb : b.length ≤ 8) (nc : c.length ≤ 8) (hu : tB u = unionB b c) (hl : meetP a u l) (h0 : (meetB a u l).length ≠ 0) :
    hasB (meetB a u l) v = (hasB (tB a) v && (hasB (tB b) v || hasB (tB c) v)) := by
  have hm : allMay (tB (b ++ c)) = true := by rw [tB_app, allMay_app]; exact ⟨(formOk_iff.1 hb).1, (formOk_iff.1 hc).1⟩
  have hok : formOk (b ++ c) = true := formOk_small hm (by rw [List.length_append]; omega)
  have hu2 : tB u = formB (b ++ c) := by rw [hu]; unfold unionB; rw [if_pos ⟨hb, hc, hok⟩]
  obtain ⟨eu, hku⟩ := form_self hok hu2
  unfold meetB at h0 ⊢
  split at h0
  · rename_i h
    rw [if_pos h]
    obtain ⟨_, _, h3⟩ := pairs_form ha hku hl
    refine bool_of (hasB_iff (form_may h.2.2) v) (Q := mayL v = true ∧ cov ((tB a).map dS) (some (false, v)) ∧ (cov ((tB b).map dS) (some (false, v)) ∨ cov ((tB c).map dS) (some (false, v)))) ?_ ?_
    · rw [Bool.and_eq_true, Bool.or_eq_true, hasB_iff (formOk_iff.1 ha).1, hasB_iff (formOk_iff.1 hb).1, hasB_iff (formOk_iff.1 hc).1]
      constructor
      · rintro ⟨⟨h1, h2⟩, ⟨_, h3⟩ | ⟨_, h3⟩⟩
        · exact ⟨h1, h2, .inl h3⟩
        · exact ⟨h1, h2, .inr h3⟩
      · rintro ⟨h1, h2, h3 | h3⟩
        · exact ⟨⟨h1, h2⟩, .inl ⟨h1, h3⟩⟩
        · exact ⟨⟨h1, h2⟩, .inr ⟨h1, h3⟩⟩
    · rw [form_cov h.2.2, h3, form_cov ha, eu, form_cov hok, tB_app, List.map_append, cov_app]
  · simp at h0
/-- with the one and with the other, put together -/
theorem shr_two {a b c x y u v2 : List Tp} {v : List UInt8} (ha : formOk a = true) (hb : formOk b = true) (hc : formOk c = true) (na : a.length ≤ 8) (nb : b.length ≤ 8) (nc : c.length ≤ 8) (hx : meetP a b x) (hy : meetP a c y) (hu : tB u = meetB a b x) (hv : tB v2 = meetB a c y) (h0 : (unionB u v2).length ≠ 0) :
    hasB (unionB u v2) v = (hasB (tB a) v && (hasB (tB b) v || hasB (tB c) v)) := by
  have la := form_len a
  have lb := form_len b
  have lc := form_len c
  obtain ⟨x1, x2, x3⟩ := pairs_form ha hb hx
  obtain ⟨y1, y2, y3⟩ := pairs_form ha hc hy
  have hxo : formOk x = true := formOk_small x1 (by omega)
  have hyo : formOk y = true := formOk_small y1 (by omega)
  have hu2 : tB u = formB x := by rw [hu]; unfold meetB; rw [if_pos ⟨ha, hb, hxo⟩]
  have hv2 : tB v2 = formB y := by rw [hv]; unfold meetB; rw [if_pos ⟨ha, hc, hyo⟩]
  unfold unionB at h0 ⊢
  split at h0
  · rename_i h
    rw [if_pos h]
    refine bool_of (hasB_iff (form_may h.2.2) v) (Q := mayL v = true ∧ cov ((tB a).map dS) (some (false, v)) ∧ (cov ((tB b).map dS) (some (false, v)) ∨ cov ((tB c).map dS) (some (false, v)))) ?_ ?_
    · rw [Bool.and_eq_true, Bool.or_eq_true, hasB_iff (formOk_iff.1 ha).1, hasB_iff (formOk_iff.1 hb).1, hasB_iff (formOk_iff.1 hc).1]
      constructor
      · rintro ⟨⟨h1, h2⟩, ⟨_, h3⟩ | ⟨_, h3⟩⟩
        · exact ⟨h1, h2, .inl h3⟩
        · exact ⟨h1, h2, .inr h3⟩
      · rintro ⟨h1, h2, h3 | h3⟩
        · exact ⟨⟨h1, h2⟩, .inl ⟨h1, h3⟩⟩
        · exact ⟨⟨h1, h2⟩, .inr ⟨h1, h3⟩⟩
    · rw [form_cov h.2.2, tB_app, List.map_append, cov_app, hu2, hv2, form_cov hxo, form_cov hyo, x3, y3, form_cov ha, form_cov hb, form_cov hc]
      constructor
      · rintro ⟨h1, ⟨h2, h3⟩ | ⟨h2, h3⟩⟩
        · exact ⟨h1, h2, .inl h3⟩
        · exact ⟨h1, h2, .inr h3⟩
      · rintro ⟨h1, h2, h3 | h3⟩
        · exact ⟨h1, .inl ⟨h2, h3⟩⟩
        · exact ⟨h1, .inr ⟨h2, h3⟩⟩
  · simp at h0
end Go.Proofs.YteailgjiifdgcaaGreatDoor

/- The walks of cooperref03.Has and Great, and of spans.Has. Condition: the library's variables as they were laid; at most two thousand spans of bounds of at most 9000 bytes; a text of at most a million bytes. -/
namespace Go.Proofs.YteailgjiifdgcaaGreatDoor
open Go.Shelf Go.RowKit Go.Lib VerN

theorem hasB_yes {F : List BSp} {t : List UInt8} {k : Nat} (hk : k < F.length) (h : hasS (dS F[k]) t = true) : hasB F t = true := by
  unfold hasB; rw [List.any_eq_true]; exact ⟨F[k], List.getElem_mem hk, h⟩
theorem hasB_no {F : List BSp} {t : List UInt8} (h : ∀ j (hj : j < F.length), hasS (dS F[j]) t = false) : hasB F t = false := by
  unfold hasB
  rw [List.any_eq_false]
  intro x hx
  obtain ⟨j, hj, rfl⟩ := List.mem_iff_getElem.1 hx
  rw [h j hj]; simp
set_option maxRecDepth 10000 in
set_option maxHeartbeats 4000000 in
theorem refHas3_any {w : World} {v : Value} {F : List BSp} (h : RSps w [v] F) (hs : SmallB F) (t : ByteArray) (ht : t.size ≤ 1000000) : Calls Tryz.prog 24 #[v, .string t] w fun e w' => e = .returned (.bool (hasB F t.data.toList)) ∧ Below w.heap.size w w' := by
  obtain ⟨a, cap, hv, hlen, _⟩ := sps_open h
  have hat := sps_at (by rw [← hv]; exact h)
  subst hv
  obtain ⟨q, hq⟩ : ∃ q, q = F.length := ⟨_, rfl⟩
  rw [← hq] at h hlen ⊢
  obtain ⟨r, hr⟩ : ∃ r, r = hasB F t.data.toList := ⟨_, rfl⟩
  rw [← hr]
  have Hh := Lib.hid h; have Hs := Lib.hid hs; have Hq := Lib.hid hq; have Hat := Lib.hid hat; have Hr := Lib.hid hr; clear h hs hq hat hr
  go_enter Tryz.func24, Tryz.ntmps24
  go_wp2_with fail
  go_loopw [8] (fun i wr => ∃ k : Nat, k ≤ q ∧ i = .int .i64 k ∧ (∀ j (hj : j < F.length), j < k → hasS (dS F[j]) t.data.toList = false) ∧ Below w.heap.size w wr) (fun i _ => q - (RowKit.intOf i).toNat)
  case atStart => exact ⟨0, Nat.zero_le _, rfl, (fun _ _ h => absurd h (Nat.not_lt_zero _)), Below.refl _ _⟩
  case round =>
    obtain ⟨k, hk, rfl, hno, hbr⟩ := hrel
    by_cases hlt : k < q
    · have hkF : k < F.length := by have := Hq.out; omega
      obtain ⟨y, hy⟩ : ∃ y, y = F[k] := ⟨_, rfl⟩
      obtain ⟨b, off, rfl, c0, c1⟩ := Hat.out k y (by rw [hy]; exact List.getElem?_eq_getElem hkF)
      have d0 := cell_later hbr c0
      have d1 := cell_later hbr c1
      have hys := Hs.out y (by rw [hy]; exact List.getElem_mem hkF)
      have hT := refHas2_any y.1 y.2 t (by omega) (by omega) ht wr
      have hyes : hasS (dS y) t.data.toList = true → r = true := fun h => by rw [Hr.out]; exact hasB_yes hkF (by rw [← hy]; exact h)
      have hnx : hasS (dS y) t.data.toList = false → ∀ j (hj : j < F.length), j < k + 1 → hasS (dS F[j]) t.data.toList = false := fun h j hj hjk => by
        by_cases e : j = k
        · subst e; rw [← hy]; exact h
        · exact hno j hj (by omega)
      obtain ⟨p, hp⟩ : ∃ p, p = hasS (dS y) t.data.toList := ⟨_, rfl⟩
      have hp2 : hasS (y.1.data.toList, y.2.data.toList) t.data.toList = p := hp.symm
      rw [hp2] at hT
      rw [← hp] at hyes hnx
      obtain ⟨y1, hy1⟩ : ∃ s, s = y.1 := ⟨_, rfl⟩
      obtain ⟨y2, hy2⟩ : ∃ s, s = y.2 := ⟨_, rfl⟩
      rw [← hy1] at d0
      rw [← hy2] at d1
      rw [← hy1, ← hy2] at hT
      have k5 : (0 : Int) ≤ (k : Int) := by omega
      have k6 : (k : Int) < (q : Int) := by omega
      clear c0 c1 hp2
      cases p with
      | true =>
        have hf := hyes rfl
        have Hno := Lib.hid hno; have Hbr := Lib.hid hbr; have Hy := Lib.hid hy; have Hys := Lib.hid hys; have HT := Lib.hid hT; have Hyes := Lib.hid hyes; have Hnx := Lib.hid hnx; have Hp := Lib.hid hp; have Hy1 := Lib.hid hy1; have Hy2 := Lib.hid hy2; have Hf := Lib.hid hf; clear hno hbr hy hys hT hyes hnx hp hy1 hy2 hf
        go_wp2_with fail
        refine HT.out.mono ?_
        rintro e w5 ⟨rfl, hb5⟩
        have hbw := Hbr.out.trans (hb5.mono Hbr.out.size)
        have Hb5 := Lib.hid hb5; have Hbw := Lib.hid hbw; clear hb5 hbw
        go_wp2_with fail
        go_ret
        exact ⟨ret_bool Hf.out.symm, Hbw.out⟩
      | false =>
        have hf := hnx rfl
        have Hno := Lib.hid hno; have Hbr := Lib.hid hbr; have Hy := Lib.hid hy; have Hys := Lib.hid hys; have HT := Lib.hid hT; have Hyes := Lib.hid hyes; have Hnx := Lib.hid hnx; have Hp := Lib.hid hp; have Hy1 := Lib.hid hy1; have Hy2 := Lib.hid hy2; have Hf := Lib.hid hf; clear hno hbr hy hys hT hyes hnx hp hy1 hy2 hf
        go_wp2_with fail
        refine HT.out.mono ?_
        rintro e w5 ⟨rfl, hb5⟩
        have hbw := Hbr.out.trans (hb5.mono Hbr.out.size)
        have Hb5 := Lib.hid hb5; have Hbw := Lib.hid hbw; clear hb5 hbw
        go_wp2_with fail
        go_roundw
        case rel => exact ⟨k + 1, by omega, by go_num, Hf.out, Hbw.out⟩
        case measure => (simp [RowKit.intOf]) <;> omega
    · obtain rfl : k = q := by omega
      have hf : r = false := by rw [Hr.out]; exact hasB_no fun j hj => hno j hj (by have := Hq.out; omega)
      have Hno := Lib.hid hno; have Hbr := Lib.hid hbr; have Hf := Lib.hid hf; clear hno hbr hf
      go_wp2_with fail
      go_ret
      exact ⟨ret_bool Hf.out.symm, Hbr.out⟩
/-- few spans of short bounds -/
def Small100 (F : List BSp) : Prop := F.length ≤ 30 ∧ ∀ z ∈ F, z.1.size ≤ 100 ∧ z.2.size ≤ 100
set_option maxRecDepth 10000 in
set_option maxHeartbeats 4000000 in
theorem refGreat3_any {w : World} {v : Value} {F : List BSp} (h : RSps w [v] F) : Calls Tryz.prog 20 #[v] w fun e w' => (∃ r, e = .returned (.bool r) ∧ (r = false → Small100 F)) ∧ w = w' := by
  obtain ⟨a, cap, hv, hlen, hop⟩ := sps_open h
  have hat := sps_at (by rw [← hv]; exact h)
  subst hv
  obtain ⟨q, hq⟩ : ∃ q, q = F.length := ⟨_, rfl⟩
  have hsz := sps_size h
  rw [← hq] at h hlen ⊢
  by_cases h30 : 30 < q
  · have kk : decide ((30 : Int) < (q : Int)) = true := decide_eq_true (by omega)
    have Hh := Lib.hid h; have Hq := Lib.hid hq; have Hat := Lib.hid hat; have Hop := Lib.hid hop; have Hsz := Lib.hid hsz; clear h hq hat hop hsz
    go_enter Tryz.func20, Tryz.ntmps20
    go_wp2_with fail
    go_ret
    exact ⟨⟨_, rfl, fun h => by cases h⟩, rfl⟩
  · have kk : decide ((30 : Int) < (q : Int)) = false := decide_eq_false (by omega)
    have Hh := Lib.hid h; have Hq := Lib.hid hq; have Hat := Lib.hid hat; have Hop := Lib.hid hop; have Hsz := Lib.hid hsz; clear h hq hat hop hsz
    go_enter Tryz.func20, Tryz.ntmps20
    go_wp2_with fail
    go_loopw [9] (fun i wr => ∃ k : Nat, k ≤ q ∧ i = .int .i64 k ∧ (∀ j (hj : j < F.length), j < k → F[j].1.size ≤ 100 ∧ F[j].2.size ≤ 100) ∧ wr = w) (fun i _ => q - (RowKit.intOf i).toNat)
    case atStart => exact ⟨0, Nat.zero_le _, rfl, (fun _ _ h => absurd h (Nat.not_lt_zero _)), rfl⟩
    case round =>
      obtain ⟨k, hk, rfl, hno, rfl⟩ := hrel
      by_cases hlt : k < q
      · have hkF : k < F.length := by have := Hq.out; omega
        obtain ⟨y, hy⟩ : ∃ y, y = F[k] := ⟨_, rfl⟩
        obtain ⟨b, off, rfl, c0, c1⟩ := Hat.out k y (by rw [hy]; exact List.getElem?_eq_getElem hkF)
        have hys := Hsz.out y (by rw [hy]; exact List.getElem_mem hkF)
        have hnx : y.1.size ≤ 100 → y.2.size ≤ 100 → ∀ j (hj : j < F.length), j < k + 1 → F[j].1.size ≤ 100 ∧ F[j].2.size ≤ 100 := fun h h' j hj hjk => by
          by_cases e : j = k
          · subst e; rw [← hy]; exact ⟨h, h'⟩
          · exact hno j hj (by omega)
        obtain ⟨y1, hy1⟩ : ∃ s, s = y.1 := ⟨_, rfl⟩
        obtain ⟨y2, hy2⟩ : ∃ s, s = y.2 := ⟨_, rfl⟩
        rw [← hy1] at c0 hnx hys
        rw [← hy2] at c1 hnx hys
        unfold maxLen at hys
        have k5 : (0 : Int) ≤ (k : Int) := by omega
        have k6 : (k : Int) < (q : Int) := by omega
        by_cases h1 : 100 < y1.size
        · have e1 : decide ((100 : Int) < (y1.size : Int)) = true := decide_eq_true (by omega)
          have Hno := Lib.hid hno; have Hy := Lib.hid hy; have Hys := Lib.hid hys; have Hnx := Lib.hid hnx; have Hy1 := Lib.hid hy1; have Hy2 := Lib.hid hy2; clear hno hy hys hnx hy1 hy2
          go_wp2_with fail
          go_ret
          exact ⟨⟨_, rfl, fun h => by cases h⟩, rfl⟩
        · have e1 : decide ((100 : Int) < (y1.size : Int)) = false := decide_eq_false (by omega)
          by_cases h2 : 100 < y2.size
          · have e2 : decide ((100 : Int) < (y2.size : Int)) = true := decide_eq_true (by omega)
            have Hno := Lib.hid hno; have Hy := Lib.hid hy; have Hys := Lib.hid hys; have Hnx := Lib.hid hnx; have Hy1 := Lib.hid hy1; have Hy2 := Lib.hid hy2; clear hno hy hys hnx hy1 hy2
            go_wp2_with fail
            go_ret
            exact ⟨⟨_, rfl, fun h => by cases h⟩, rfl⟩
          · have e2 : decide ((100 : Int) < (y2.size : Int)) = false := decide_eq_false (by omega)
            have hf := hnx (by omega) (by omega)
            have Hno := Lib.hid hno; have Hy := Lib.hid hy; have Hys := Lib.hid hys; have Hnx := Lib.hid hnx; have Hy1 := Lib.hid hy1; have Hy2 := Lib.hid hy2; have Hf := Lib.hid hf; clear hno hy hys hnx hy1 hy2 hf
            go_wp2_with fail
            go_roundw
            case rel => exact ⟨k + 1, by omega, by go_num, Hf.out, by first | rfl | trivial⟩
            case measure => (simp [RowKit.intOf]) <;> omega
      · obtain rfl : k = q := by omega
        have hf : Small100 F := ⟨by have := Hq.out; omega, fun z hz => by
          obtain ⟨j, hj, rfl⟩ := List.mem_iff_getElem.1 hz
          exact hno j hj (by have := Hq.out; omega)⟩
        have Hno := Lib.hid hno; have Hf := Lib.hid hf; clear hno hf
        go_wp2_with fail
        go_ret
        exact ⟨⟨_, rfl, fun _ => Hf.out⟩, rfl⟩
/-! spans.Has -/
abbrev TBox (B : Nat) (t : ByteArray) (W : World) : Prop := W.heap[B]? = some (.cells #[.string t] 9 (0, 0))
set_option maxRecDepth 10000 in
theorem hasOne_any (lo hi t : ByteArray) (hl : lo.size ≤ 1000000) (hh : hi.size ≤ 1000000) (ht : t.size ≤ 1000000) {B : Nat} {w : World} (hB : TBox B t w) (hD : Doors w) : Calls Tryz.prog 67 #[.agg #[.string lo, .string hi], .pointer (some ⟨B, 0, none⟩)] w fun e w' => e = .returned (.bool (hasS (lo.data.toList, hi.data.toList) t.data.toList)) ∧ Below w.heap.size w w' := by
  obtain ⟨W0, hW0⟩ : ∃ W0, W0 = w.alloc (.cells #[.string lo, .string hi] 34) := ⟨_, rfl⟩
  obtain ⟨nb, hnb⟩ : ∃ nb, nb = w.heap.size := ⟨_, rfl⟩
  have hw : Below w.heap.size w W0 := by rw [hW0]; exact below_alloc1 _ _
  have hn0 : W0.heap[nb]? = some (.cells #[.string lo, .string hi] 34 (0, 0)) := by rw [hW0, hnb]; exact heap_new_at rfl
  have hB0 := heap_below hw hB
  obtain ⟨b0, b1, _, _⟩ := pair_cells hn0
  have t0 : W0.cell? ⟨B, 0, none⟩ = some (.string t) := cells_at hB0 0
  have hM := calls_to hw (spanHas_any lo hi t hl hh ht (hD.below hw))
  obtain ⟨p, hp⟩ : ∃ p, p = hasS (lo.data.toList, hi.data.toList) t.data.toList := ⟨_, rfl⟩
  rw [← hp] at hM ⊢
  have HM := Lib.hid hM; have Hw := Lib.hid hw; have Hn0 := Lib.hid hn0; have Hp := Lib.hid hp; have HD := Lib.hid hD; have HB := Lib.hid hB; have HB0 := Lib.hid hB0; clear hM hw hn0 hp hD hB hB0
  go_enter Tryz.func67, Tryz.ntmps67
  go_upto_region 1 with (fail)
  rw [← hW0, ← hnb]
  clear hW0 hnb
  go_wp2_with fail
  refine HM.out.mono ?_
  rintro e w1 ⟨rfl, hb1⟩
  have Hb1 := Lib.hid hb1; clear hb1
  go_wp2_with fail
  go_ret
  exact ⟨rfl, Hb1.out⟩
theorem enters_hasOne : ∀ args w, (callFunc 67 args).run Tryz.prog w = .ok (.enter 67 args) w := enters_of Tryz.func67 (by kernel_rfl) rfl
theorem hasOne_pred {F : List BSp} (hs : SmallB F) {t : ByteArray} (ht : t.size ≤ 1000000) {B : Nat} {w : World} (hB : TBox B t w) (hD : Doors w) : IdxSpan.Pred RSpn (fun s => hasS (dS s) t.data.toList) 67 #[.pointer (some ⟨B, 0, none⟩)] F w := by
  intro W u0 u1 s hb hm hr
  obtain ⟨h1, _, _⟩ := hr
  injection h1 with h1 h2
  injection h2 with h2 _
  subst h1 h2
  have := hs s hm
  exact hasOne_any _ _ t (by omega) (by omega) ht (heap_below hb hB) (hD.below hb)
set_option maxRecDepth 10000 in
set_option maxHeartbeats 1000000 in
theorem spsHas_any {w : World} {v : Value} {F : List BSp} (h : RSps w [v] F) (hs : SmallB F) (t : ByteArray) (ht : t.size ≤ 1000000) (hD : Doors w) : Calls Tryz.prog 25 #[v, .string t] w fun e w' => e = .returned (.bool (hasB F t.data.toList)) ∧ Below w.heap.size w w' := by
  obtain ⟨W0, hW0⟩ : ∃ W0, W0 = w.alloc (.cells #[.string t] 9) := ⟨_, rfl⟩
  obtain ⟨nb, hnb⟩ : ∃ nb, nb = w.heap.size := ⟨_, rfl⟩
  have hw : Below w.heap.size w W0 := by rw [hW0]; exact below_alloc1 _ _
  have hn0 : TBox nb t W0 := by rw [hW0, hnb]; exact heap_new_at rfl
  have hC := calls_to hw (IdxSpan.has_any stays_spn (fun s => hasS (dS s) t.data.toList) 67 #[.pointer (some ⟨nb, 0, none⟩)] enters_hasOne (stays_slice stays_spn _ _ _ _ h hw) (hasOne_pred hs ht hn0 (hD.below hw)))
  obtain ⟨p, hp⟩ : ∃ p, p = hasB F t.data.toList := ⟨_, rfl⟩
  have hp2 : (F.any fun s => hasS (dS s) t.data.toList) = p := hp.symm
  rw [hp2] at hC
  rw [← hp]
  have HC := Lib.hid hC; have Hw := Lib.hid hw; have Hn0 := Lib.hid hn0; have Hp := Lib.hid hp; have HD := Lib.hid hD; have Hh := Lib.hid h; clear hC hw hn0 hp hD h
  go_enter Tryz.func25, Tryz.ntmps25
  go_upto_region 1 with (fail)
  rw [← hW0, ← hnb]
  clear hW0 hnb
  go_wp2_with fail
  refine HC.out.mono ?_
  rintro e w1 ⟨rfl, hb1⟩
  have Hb1 := Lib.hid hb1; clear hb1
  go_wp2_with fail
  go_ret
  exact ⟨rfl, Hb1.out⟩
end Go.Proofs.YteailgjiifdgcaaGreatDoor

/- The walk of cooperref03.Same. No condition. -/
namespace Go.Proofs.YteailgjiifdgcaaGreatDoor
open Go.RowKit Go.Shelf Go.Lib VerN

theorem spn_neqs (s t a b : ByteArray) (W : World) : (binOp .neq 34 (.agg #[.string s, .string t]) (.agg #[.string a, .string b])).run Tryz.prog W = .ok (.bool (!(decide (s = a) && decide (t = b)))) W := by
  have u9 := Tryz.underlying9
  have hS : Tryz.prog.underlying 34 = some (.struct (Tryz.prog.fieldsOf 34)) := by kernel_rfl
  have hp : Tryz.prog.stoodInHeld 34 = false := by kernel_rfl
  rw [run_neq_struct, show (10000 : Nat) = 9999 + 1 from rfl, run_equalIn_agg W 9999 34 _ _ hS hp]
  simp only [Program.fieldsOf, Tryz.underlying34]
  go_simp
  have e1 := Txt.eq_dec s a
  have e2 := Txt.eq_dec t b
  by_cases h1 : s = a <;> by_cases h2 : t = b <;> simp [h1, h2] at e1 e2 ⊢ <;> simp_all
set_option maxRecDepth 10000 in
set_option maxHeartbeats 1000000 in
theorem sameRefS_any {w : World} {v u : Value} {l m : List BSp} (h : RSps w [v] l) (hm : RSps w [u] m) : Calls Tryz.prog 18 #[v, u] w fun e w' => e = .returned (.bool (decide (l = m))) ∧ ∃ q, w' = w.drewN q := by
  obtain ⟨a, cap, rfl, hz, g⟩ := sps_open h
  obtain ⟨a2, cap2, rfl, hz2, g2⟩ := sps_open hm
  obtain ⟨n, hn⟩ : ∃ n, n = l.length := ⟨_, rfl⟩
  obtain ⟨n2, hn2⟩ : ∃ n, n = m.length := ⟨_, rfl⟩
  obtain ⟨r, hr⟩ : ∃ r, r = decide (l = m) := ⟨_, rfl⟩
  have q1 := fun s t a b => spn_neqs s t a b
  rw [← hr]
  rw [← hn] at hz h ⊢
  rw [← hn2] at hz2 hm ⊢
  have Hh := Lib.hid h; have Hm := Lib.hid hm; have Hg := Lib.hid g; have Hg2 := Lib.hid g2; have Hn := Lib.hid hn; have Hn2 := Lib.hid hn2; have Hr := Lib.hid hr; have Hq1 := Lib.hid q1; clear h hm g g2 hn hn2 hr q1
  go_enter Tryz.func18, Tryz.ntmps18
  by_cases hne : n = n2
  case neg =>
    have k1 : ((n : Int) != (n2 : Int)) = true := by simp; omega
    have hf : r = false := by rw [Hr.out, decide_eq_false_iff_not]; intro e; exact hne (by rw [Hn.out, Hn2.out, e])
    have Hf := Lib.hid hf; have Hne := Lib.hid hne; clear hf hne
    go_wp2_with fail
    go_ret
    exact ⟨ret_bool Hf.out.symm, 0, rfl⟩
  have k1 : ((n : Int) != (n2 : Int)) = false := by simp; omega
  have Hne := Lib.hid hne; clear hne
  go_wp2_with fail
  clear k1
  go_loopw [13] (fun i wr => ∃ k : Nat, k ≤ n ∧ i = .int .i64 k ∧ (∀ j (h1 : j < l.length) (h2 : j < m.length), j < k → l[j] = m[j]) ∧ ∃ q, wr = w.drewN q) (fun i _ => n - (RowKit.intOf i).toNat)
  case atStart => exact ⟨0, Nat.zero_le _, rfl, fun _ _ _ h => by omega, 0, rfl⟩
  case round =>
    obtain ⟨k, hk, rfl, hno, q, rfl⟩ := hrel
    by_cases hlt : k < n
    · have hkl : k < l.length := by have := Hn.out; omega
      have hkm : k < m.length := by have := Hn2.out; have := Hne.out; omega
      obtain ⟨b, off, rfl, d0, d1, _, _⟩ := Hg.out k _ (List.getElem?_eq_getElem hkl)
      obtain ⟨b2, off2, rfl, f0, f1, _, _⟩ := Hg2.out k _ (List.getElem?_eq_getElem hkm)
      have hnx : l[k] = m[k] → ∀ j (h1 : j < l.length) (h2 : j < m.length), j < k + 1 → l[j] = m[j] := fun h j h1 h2 hjk => by
        by_cases e : j = k
        · subst e; exact h
        · exact hno j h1 h2 (by omega)
      have hbd : l[k] ≠ m[k] → l ≠ m := fun h e => h (by subst e; rfl)
      obtain ⟨x, hx⟩ : ∃ x, x = l[k] := ⟨_, rfl⟩
      obtain ⟨y, hy⟩ : ∃ x, x = m[k] := ⟨_, rfl⟩
      rw [← hx] at d0 d1 hnx hbd
      rw [← hy] at f0 f1 hnx hbd
      have q2 := Hq1.out x.1 x.2 y.1 y.2
      have hxy : (decide (x.1 = y.1) && decide (x.2 = y.2)) = decide (x = y) := by
        rw [Bool.eq_iff_iff]
        simp [Prod.ext_iff]
      rw [hxy] at q2
      obtain ⟨s, hs⟩ : ∃ s, s = x.1 := ⟨_, rfl⟩
      obtain ⟨t, ht⟩ : ∃ s, s = x.2 := ⟨_, rfl⟩
      obtain ⟨s', hs'⟩ : ∃ s, s = y.1 := ⟨_, rfl⟩
      obtain ⟨t', ht'⟩ : ∃ s, s = y.2 := ⟨_, rfl⟩
      rw [← hs, ← ht, ← hs', ← ht'] at q2
      rw [← hs] at d0
      rw [← ht] at d1
      rw [← hs'] at f0
      rw [← ht'] at f1
      have k5 : (0 : Int) ≤ (k : Int) := by omega
      have k6 : (k : Int) < (n : Int) := by omega
      have k7 : (k : Int) < (n2 : Int) := by have := Hne.out; omega
      clear hxy
      by_cases e : x = y
      · have hq := hnx e
        rw [decide_eq_true e] at q2
        simp only [Bool.not_true] at q2
        clear e
        have Hno := Lib.hid hno; have Hnx := Lib.hid hnx; have Hbd := Lib.hid hbd; have Hx := Lib.hid hx; have Hy := Lib.hid hy; have Hs := Lib.hid hs; have Ht := Lib.hid ht; have Hs' := Lib.hid hs'; have Ht' := Lib.hid ht'; have Hq := Lib.hid hq; clear hno hnx hbd hx hy hs ht hs' ht' hq
        go_wp2_with fail
        go_region
        go_wp2_with fail
        go_roundw
        case rel => exact ⟨k + 1, by omega, by go_num, Hq.out, _, rfl⟩
        case measure => simp [RowKit.intOf]; omega
      · have hf : r = false := by rw [Hr.out, decide_eq_false_iff_not]; exact hbd e
        rw [decide_eq_false e] at q2
        simp only [Bool.not_false] at q2
        clear e
        have Hno := Lib.hid hno; have Hnx := Lib.hid hnx; have Hbd := Lib.hid hbd; have Hx := Lib.hid hx; have Hy := Lib.hid hy; have Hs := Lib.hid hs; have Ht := Lib.hid ht; have Hs' := Lib.hid hs'; have Ht' := Lib.hid ht'; have Hf := Lib.hid hf; clear hno hnx hbd hx hy hs ht hs' ht' hf
        go_wp2_with fail
        go_region
        go_wp2_with fail
        go_ret
        exact ⟨ret_bool Hf.out.symm, _, rfl⟩
    · obtain rfl : n = k := by omega
      have hf : r = true := by
        rw [Hr.out, decide_eq_true_eq]
        exact List.ext_getElem (by rw [← Hn.out, ← Hn2.out, Hne.out]) (fun j h1 h2 => hno j h1 h2 (by have := Hn.out; omega))
      have Hno := Lib.hid hno; have Hf := Lib.hid hf; clear hno hf
      go_wp2_with fail
      go_ret
      exact ⟨ret_bool Hf.out.symm, _, rfl⟩
end Go.Proofs.YteailgjiifdgcaaGreatDoor
