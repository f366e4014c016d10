/- The walk of cooperlaw02.SpanJoins: the law. Condition: the library's variables as they were laid. -/
import Derived.Test.YtblkdcapampniaaDoorSpnMeets
set_option linter.unusedVariables false
set_option linter.unusedSimpArgs false
namespace Go.Proofs.YtblkdcapampniaaDoor
open Go.RowKit Go.Lib VerN

theorem jnV_size {lo hi lp hj : ByteArray} {n : Nat} (h1 : lo.size ≤ n) (h2 : hi.size ≤ n) (h3 : lp.size ≤ n) (h4 : hj.size ≤ n) : (jnV lo hi lp hj).1.size ≤ n ∧ (jnV lo hi lp hj).2.size ≤ n := by
  unfold jnV
  split
  · refine ⟨?_, ?_⟩
    · show (if lo.size ≠ 0 ∧ lp.size ≠ 0 then soonerS lo lp else ⟨#[]⟩ : ByteArray).size ≤ n
      split
      · exact soonerS_size h1 h3
      · exact Nat.zero_le _
    · show (if hi.size ≠ 0 ∧ hj.size ≠ 0 then laterS hi hj else ⟨#[]⟩ : ByteArray).size ≤ n
      split
      · exact laterS_size h2 h4
      · exact Nat.zero_le _
  · exact ⟨Nat.zero_le _, Nat.zero_le _⟩
set_option maxRecDepth 10000 in
set_option maxHeartbeats 8000000 in
theorem spanJoins_true (lo hi lp hj lq hk v : ByteArray) {w : World} (hD : Doors w) (hvz : v.size ≤ 9223372036854775807) : Calls Tryd.prog 11 #[.agg #[.string lo, .string hi], .agg #[.string lp, .string hj], .agg #[.string lq, .string hk], .string v] w fun e w' => e = .returned (.bool true) ∧ Below w.heap.size w w' := by
  obtain ⟨w0, hW0⟩ : ∃ W0, W0 = ((w.alloc (.cells #[.string lo, .string hi] 33)).alloc (.cells #[.string lp, .string hj] 33)).alloc (.cells #[.string lq, .string hk] 33) := ⟨_, rfl⟩
  obtain ⟨nb, hnb⟩ : ∃ nb, nb = w.heap.size := ⟨_, rfl⟩
  have hw : Below w.heap.size w w0 := by rw [hW0]; exact ((below_alloc1 _ _).alloc (below_alloc1 _ _).size _).alloc ((below_alloc1 _ _).alloc (below_alloc1 _ _).size _).size _
  have hb0 : Below w0.heap.size w0 w0 := Below.refl _ _
  have ha : w0.heap[nb]? = some (.cells #[.string lo, .string hi] 33 (0, 0)) := by rw [hW0, hnb]; exact pbox3_0 _ _ _ _ _ _ _
  obtain ⟨a0, a1, a2, a3⟩ := pair_cells ha
  have hb : w0.heap[nb + 1]? = some (.cells #[.string lp, .string hj] 33 (0, 0)) := by rw [hW0, hnb]; exact pbox3_1 _ _ _ _ _ _ _
  obtain ⟨b0, b1, b2, b3⟩ := pair_cells hb
  have hd : w0.heap[nb + 1 + 1]? = some (.cells #[.string lq, .string hk] 33 (0, 0)) := by rw [hW0, hnb]; exact pbox3_2 _ _ _ _ _ _ _
  obtain ⟨d0, d1, d2, d3⟩ := pair_cells hd
  have hG := fun (W : World) (k : Below w0.heap.size w0 W) => great2_any lo hi W
  have hG2 := fun (W : World) (k : Below w0.heap.size w0 W) => great2_any lp hj W
  have hG3 := fun (W : World) (k : Below w0.heap.size w0 W) => great2_any lq hk W
  have hF := fun (W : World) (k : Below w0.heap.size w0 W) => fixed02_any (hD.below (below_on hw k))
  obtain ⟨gr, hgr⟩ : ∃ x, x = (decide (3000 < lo.size) || decide (3000 < hi.size)) := ⟨_, rfl⟩
  obtain ⟨gr2, hgr2⟩ : ∃ x, x = (decide (3000 < lp.size) || decide (3000 < hj.size)) := ⟨_, rfl⟩
  obtain ⟨gr3, hgr3⟩ : ∃ x, x = (decide (3000 < lq.size) || decide (3000 < hk.size)) := ⟨_, rfl⟩
  obtain ⟨gv, k1⟩ : ∃ x, decide ((3000 : Int) < (v.size : Int)) = x := ⟨_, rfl⟩
  have hgv : gv = false → v.size ≤ 3000 := fun h => by rw [h] at k1; simp at k1; omega
  rw [← hgr] at hG
  rw [← hgr2] at hG2
  rw [← hgr3] at hG3
  have HG := Lib.hid hG; have HG2 := Lib.hid hG2; have HG3 := Lib.hid hG3; have HF := Lib.hid hF; have Hw := Lib.hid hw; have Hb0 := Lib.hid hb0; have Hgr := Lib.hid hgr; have Hgr2 := Lib.hid hgr2; have Hgr3 := Lib.hid hgr3; have Hgv := Lib.hid hgv; have HD := Lib.hid hD; have Ha := Lib.hid ha; have Hb := Lib.hid hb; have Hd := Lib.hid hd; clear hG hG2 hG3 hF hw hb0 hgr hgr2 hgr3 hgv hD ha hb hd
  go_enter Tryd.func11, Tryd.ntmps11
  go_upto_region 1 with (fail)
  rw [← hW0, ← hnb]
  clear hW0 hnb
  go_wp2_with fail
  refine (HG.out _ Hb0.out).mono ?_
  rintro e w1 ⟨rfl, hs⟩
  have hb1 := Hb0.out.trans (hs.mono Hb0.out.size)
  have ha := heap_below hs Ha.out
  clear Ha a0 a1 a2 a3
  obtain ⟨a0, a1, a2, a3⟩ := pair_cells ha
  have hb := heap_below hs Hb.out
  clear Hb b0 b1 b2 b3
  obtain ⟨b0, b1, b2, b3⟩ := pair_cells hb
  have hd := heap_below hs Hd.out
  clear Hd d0 d1 d2 d3
  obtain ⟨d0, d1, d2, d3⟩ := pair_cells hd
  have Hs := Lib.hid hs; have Hb1 := Lib.hid hb1; have Ha := Lib.hid ha; have Hb := Lib.hid hb; have Hd := Lib.hid hd; clear hs hb1 ha hb hd
  cases gr with
  | false =>
    go_wp2_with fail
    refine (HG2.out _ Hb1.out).mono ?_
    rintro e w2 ⟨rfl, hs⟩
    have hb2 := Hb1.out.trans (hs.mono Hb1.out.size)
    have ha := heap_below hs Ha.out
    clear Ha a0 a1 a2 a3
    obtain ⟨a0, a1, a2, a3⟩ := pair_cells ha
    have hb := heap_below hs Hb.out
    clear Hb b0 b1 b2 b3
    obtain ⟨b0, b1, b2, b3⟩ := pair_cells hb
    have hd := heap_below hs Hd.out
    clear Hd d0 d1 d2 d3
    obtain ⟨d0, d1, d2, d3⟩ := pair_cells hd
    have Hs := Lib.hid hs; have Hb2 := Lib.hid hb2; have Ha := Lib.hid ha; have Hb := Lib.hid hb; have Hd := Lib.hid hd; clear hs hb2 ha hb hd
    cases gr2 with
    | false =>
      go_wp2_with fail
      refine (HG3.out _ Hb2.out).mono ?_
      rintro e w3 ⟨rfl, hs⟩
      have hb3 := Hb2.out.trans (hs.mono Hb2.out.size)
      have ha := heap_below hs Ha.out
      clear Ha a0 a1 a2 a3
      obtain ⟨a0, a1, a2, a3⟩ := pair_cells ha
      have hb := heap_below hs Hb.out
      clear Hb b0 b1 b2 b3
      obtain ⟨b0, b1, b2, b3⟩ := pair_cells hb
      have hd := heap_below hs Hd.out
      clear Hd d0 d1 d2 d3
      obtain ⟨d0, d1, d2, d3⟩ := pair_cells hd
      have Hs := Lib.hid hs; have Hb3 := Lib.hid hb3; have Ha := Lib.hid ha; have Hb := Lib.hid hb; have Hd := Lib.hid hd; clear hs hb3 ha hb hd
      cases gr3 with
      | false =>
        cases gv with
        | false =>
          have hz := great_small Hgr.out
          have hz2 := great_small Hgr2.out
          have hz3 := great_small Hgr3.out
          have hv := Hgv.out rfl
          have hl : lo.size ≤ 1000000 := by omega
          have hh : hi.size ≤ 1000000 := by omega
          have hl2 : lp.size ≤ 1000000 := by omega
          have hh2 : hj.size ≤ 1000000 := by omega
          have hl3 : lq.size ≤ 1000000 := by omega
          have hh3 : hk.size ≤ 1000000 := by omega
          have hv2 : v.size ≤ 1000000 := by omega
          have hms := jnV_size hl hh hl2 hh2
          have hjd := jnV_data lo hi lp hj
          obtain ⟨x, hx⟩ : ∃ x, x = (jnV lo hi lp hj).1 := ⟨_, rfl⟩
          obtain ⟨y, hy⟩ : ∃ x, x = (jnV lo hi lp hj).2 := ⟨_, rfl⟩
          obtain ⟨p, hp⟩ : ∃ z, z = mayS (lo.data.toList, hi.data.toList) := ⟨_, rfl⟩
          obtain ⟨q, hq⟩ : ∃ z, z = mayS (lp.data.toList, hj.data.toList) := ⟨_, rfl⟩
          have hJ := fun (W : World) (k : Below w0.heap.size w0 W) => join_any lo hi lp hj hl hh hl2 hh2 (HD.out.below (below_on Hw.out k))
          have hP := fun (W : World) (_ : Below w0.heap.size w0 W) => refMay2_any lo hi hl hh W
          have hQ := fun (W : World) (_ : Below w0.heap.size w0 W) => refMay2_any lp hj hl2 hh2 W
          have hX := fun (W : World) (_ : Below w0.heap.size w0 W) => refHas2_any lo hi v hl hh hv2 W
          have hY := fun (W : World) (_ : Below w0.heap.size w0 W) => refHas2_any lp hj v hl2 hh2 hv2 W
          have hZ := fun (W : World) (_ : Below w0.heap.size w0 W) => refHas2_any lq hk v hl3 hh3 hv2 W
          rw [← hx, ← hy] at hms hjd hJ
          rw [← hp] at hP
          rw [← hq] at hQ
          have hS := fun (W : World) (_ : Below w0.heap.size w0 W) => refHas2_any x y v hms.1 hms.2 hv2 W
          have hWa := fun (W : World) (k : Below w0.heap.size w0 W) => within_any lo hi x y hl hh hms.1 hms.2 (HD.out.below (below_on Hw.out k))
          have hWb := fun (W : World) (k : Below w0.heap.size w0 W) => within_any lp hj x y hl2 hh2 hms.1 hms.2 (HD.out.below (below_on Hw.out k))
          have hUa := fun (W : World) (k : Below w0.heap.size w0 W) => within_any lo hi lq hk hl hh hl3 hh3 (HD.out.below (below_on Hw.out k))
          have hUb := fun (W : World) (k : Below w0.heap.size w0 W) => within_any lp hj lq hk hl2 hh2 hl3 hh3 (HD.out.below (below_on Hw.out k))
          have hUs := fun (W : World) (k : Below w0.heap.size w0 W) => within_any x y lq hk hms.1 hms.2 hl3 hh3 (HD.out.below (below_on Hw.out k))
          obtain ⟨i1, hi1⟩ : ∃ z, z = hasS (lo.data.toList, hi.data.toList) v.data.toList := ⟨_, rfl⟩
          obtain ⟨i2, hi2⟩ : ∃ z, z = hasS (lp.data.toList, hj.data.toList) v.data.toList := ⟨_, rfl⟩
          obtain ⟨i3, hi3⟩ : ∃ z, z = hasS (x.data.toList, y.data.toList) v.data.toList := ⟨_, rfl⟩
          obtain ⟨i4, hi4⟩ : ∃ z, z = hasS (lq.data.toList, hk.data.toList) v.data.toList := ⟨_, rfl⟩
          obtain ⟨wa, hwa⟩ : ∃ z, z = withinB (lo.data.toList, hi.data.toList) (x.data.toList, y.data.toList) := ⟨_, rfl⟩
          obtain ⟨wb, hwb⟩ : ∃ z, z = withinB (lp.data.toList, hj.data.toList) (x.data.toList, y.data.toList) := ⟨_, rfl⟩
          obtain ⟨u1, hu1⟩ : ∃ z, z = withinB (lo.data.toList, hi.data.toList) (lq.data.toList, hk.data.toList) := ⟨_, rfl⟩
          obtain ⟨u2, hu2⟩ : ∃ z, z = withinB (lp.data.toList, hj.data.toList) (lq.data.toList, hk.data.toList) := ⟨_, rfl⟩
          obtain ⟨u3, hu3⟩ : ∃ z, z = withinB (x.data.toList, y.data.toList) (lq.data.toList, hk.data.toList) := ⟨_, rfl⟩
          have hempty : p = false ∨ q = false → x = ⟨#[]⟩ ∧ y = ⟨#[]⟩ := fun h => by
            have e : jnV lo hi lp hj = (⟨#[]⟩, ⟨#[]⟩) := by
              unfold jnV
              rw [← hp, ← hq, if_neg]
              rintro ⟨h1, h2⟩
              rcases h with h | h
              · rw [h1] at h; cases h
              · rw [h2] at h; cases h
            rw [hx, hy, e]
            exact ⟨rfl, rfl⟩
          have hboth : p = true → q = true → wa = true ∧ wb = true ∧ (i1 = true → i3 = true) ∧ (i2 = true → i3 = true) := fun h1 h2 => by
            rw [hp] at h1
            rw [hq] at h2
            have h := within_left h1 h2
            rw [← hjd] at h
            refine ⟨by rw [hwa]; exact h.1, by rw [hwb]; exact h.2, fun e => ?_, fun e => ?_⟩
            · rw [hi3]; rw [hi1] at e; exact within_has h.1 e
            · rw [hi3]; rw [hi2] at e; exact within_has h.2 e
          have hleast : u1 = true → u2 = true → u3 = true := fun h1 h2 => by
            rw [hu1] at h1
            rw [hu2] at h2
            rw [hu3, hjd]
            exact join_least h1 h2
          have hmore : u1 = true → i1 = true → i4 = true := fun h1 h2 => by
            rw [hu1] at h1
            rw [hi1] at h2
            rw [hi4]
            exact within_has h1 h2
          rw [← hi1] at hX
          rw [← hi2] at hY
          rw [← hi3] at hS
          rw [← hi4] at hZ
          rw [← hwa] at hWa
          rw [← hwb] at hWb
          rw [← hu1] at hUa
          rw [← hu2] at hUb
          rw [← hu3] at hUs
          have hee := spn_eqs x y ⟨#[]⟩ ⟨#[]⟩
          clear hx hy hp hq hi1 hi2 hi3 hi4 hwa hwb hu1 hu2 hu3 hjd
          have HJ := Lib.hid hJ; have HP := Lib.hid hP; have HQ := Lib.hid hQ; have HX := Lib.hid hX; have HY := Lib.hid hY; have HZ := Lib.hid hZ; have HS := Lib.hid hS; have HWa := Lib.hid hWa; have HWb := Lib.hid hWb; have HUa := Lib.hid hUa; have HUb := Lib.hid hUb; have HUs := Lib.hid hUs; have Hempty := Lib.hid hempty; have Hboth := Lib.hid hboth; have Hleast := Lib.hid hleast; have Hmore := Lib.hid hmore; have Hz := Lib.hid hz; have Hz2 := Lib.hid hz2; have Hz3 := Lib.hid hz3; have Hms := Lib.hid hms; clear hJ hP hQ hX hY hZ hS hWa hWb hUa hUb hUs hempty hboth hleast hmore hz hz2 hz3 hms
          go_wp2_with fail
          refine (HJ.out _ Hb3.out).mono ?_
          rintro e w4 ⟨rfl, hs⟩
          have hb4 := Hb3.out.trans (hs.mono Hb3.out.size)
          have ha := heap_below hs Ha.out
          clear Ha a0 a1 a2 a3
          obtain ⟨a0, a1, a2, a3⟩ := pair_cells ha
          have hb := heap_below hs Hb.out
          clear Hb b0 b1 b2 b3
          obtain ⟨b0, b1, b2, b3⟩ := pair_cells hb
          have hd := heap_below hs Hd.out
          clear Hd d0 d1 d2 d3
          obtain ⟨d0, d1, d2, d3⟩ := pair_cells hd
          have Hs := Lib.hid hs; have Hb4 := Lib.hid hb4; have Ha := Lib.hid ha; have Hb := Lib.hid hb; have Hd := Lib.hid hd; clear hs hb4 ha hb hd
          go_upto_region 4 with (fail)
          obtain ⟨w5, hv⟩ : ∃ W, W = w4.alloc (.cells #[.string x, .string y] 33) := ⟨_, rfl⟩
          obtain ⟨gm, hg⟩ : ∃ g, g = w4.heap.size := ⟨_, rfl⟩
          have hs : Below w4.heap.size w4 w5 := by rw [hv]; exact below_alloc1 _ _
          have hb5 := Hb4.out.trans (hs.mono Hb4.out.size)
          have hgem : w0.heap.size ≤ gm := by rw [hg]; exact Hb4.out.size
          have hneam : nb ≠ gm := by have := (Array.getElem?_eq_some_iff.1 Ha.out).1; omega
          have hnebm : nb + 1 ≠ gm := by have := (Array.getElem?_eq_some_iff.1 Hb.out).1; omega
          have hnedm : nb + 1 + 1 ≠ gm := by have := (Array.getElem?_eq_some_iff.1 Hd.out).1; omega
          have ha := heap_below hs Ha.out
          clear Ha a0 a1 a2 a3
          obtain ⟨a0, a1, a2, a3⟩ := pair_cells ha
          have hb := heap_below hs Hb.out
          clear Hb b0 b1 b2 b3
          obtain ⟨b0, b1, b2, b3⟩ := pair_cells hb
          have hd := heap_below hs Hd.out
          clear Hd d0 d1 d2 d3
          obtain ⟨d0, d1, d2, d3⟩ := pair_cells hd
          have hm : w5.heap[gm]? = some (.cells #[.string x, .string y] 33 (0, 0)) := by rw [hv, hg]; exact heap_alloc_new _ _
          obtain ⟨m0, m1, m2, m3⟩ := pair_cells hm
          rw [← hv, ← hg]
          clear hv hg
          have Hs := Lib.hid hs; have Hb5 := Lib.hid hb5; have Hgem := Lib.hid hgem; have Ha := Lib.hid ha; have Hb := Lib.hid hb; have Hd := Lib.hid hd; have Hm := Lib.hid hm; have Hneam := Lib.hid hneam; have Hnebm := Lib.hid hnebm; have Hnedm := Lib.hid hnedm; clear hs hb5 hgem ha hb hd hm hneam hnebm hnedm
          go_wp2_with fail
          refine (HP.out _ Hb5.out).mono ?_
          rintro e w6 ⟨rfl, hs⟩
          have hb6 := Hb5.out.trans (hs.mono Hb5.out.size)
          have ha := heap_below hs Ha.out
          clear Ha a0 a1 a2 a3
          obtain ⟨a0, a1, a2, a3⟩ := pair_cells ha
          have hb := heap_below hs Hb.out
          clear Hb b0 b1 b2 b3
          obtain ⟨b0, b1, b2, b3⟩ := pair_cells hb
          have hd := heap_below hs Hd.out
          clear Hd d0 d1 d2 d3
          obtain ⟨d0, d1, d2, d3⟩ := pair_cells hd
          have hm := heap_below hs Hm.out
          clear Hm m0 m1 m2 m3
          obtain ⟨m0, m1, m2, m3⟩ := pair_cells hm
          have Hs := Lib.hid hs; have Hb6 := Lib.hid hb6; have Ha := Lib.hid ha; have Hb := Lib.hid hb; have Hd := Lib.hid hd; have Hm := Lib.hid hm; clear hs hb6 ha hb hd hm
          cases p with
          | false =>
            obtain ⟨hx, hy⟩ := Hempty.out (.inl (by first | rfl | trivial))
            have k5 : decide (x = ⟨#[]⟩) = true := decide_eq_true hx
            have k6 : decide (y = ⟨#[]⟩) = true := decide_eq_true hy
            clear hx hy
            go_wp2_with fail
            refine (HF.out _ Hb6.out).mono ?_
            rintro e w7 ⟨rfl, hs⟩
            have hb7 := Hb6.out.trans (hs.mono Hb6.out.size)
            have ha := heap_below hs Ha.out
            clear Ha a0 a1 a2 a3
            obtain ⟨a0, a1, a2, a3⟩ := pair_cells ha
            have hb := heap_below hs Hb.out
            clear Hb b0 b1 b2 b3
            obtain ⟨b0, b1, b2, b3⟩ := pair_cells hb
            have hd := heap_below hs Hd.out
            clear Hd d0 d1 d2 d3
            obtain ⟨d0, d1, d2, d3⟩ := pair_cells hd
            have hm := heap_below hs Hm.out
            clear Hm m0 m1 m2 m3
            obtain ⟨m0, m1, m2, m3⟩ := pair_cells hm
            have Hs := Lib.hid hs; have Hb7 := Lib.hid hb7; have Ha := Lib.hid ha; have Hb := Lib.hid hb; have Hd := Lib.hid hd; have Hm := Lib.hid hm; clear hs hb7 ha hb hd hm
            go_wp2_with fail
            go_ret
            exact ⟨by first | rfl | simp, below_on Hw.out Hb7.out⟩
          | true =>
            go_wp2_with fail
            refine (HQ.out _ Hb6.out).mono ?_
            rintro e w7 ⟨rfl, hs⟩
            have hb7 := Hb6.out.trans (hs.mono Hb6.out.size)
            have ha := heap_below hs Ha.out
            clear Ha a0 a1 a2 a3
            obtain ⟨a0, a1, a2, a3⟩ := pair_cells ha
            have hb := heap_below hs Hb.out
            clear Hb b0 b1 b2 b3
            obtain ⟨b0, b1, b2, b3⟩ := pair_cells hb
            have hd := heap_below hs Hd.out
            clear Hd d0 d1 d2 d3
            obtain ⟨d0, d1, d2, d3⟩ := pair_cells hd
            have hm := heap_below hs Hm.out
            clear Hm m0 m1 m2 m3
            obtain ⟨m0, m1, m2, m3⟩ := pair_cells hm
            have Hs := Lib.hid hs; have Hb7 := Lib.hid hb7; have Ha := Lib.hid ha; have Hb := Lib.hid hb; have Hd := Lib.hid hd; have Hm := Lib.hid hm; clear hs hb7 ha hb hd hm
            cases q with
            | false =>
              obtain ⟨hx, hy⟩ := Hempty.out (.inr (by first | rfl | trivial))
              have k5 : decide (x = ⟨#[]⟩) = true := decide_eq_true hx
              have k6 : decide (y = ⟨#[]⟩) = true := decide_eq_true hy
              clear hx hy
              go_wp2_with fail
              refine (HF.out _ Hb7.out).mono ?_
              rintro e w8 ⟨rfl, hs⟩
              have hb8 := Hb7.out.trans (hs.mono Hb7.out.size)
              have ha := heap_below hs Ha.out
              clear Ha a0 a1 a2 a3
              obtain ⟨a0, a1, a2, a3⟩ := pair_cells ha
              have hb := heap_below hs Hb.out
              clear Hb b0 b1 b2 b3
              obtain ⟨b0, b1, b2, b3⟩ := pair_cells hb
              have hd := heap_below hs Hd.out
              clear Hd d0 d1 d2 d3
              obtain ⟨d0, d1, d2, d3⟩ := pair_cells hd
              have hm := heap_below hs Hm.out
              clear Hm m0 m1 m2 m3
              obtain ⟨m0, m1, m2, m3⟩ := pair_cells hm
              have Hs := Lib.hid hs; have Hb8 := Lib.hid hb8; have Ha := Lib.hid ha; have Hb := Lib.hid hb; have Hd := Lib.hid hd; have Hm := Lib.hid hm; clear hs hb8 ha hb hd hm
              go_wp2_with fail
              go_ret
              exact ⟨by first | rfl | simp, below_on Hw.out Hb8.out⟩
            | true =>
              obtain ⟨rfl, rfl, h13, h23⟩ := Hboth.out (by first | rfl | trivial) (by first | rfl | trivial)
              have H13 := Lib.hid h13; have H23 := Lib.hid h23; clear h13 h23
              go_wp2_with fail
              refine (HX.out _ Hb7.out).mono ?_
              rintro e w8 ⟨rfl, hs⟩
              have hb8 := Hb7.out.trans (hs.mono Hb7.out.size)
              have ha := heap_below hs Ha.out
              clear Ha a0 a1 a2 a3
              obtain ⟨a0, a1, a2, a3⟩ := pair_cells ha
              have hb := heap_below hs Hb.out
              clear Hb b0 b1 b2 b3
              obtain ⟨b0, b1, b2, b3⟩ := pair_cells hb
              have hd := heap_below hs Hd.out
              clear Hd d0 d1 d2 d3
              obtain ⟨d0, d1, d2, d3⟩ := pair_cells hd
              have hm := heap_below hs Hm.out
              clear Hm m0 m1 m2 m3
              obtain ⟨m0, m1, m2, m3⟩ := pair_cells hm
              have Hs := Lib.hid hs; have Hb8 := Lib.hid hb8; have Ha := Lib.hid ha; have Hb := Lib.hid hb; have Hd := Lib.hid hd; have Hm := Lib.hid hm; clear hs hb8 ha hb hd hm
              cases i1 with
              | false =>
                go_wp2_with fail
                refine (HY.out _ Hb8.out).mono ?_
                rintro e w9 ⟨rfl, hs⟩
                have hb9 := Hb8.out.trans (hs.mono Hb8.out.size)
                have ha := heap_below hs Ha.out
                clear Ha a0 a1 a2 a3
                obtain ⟨a0, a1, a2, a3⟩ := pair_cells ha
                have hb := heap_below hs Hb.out
                clear Hb b0 b1 b2 b3
                obtain ⟨b0, b1, b2, b3⟩ := pair_cells hb
                have hd := heap_below hs Hd.out
                clear Hd d0 d1 d2 d3
                obtain ⟨d0, d1, d2, d3⟩ := pair_cells hd
                have hm := heap_below hs Hm.out
                clear Hm m0 m1 m2 m3
                obtain ⟨m0, m1, m2, m3⟩ := pair_cells hm
                have Hs := Lib.hid hs; have Hb9 := Lib.hid hb9; have Ha := Lib.hid ha; have Hb := Lib.hid hb; have Hd := Lib.hid hd; have Hm := Lib.hid hm; clear hs hb9 ha hb hd hm
                cases i2 with
                | false =>
                  go_wp2_with fail
                  refine (HWa.out _ Hb9.out).mono ?_
                  rintro e w10 ⟨rfl, hs⟩
                  have hb10 := Hb9.out.trans (hs.mono Hb9.out.size)
                  have ha := heap_below hs Ha.out
                  clear Ha a0 a1 a2 a3
                  obtain ⟨a0, a1, a2, a3⟩ := pair_cells ha
                  have hb := heap_below hs Hb.out
                  clear Hb b0 b1 b2 b3
                  obtain ⟨b0, b1, b2, b3⟩ := pair_cells hb
                  have hd := heap_below hs Hd.out
                  clear Hd d0 d1 d2 d3
                  obtain ⟨d0, d1, d2, d3⟩ := pair_cells hd
                  have hm := heap_below hs Hm.out
                  clear Hm m0 m1 m2 m3
                  obtain ⟨m0, m1, m2, m3⟩ := pair_cells hm
                  have Hs := Lib.hid hs; have Hb10 := Lib.hid hb10; have Ha := Lib.hid ha; have Hb := Lib.hid hb; have Hd := Lib.hid hd; have Hm := Lib.hid hm; clear hs hb10 ha hb hd hm
                  go_wp2_with fail
                  refine (HWb.out _ Hb10.out).mono ?_
                  rintro e w11 ⟨rfl, hs⟩
                  have hb11 := Hb10.out.trans (hs.mono Hb10.out.size)
                  have ha := heap_below hs Ha.out
                  clear Ha a0 a1 a2 a3
                  obtain ⟨a0, a1, a2, a3⟩ := pair_cells ha
                  have hb := heap_below hs Hb.out
                  clear Hb b0 b1 b2 b3
                  obtain ⟨b0, b1, b2, b3⟩ := pair_cells hb
                  have hd := heap_below hs Hd.out
                  clear Hd d0 d1 d2 d3
                  obtain ⟨d0, d1, d2, d3⟩ := pair_cells hd
                  have hm := heap_below hs Hm.out
                  clear Hm m0 m1 m2 m3
                  obtain ⟨m0, m1, m2, m3⟩ := pair_cells hm
                  have Hs := Lib.hid hs; have Hb11 := Lib.hid hb11; have Ha := Lib.hid ha; have Hb := Lib.hid hb; have Hd := Lib.hid hd; have Hm := Lib.hid hm; clear hs hb11 ha hb hd hm
                  go_wp2_with fail
                  refine (HF.out _ Hb11.out).mono ?_
                  rintro e w12 ⟨rfl, hs⟩
                  have hb12 := Hb11.out.trans (hs.mono Hb11.out.size)
                  have ha := heap_below hs Ha.out
                  clear Ha a0 a1 a2 a3
                  obtain ⟨a0, a1, a2, a3⟩ := pair_cells ha
                  have hb := heap_below hs Hb.out
                  clear Hb b0 b1 b2 b3
                  obtain ⟨b0, b1, b2, b3⟩ := pair_cells hb
                  have hd := heap_below hs Hd.out
                  clear Hd d0 d1 d2 d3
                  obtain ⟨d0, d1, d2, d3⟩ := pair_cells hd
                  have hm := heap_below hs Hm.out
                  clear Hm m0 m1 m2 m3
                  obtain ⟨m0, m1, m2, m3⟩ := pair_cells hm
                  have Hs := Lib.hid hs; have Hb12 := Lib.hid hb12; have Ha := Lib.hid ha; have Hb := Lib.hid hb; have Hd := Lib.hid hd; have Hm := Lib.hid hm; clear hs hb12 ha hb hd hm
                  go_wp2_with fail
                  refine (HUa.out _ Hb12.out).mono ?_
                  rintro e w13 ⟨rfl, hs⟩
                  have hb13 := Hb12.out.trans (hs.mono Hb12.out.size)
                  have ha := heap_below hs Ha.out
                  clear Ha a0 a1 a2 a3
                  obtain ⟨a0, a1, a2, a3⟩ := pair_cells ha
                  have hb := heap_below hs Hb.out
                  clear Hb b0 b1 b2 b3
                  obtain ⟨b0, b1, b2, b3⟩ := pair_cells hb
                  have hd := heap_below hs Hd.out
                  clear Hd d0 d1 d2 d3
                  obtain ⟨d0, d1, d2, d3⟩ := pair_cells hd
                  have hm := heap_below hs Hm.out
                  clear Hm m0 m1 m2 m3
                  obtain ⟨m0, m1, m2, m3⟩ := pair_cells hm
                  have Hs := Lib.hid hs; have Hb13 := Lib.hid hb13; have Ha := Lib.hid ha; have Hb := Lib.hid hb; have Hd := Lib.hid hd; have Hm := Lib.hid hm; clear hs hb13 ha hb hd hm
                  cases u1 with
                  | false =>
                    go_wp2_with fail
                    refine (HUa.out _ Hb13.out).mono ?_
                    rintro e w14 ⟨rfl, hs⟩
                    have hb14 := Hb13.out.trans (hs.mono Hb13.out.size)
                    have ha := heap_below hs Ha.out
                    clear Ha a0 a1 a2 a3
                    obtain ⟨a0, a1, a2, a3⟩ := pair_cells ha
                    have hb := heap_below hs Hb.out
                    clear Hb b0 b1 b2 b3
                    obtain ⟨b0, b1, b2, b3⟩ := pair_cells hb
                    have hd := heap_below hs Hd.out
                    clear Hd d0 d1 d2 d3
                    obtain ⟨d0, d1, d2, d3⟩ := pair_cells hd
                    have hm := heap_below hs Hm.out
                    clear Hm m0 m1 m2 m3
                    obtain ⟨m0, m1, m2, m3⟩ := pair_cells hm
                    have Hs := Lib.hid hs; have Hb14 := Lib.hid hb14; have Ha := Lib.hid ha; have Hb := Lib.hid hb; have Hd := Lib.hid hd; have Hm := Lib.hid hm; clear hs hb14 ha hb hd hm
                    go_wp2_with fail
                    go_ret
                    exact ⟨by first | rfl | simp, below_on Hw.out Hb14.out⟩
                  | true =>
                    go_wp2_with fail
                    refine (HUb.out _ Hb13.out).mono ?_
                    rintro e w14 ⟨rfl, hs⟩
                    have hb14 := Hb13.out.trans (hs.mono Hb13.out.size)
                    have ha := heap_below hs Ha.out
                    clear Ha a0 a1 a2 a3
                    obtain ⟨a0, a1, a2, a3⟩ := pair_cells ha
                    have hb := heap_below hs Hb.out
                    clear Hb b0 b1 b2 b3
                    obtain ⟨b0, b1, b2, b3⟩ := pair_cells hb
                    have hd := heap_below hs Hd.out
                    clear Hd d0 d1 d2 d3
                    obtain ⟨d0, d1, d2, d3⟩ := pair_cells hd
                    have hm := heap_below hs Hm.out
                    clear Hm m0 m1 m2 m3
                    obtain ⟨m0, m1, m2, m3⟩ := pair_cells hm
                    have Hs := Lib.hid hs; have Hb14 := Lib.hid hb14; have Ha := Lib.hid ha; have Hb := Lib.hid hb; have Hd := Lib.hid hd; have Hm := Lib.hid hm; clear hs hb14 ha hb hd hm
                    cases u2 with
                    | false =>
                      go_wp2_with fail
                      refine (HUa.out _ Hb14.out).mono ?_
                      rintro e w15 ⟨rfl, hs⟩
                      have hb15 := Hb14.out.trans (hs.mono Hb14.out.size)
                      have ha := heap_below hs Ha.out
                      clear Ha a0 a1 a2 a3
                      obtain ⟨a0, a1, a2, a3⟩ := pair_cells ha
                      have hb := heap_below hs Hb.out
                      clear Hb b0 b1 b2 b3
                      obtain ⟨b0, b1, b2, b3⟩ := pair_cells hb
                      have hd := heap_below hs Hd.out
                      clear Hd d0 d1 d2 d3
                      obtain ⟨d0, d1, d2, d3⟩ := pair_cells hd
                      have hm := heap_below hs Hm.out
                      clear Hm m0 m1 m2 m3
                      obtain ⟨m0, m1, m2, m3⟩ := pair_cells hm
                      have Hs := Lib.hid hs; have Hb15 := Lib.hid hb15; have Ha := Lib.hid ha; have Hb := Lib.hid hb; have Hd := Lib.hid hd; have Hm := Lib.hid hm; clear hs hb15 ha hb hd hm
                      go_wp2_with fail
                      refine (HX.out _ Hb15.out).mono ?_
                      rintro e w16 ⟨rfl, hs⟩
                      have hb16 := Hb15.out.trans (hs.mono Hb15.out.size)
                      have ha := heap_below hs Ha.out
                      clear Ha a0 a1 a2 a3
                      obtain ⟨a0, a1, a2, a3⟩ := pair_cells ha
                      have hb := heap_below hs Hb.out
                      clear Hb b0 b1 b2 b3
                      obtain ⟨b0, b1, b2, b3⟩ := pair_cells hb
                      have hd := heap_below hs Hd.out
                      clear Hd d0 d1 d2 d3
                      obtain ⟨d0, d1, d2, d3⟩ := pair_cells hd
                      have hm := heap_below hs Hm.out
                      clear Hm m0 m1 m2 m3
                      obtain ⟨m0, m1, m2, m3⟩ := pair_cells hm
                      have Hs := Lib.hid hs; have Hb16 := Lib.hid hb16; have Ha := Lib.hid ha; have Hb := Lib.hid hb; have Hd := Lib.hid hd; have Hm := Lib.hid hm; clear hs hb16 ha hb hd hm
                      go_wp2_with fail
                      go_ret
                      exact ⟨by first | rfl | simp, below_on Hw.out Hb16.out⟩
                    | true =>
                      obtain rfl := Hleast.out (by first | rfl | trivial) (by first | rfl | trivial)
                      go_wp2_with fail
                      refine (HUs.out _ Hb14.out).mono ?_
                      rintro e w15 ⟨rfl, hs⟩
                      have hb15 := Hb14.out.trans (hs.mono Hb14.out.size)
                      have ha := heap_below hs Ha.out
                      clear Ha a0 a1 a2 a3
                      obtain ⟨a0, a1, a2, a3⟩ := pair_cells ha
                      have hb := heap_below hs Hb.out
                      clear Hb b0 b1 b2 b3
                      obtain ⟨b0, b1, b2, b3⟩ := pair_cells hb
                      have hd := heap_below hs Hd.out
                      clear Hd d0 d1 d2 d3
                      obtain ⟨d0, d1, d2, d3⟩ := pair_cells hd
                      have hm := heap_below hs Hm.out
                      clear Hm m0 m1 m2 m3
                      obtain ⟨m0, m1, m2, m3⟩ := pair_cells hm
                      have Hs := Lib.hid hs; have Hb15 := Lib.hid hb15; have Ha := Lib.hid ha; have Hb := Lib.hid hb; have Hd := Lib.hid hd; have Hm := Lib.hid hm; clear hs hb15 ha hb hd hm
                      go_wp2_with fail
                      refine (HUa.out _ Hb15.out).mono ?_
                      rintro e w16 ⟨rfl, hs⟩
                      have hb16 := Hb15.out.trans (hs.mono Hb15.out.size)
                      have ha := heap_below hs Ha.out
                      clear Ha a0 a1 a2 a3
                      obtain ⟨a0, a1, a2, a3⟩ := pair_cells ha
                      have hb := heap_below hs Hb.out
                      clear Hb b0 b1 b2 b3
                      obtain ⟨b0, b1, b2, b3⟩ := pair_cells hb
                      have hd := heap_below hs Hd.out
                      clear Hd d0 d1 d2 d3
                      obtain ⟨d0, d1, d2, d3⟩ := pair_cells hd
                      have hm := heap_below hs Hm.out
                      clear Hm m0 m1 m2 m3
                      obtain ⟨m0, m1, m2, m3⟩ := pair_cells hm
                      have Hs := Lib.hid hs; have Hb16 := Lib.hid hb16; have Ha := Lib.hid ha; have Hb := Lib.hid hb; have Hd := Lib.hid hd; have Hm := Lib.hid hm; clear hs hb16 ha hb hd hm
                      go_wp2_with fail
                      refine (HX.out _ Hb16.out).mono ?_
                      rintro e w17 ⟨rfl, hs⟩
                      have hb17 := Hb16.out.trans (hs.mono Hb16.out.size)
                      have ha := heap_below hs Ha.out
                      clear Ha a0 a1 a2 a3
                      obtain ⟨a0, a1, a2, a3⟩ := pair_cells ha
                      have hb := heap_below hs Hb.out
                      clear Hb b0 b1 b2 b3
                      obtain ⟨b0, b1, b2, b3⟩ := pair_cells hb
                      have hd := heap_below hs Hd.out
                      clear Hd d0 d1 d2 d3
                      obtain ⟨d0, d1, d2, d3⟩ := pair_cells hd
                      have hm := heap_below hs Hm.out
                      clear Hm m0 m1 m2 m3
                      obtain ⟨m0, m1, m2, m3⟩ := pair_cells hm
                      have Hs := Lib.hid hs; have Hb17 := Lib.hid hb17; have Ha := Lib.hid ha; have Hb := Lib.hid hb; have Hd := Lib.hid hd; have Hm := Lib.hid hm; clear hs hb17 ha hb hd hm
                      go_wp2_with fail
                      go_ret
                      exact ⟨by first | rfl | simp, below_on Hw.out Hb17.out⟩
                | true =>
                  obtain rfl := H23.out (by first | rfl | trivial)
                  go_wp2_with fail
                  refine (HS.out _ Hb9.out).mono ?_
                  rintro e w10 ⟨rfl, hs⟩
                  have hb10 := Hb9.out.trans (hs.mono Hb9.out.size)
                  have ha := heap_below hs Ha.out
                  clear Ha a0 a1 a2 a3
                  obtain ⟨a0, a1, a2, a3⟩ := pair_cells ha
                  have hb := heap_below hs Hb.out
                  clear Hb b0 b1 b2 b3
                  obtain ⟨b0, b1, b2, b3⟩ := pair_cells hb
                  have hd := heap_below hs Hd.out
                  clear Hd d0 d1 d2 d3
                  obtain ⟨d0, d1, d2, d3⟩ := pair_cells hd
                  have hm := heap_below hs Hm.out
                  clear Hm m0 m1 m2 m3
                  obtain ⟨m0, m1, m2, m3⟩ := pair_cells hm
                  have Hs := Lib.hid hs; have Hb10 := Lib.hid hb10; have Ha := Lib.hid ha; have Hb := Lib.hid hb; have Hd := Lib.hid hd; have Hm := Lib.hid hm; clear hs hb10 ha hb hd hm
                  go_wp2_with fail
                  refine (HWa.out _ Hb10.out).mono ?_
                  rintro e w11 ⟨rfl, hs⟩
                  have hb11 := Hb10.out.trans (hs.mono Hb10.out.size)
                  have ha := heap_below hs Ha.out
                  clear Ha a0 a1 a2 a3
                  obtain ⟨a0, a1, a2, a3⟩ := pair_cells ha
                  have hb := heap_below hs Hb.out
                  clear Hb b0 b1 b2 b3
                  obtain ⟨b0, b1, b2, b3⟩ := pair_cells hb
                  have hd := heap_below hs Hd.out
                  clear Hd d0 d1 d2 d3
                  obtain ⟨d0, d1, d2, d3⟩ := pair_cells hd
                  have hm := heap_below hs Hm.out
                  clear Hm m0 m1 m2 m3
                  obtain ⟨m0, m1, m2, m3⟩ := pair_cells hm
                  have Hs := Lib.hid hs; have Hb11 := Lib.hid hb11; have Ha := Lib.hid ha; have Hb := Lib.hid hb; have Hd := Lib.hid hd; have Hm := Lib.hid hm; clear hs hb11 ha hb hd hm
                  go_wp2_with fail
                  refine (HWb.out _ Hb11.out).mono ?_
                  rintro e w12 ⟨rfl, hs⟩
                  have hb12 := Hb11.out.trans (hs.mono Hb11.out.size)
                  have ha := heap_below hs Ha.out
                  clear Ha a0 a1 a2 a3
                  obtain ⟨a0, a1, a2, a3⟩ := pair_cells ha
                  have hb := heap_below hs Hb.out
                  clear Hb b0 b1 b2 b3
                  obtain ⟨b0, b1, b2, b3⟩ := pair_cells hb
                  have hd := heap_below hs Hd.out
                  clear Hd d0 d1 d2 d3
                  obtain ⟨d0, d1, d2, d3⟩ := pair_cells hd
                  have hm := heap_below hs Hm.out
                  clear Hm m0 m1 m2 m3
                  obtain ⟨m0, m1, m2, m3⟩ := pair_cells hm
                  have Hs := Lib.hid hs; have Hb12 := Lib.hid hb12; have Ha := Lib.hid ha; have Hb := Lib.hid hb; have Hd := Lib.hid hd; have Hm := Lib.hid hm; clear hs hb12 ha hb hd hm
                  go_wp2_with fail
                  refine (HF.out _ Hb12.out).mono ?_
                  rintro e w13 ⟨rfl, hs⟩
                  have hb13 := Hb12.out.trans (hs.mono Hb12.out.size)
                  have ha := heap_below hs Ha.out
                  clear Ha a0 a1 a2 a3
                  obtain ⟨a0, a1, a2, a3⟩ := pair_cells ha
                  have hb := heap_below hs Hb.out
                  clear Hb b0 b1 b2 b3
                  obtain ⟨b0, b1, b2, b3⟩ := pair_cells hb
                  have hd := heap_below hs Hd.out
                  clear Hd d0 d1 d2 d3
                  obtain ⟨d0, d1, d2, d3⟩ := pair_cells hd
                  have hm := heap_below hs Hm.out
                  clear Hm m0 m1 m2 m3
                  obtain ⟨m0, m1, m2, m3⟩ := pair_cells hm
                  have Hs := Lib.hid hs; have Hb13 := Lib.hid hb13; have Ha := Lib.hid ha; have Hb := Lib.hid hb; have Hd := Lib.hid hd; have Hm := Lib.hid hm; clear hs hb13 ha hb hd hm
                  go_wp2_with fail
                  refine (HUa.out _ Hb13.out).mono ?_
                  rintro e w14 ⟨rfl, hs⟩
                  have hb14 := Hb13.out.trans (hs.mono Hb13.out.size)
                  have ha := heap_below hs Ha.out
                  clear Ha a0 a1 a2 a3
                  obtain ⟨a0, a1, a2, a3⟩ := pair_cells ha
                  have hb := heap_below hs Hb.out
                  clear Hb b0 b1 b2 b3
                  obtain ⟨b0, b1, b2, b3⟩ := pair_cells hb
                  have hd := heap_below hs Hd.out
                  clear Hd d0 d1 d2 d3
                  obtain ⟨d0, d1, d2, d3⟩ := pair_cells hd
                  have hm := heap_below hs Hm.out
                  clear Hm m0 m1 m2 m3
                  obtain ⟨m0, m1, m2, m3⟩ := pair_cells hm
                  have Hs := Lib.hid hs; have Hb14 := Lib.hid hb14; have Ha := Lib.hid ha; have Hb := Lib.hid hb; have Hd := Lib.hid hd; have Hm := Lib.hid hm; clear hs hb14 ha hb hd hm
                  cases u1 with
                  | false =>
                    go_wp2_with fail
                    refine (HUa.out _ Hb14.out).mono ?_
                    rintro e w15 ⟨rfl, hs⟩
                    have hb15 := Hb14.out.trans (hs.mono Hb14.out.size)
                    have ha := heap_below hs Ha.out
                    clear Ha a0 a1 a2 a3
                    obtain ⟨a0, a1, a2, a3⟩ := pair_cells ha
                    have hb := heap_below hs Hb.out
                    clear Hb b0 b1 b2 b3
                    obtain ⟨b0, b1, b2, b3⟩ := pair_cells hb
                    have hd := heap_below hs Hd.out
                    clear Hd d0 d1 d2 d3
                    obtain ⟨d0, d1, d2, d3⟩ := pair_cells hd
                    have hm := heap_below hs Hm.out
                    clear Hm m0 m1 m2 m3
                    obtain ⟨m0, m1, m2, m3⟩ := pair_cells hm
                    have Hs := Lib.hid hs; have Hb15 := Lib.hid hb15; have Ha := Lib.hid ha; have Hb := Lib.hid hb; have Hd := Lib.hid hd; have Hm := Lib.hid hm; clear hs hb15 ha hb hd hm
                    go_wp2_with fail
                    go_ret
                    exact ⟨by first | rfl | simp, below_on Hw.out Hb15.out⟩
                  | true =>
                    go_wp2_with fail
                    refine (HUb.out _ Hb14.out).mono ?_
                    rintro e w15 ⟨rfl, hs⟩
                    have hb15 := Hb14.out.trans (hs.mono Hb14.out.size)
                    have ha := heap_below hs Ha.out
                    clear Ha a0 a1 a2 a3
                    obtain ⟨a0, a1, a2, a3⟩ := pair_cells ha
                    have hb := heap_below hs Hb.out
                    clear Hb b0 b1 b2 b3
                    obtain ⟨b0, b1, b2, b3⟩ := pair_cells hb
                    have hd := heap_below hs Hd.out
                    clear Hd d0 d1 d2 d3
                    obtain ⟨d0, d1, d2, d3⟩ := pair_cells hd
                    have hm := heap_below hs Hm.out
                    clear Hm m0 m1 m2 m3
                    obtain ⟨m0, m1, m2, m3⟩ := pair_cells hm
                    have Hs := Lib.hid hs; have Hb15 := Lib.hid hb15; have Ha := Lib.hid ha; have Hb := Lib.hid hb; have Hd := Lib.hid hd; have Hm := Lib.hid hm; clear hs hb15 ha hb hd hm
                    cases u2 with
                    | false =>
                      go_wp2_with fail
                      refine (HUa.out _ Hb15.out).mono ?_
                      rintro e w16 ⟨rfl, hs⟩
                      have hb16 := Hb15.out.trans (hs.mono Hb15.out.size)
                      have ha := heap_below hs Ha.out
                      clear Ha a0 a1 a2 a3
                      obtain ⟨a0, a1, a2, a3⟩ := pair_cells ha
                      have hb := heap_below hs Hb.out
                      clear Hb b0 b1 b2 b3
                      obtain ⟨b0, b1, b2, b3⟩ := pair_cells hb
                      have hd := heap_below hs Hd.out
                      clear Hd d0 d1 d2 d3
                      obtain ⟨d0, d1, d2, d3⟩ := pair_cells hd
                      have hm := heap_below hs Hm.out
                      clear Hm m0 m1 m2 m3
                      obtain ⟨m0, m1, m2, m3⟩ := pair_cells hm
                      have Hs := Lib.hid hs; have Hb16 := Lib.hid hb16; have Ha := Lib.hid ha; have Hb := Lib.hid hb; have Hd := Lib.hid hd; have Hm := Lib.hid hm; clear hs hb16 ha hb hd hm
                      go_wp2_with fail
                      refine (HX.out _ Hb16.out).mono ?_
                      rintro e w17 ⟨rfl, hs⟩
                      have hb17 := Hb16.out.trans (hs.mono Hb16.out.size)
                      have ha := heap_below hs Ha.out
                      clear Ha a0 a1 a2 a3
                      obtain ⟨a0, a1, a2, a3⟩ := pair_cells ha
                      have hb := heap_below hs Hb.out
                      clear Hb b0 b1 b2 b3
                      obtain ⟨b0, b1, b2, b3⟩ := pair_cells hb
                      have hd := heap_below hs Hd.out
                      clear Hd d0 d1 d2 d3
                      obtain ⟨d0, d1, d2, d3⟩ := pair_cells hd
                      have hm := heap_below hs Hm.out
                      clear Hm m0 m1 m2 m3
                      obtain ⟨m0, m1, m2, m3⟩ := pair_cells hm
                      have Hs := Lib.hid hs; have Hb17 := Lib.hid hb17; have Ha := Lib.hid ha; have Hb := Lib.hid hb; have Hd := Lib.hid hd; have Hm := Lib.hid hm; clear hs hb17 ha hb hd hm
                      go_wp2_with fail
                      go_ret
                      exact ⟨by first | rfl | simp, below_on Hw.out Hb17.out⟩
                    | true =>
                      obtain rfl := Hleast.out (by first | rfl | trivial) (by first | rfl | trivial)
                      go_wp2_with fail
                      refine (HUs.out _ Hb15.out).mono ?_
                      rintro e w16 ⟨rfl, hs⟩
                      have hb16 := Hb15.out.trans (hs.mono Hb15.out.size)
                      have ha := heap_below hs Ha.out
                      clear Ha a0 a1 a2 a3
                      obtain ⟨a0, a1, a2, a3⟩ := pair_cells ha
                      have hb := heap_below hs Hb.out
                      clear Hb b0 b1 b2 b3
                      obtain ⟨b0, b1, b2, b3⟩ := pair_cells hb
                      have hd := heap_below hs Hd.out
                      clear Hd d0 d1 d2 d3
                      obtain ⟨d0, d1, d2, d3⟩ := pair_cells hd
                      have hm := heap_below hs Hm.out
                      clear Hm m0 m1 m2 m3
                      obtain ⟨m0, m1, m2, m3⟩ := pair_cells hm
                      have Hs := Lib.hid hs; have Hb16 := Lib.hid hb16; have Ha := Lib.hid ha; have Hb := Lib.hid hb; have Hd := Lib.hid hd; have Hm := Lib.hid hm; clear hs hb16 ha hb hd hm
                      go_wp2_with fail
                      refine (HUa.out _ Hb16.out).mono ?_
                      rintro e w17 ⟨rfl, hs⟩
                      have hb17 := Hb16.out.trans (hs.mono Hb16.out.size)
                      have ha := heap_below hs Ha.out
                      clear Ha a0 a1 a2 a3
                      obtain ⟨a0, a1, a2, a3⟩ := pair_cells ha
                      have hb := heap_below hs Hb.out
                      clear Hb b0 b1 b2 b3
                      obtain ⟨b0, b1, b2, b3⟩ := pair_cells hb
                      have hd := heap_below hs Hd.out
                      clear Hd d0 d1 d2 d3
                      obtain ⟨d0, d1, d2, d3⟩ := pair_cells hd
                      have hm := heap_below hs Hm.out
                      clear Hm m0 m1 m2 m3
                      obtain ⟨m0, m1, m2, m3⟩ := pair_cells hm
                      have Hs := Lib.hid hs; have Hb17 := Lib.hid hb17; have Ha := Lib.hid ha; have Hb := Lib.hid hb; have Hd := Lib.hid hd; have Hm := Lib.hid hm; clear hs hb17 ha hb hd hm
                      go_wp2_with fail
                      refine (HX.out _ Hb17.out).mono ?_
                      rintro e w18 ⟨rfl, hs⟩
                      have hb18 := Hb17.out.trans (hs.mono Hb17.out.size)
                      have ha := heap_below hs Ha.out
                      clear Ha a0 a1 a2 a3
                      obtain ⟨a0, a1, a2, a3⟩ := pair_cells ha
                      have hb := heap_below hs Hb.out
                      clear Hb b0 b1 b2 b3
                      obtain ⟨b0, b1, b2, b3⟩ := pair_cells hb
                      have hd := heap_below hs Hd.out
                      clear Hd d0 d1 d2 d3
                      obtain ⟨d0, d1, d2, d3⟩ := pair_cells hd
                      have hm := heap_below hs Hm.out
                      clear Hm m0 m1 m2 m3
                      obtain ⟨m0, m1, m2, m3⟩ := pair_cells hm
                      have Hs := Lib.hid hs; have Hb18 := Lib.hid hb18; have Ha := Lib.hid ha; have Hb := Lib.hid hb; have Hd := Lib.hid hd; have Hm := Lib.hid hm; clear hs hb18 ha hb hd hm
                      go_wp2_with fail
                      go_ret
                      exact ⟨by first | rfl | simp, below_on Hw.out Hb18.out⟩
              | true =>
                obtain rfl := H13.out (by first | rfl | trivial)
                go_wp2_with fail
                refine (HS.out _ Hb8.out).mono ?_
                rintro e w9 ⟨rfl, hs⟩
                have hb9 := Hb8.out.trans (hs.mono Hb8.out.size)
                have ha := heap_below hs Ha.out
                clear Ha a0 a1 a2 a3
                obtain ⟨a0, a1, a2, a3⟩ := pair_cells ha
                have hb := heap_below hs Hb.out
                clear Hb b0 b1 b2 b3
                obtain ⟨b0, b1, b2, b3⟩ := pair_cells hb
                have hd := heap_below hs Hd.out
                clear Hd d0 d1 d2 d3
                obtain ⟨d0, d1, d2, d3⟩ := pair_cells hd
                have hm := heap_below hs Hm.out
                clear Hm m0 m1 m2 m3
                obtain ⟨m0, m1, m2, m3⟩ := pair_cells hm
                have Hs := Lib.hid hs; have Hb9 := Lib.hid hb9; have Ha := Lib.hid ha; have Hb := Lib.hid hb; have Hd := Lib.hid hd; have Hm := Lib.hid hm; clear hs hb9 ha hb hd hm
                go_wp2_with fail
                refine (HWa.out _ Hb9.out).mono ?_
                rintro e w10 ⟨rfl, hs⟩
                have hb10 := Hb9.out.trans (hs.mono Hb9.out.size)
                have ha := heap_below hs Ha.out
                clear Ha a0 a1 a2 a3
                obtain ⟨a0, a1, a2, a3⟩ := pair_cells ha
                have hb := heap_below hs Hb.out
                clear Hb b0 b1 b2 b3
                obtain ⟨b0, b1, b2, b3⟩ := pair_cells hb
                have hd := heap_below hs Hd.out
                clear Hd d0 d1 d2 d3
                obtain ⟨d0, d1, d2, d3⟩ := pair_cells hd
                have hm := heap_below hs Hm.out
                clear Hm m0 m1 m2 m3
                obtain ⟨m0, m1, m2, m3⟩ := pair_cells hm
                have Hs := Lib.hid hs; have Hb10 := Lib.hid hb10; have Ha := Lib.hid ha; have Hb := Lib.hid hb; have Hd := Lib.hid hd; have Hm := Lib.hid hm; clear hs hb10 ha hb hd hm
                go_wp2_with fail
                refine (HWb.out _ Hb10.out).mono ?_
                rintro e w11 ⟨rfl, hs⟩
                have hb11 := Hb10.out.trans (hs.mono Hb10.out.size)
                have ha := heap_below hs Ha.out
                clear Ha a0 a1 a2 a3
                obtain ⟨a0, a1, a2, a3⟩ := pair_cells ha
                have hb := heap_below hs Hb.out
                clear Hb b0 b1 b2 b3
                obtain ⟨b0, b1, b2, b3⟩ := pair_cells hb
                have hd := heap_below hs Hd.out
                clear Hd d0 d1 d2 d3
                obtain ⟨d0, d1, d2, d3⟩ := pair_cells hd
                have hm := heap_below hs Hm.out
                clear Hm m0 m1 m2 m3
                obtain ⟨m0, m1, m2, m3⟩ := pair_cells hm
                have Hs := Lib.hid hs; have Hb11 := Lib.hid hb11; have Ha := Lib.hid ha; have Hb := Lib.hid hb; have Hd := Lib.hid hd; have Hm := Lib.hid hm; clear hs hb11 ha hb hd hm
                go_wp2_with fail
                refine (HF.out _ Hb11.out).mono ?_
                rintro e w12 ⟨rfl, hs⟩
                have hb12 := Hb11.out.trans (hs.mono Hb11.out.size)
                have ha := heap_below hs Ha.out
                clear Ha a0 a1 a2 a3
                obtain ⟨a0, a1, a2, a3⟩ := pair_cells ha
                have hb := heap_below hs Hb.out
                clear Hb b0 b1 b2 b3
                obtain ⟨b0, b1, b2, b3⟩ := pair_cells hb
                have hd := heap_below hs Hd.out
                clear Hd d0 d1 d2 d3
                obtain ⟨d0, d1, d2, d3⟩ := pair_cells hd
                have hm := heap_below hs Hm.out
                clear Hm m0 m1 m2 m3
                obtain ⟨m0, m1, m2, m3⟩ := pair_cells hm
                have Hs := Lib.hid hs; have Hb12 := Lib.hid hb12; have Ha := Lib.hid ha; have Hb := Lib.hid hb; have Hd := Lib.hid hd; have Hm := Lib.hid hm; clear hs hb12 ha hb hd hm
                go_wp2_with fail
                refine (HUa.out _ Hb12.out).mono ?_
                rintro e w13 ⟨rfl, hs⟩
                have hb13 := Hb12.out.trans (hs.mono Hb12.out.size)
                have ha := heap_below hs Ha.out
                clear Ha a0 a1 a2 a3
                obtain ⟨a0, a1, a2, a3⟩ := pair_cells ha
                have hb := heap_below hs Hb.out
                clear Hb b0 b1 b2 b3
                obtain ⟨b0, b1, b2, b3⟩ := pair_cells hb
                have hd := heap_below hs Hd.out
                clear Hd d0 d1 d2 d3
                obtain ⟨d0, d1, d2, d3⟩ := pair_cells hd
                have hm := heap_below hs Hm.out
                clear Hm m0 m1 m2 m3
                obtain ⟨m0, m1, m2, m3⟩ := pair_cells hm
                have Hs := Lib.hid hs; have Hb13 := Lib.hid hb13; have Ha := Lib.hid ha; have Hb := Lib.hid hb; have Hd := Lib.hid hd; have Hm := Lib.hid hm; clear hs hb13 ha hb hd hm
                cases u1 with
                | false =>
                  go_wp2_with fail
                  refine (HUa.out _ Hb13.out).mono ?_
                  rintro e w14 ⟨rfl, hs⟩
                  have hb14 := Hb13.out.trans (hs.mono Hb13.out.size)
                  have ha := heap_below hs Ha.out
                  clear Ha a0 a1 a2 a3
                  obtain ⟨a0, a1, a2, a3⟩ := pair_cells ha
                  have hb := heap_below hs Hb.out
                  clear Hb b0 b1 b2 b3
                  obtain ⟨b0, b1, b2, b3⟩ := pair_cells hb
                  have hd := heap_below hs Hd.out
                  clear Hd d0 d1 d2 d3
                  obtain ⟨d0, d1, d2, d3⟩ := pair_cells hd
                  have hm := heap_below hs Hm.out
                  clear Hm m0 m1 m2 m3
                  obtain ⟨m0, m1, m2, m3⟩ := pair_cells hm
                  have Hs := Lib.hid hs; have Hb14 := Lib.hid hb14; have Ha := Lib.hid ha; have Hb := Lib.hid hb; have Hd := Lib.hid hd; have Hm := Lib.hid hm; clear hs hb14 ha hb hd hm
                  go_wp2_with fail
                  go_ret
                  exact ⟨by first | rfl | simp, below_on Hw.out Hb14.out⟩
                | true =>
                  go_wp2_with fail
                  refine (HUb.out _ Hb13.out).mono ?_
                  rintro e w14 ⟨rfl, hs⟩
                  have hb14 := Hb13.out.trans (hs.mono Hb13.out.size)
                  have ha := heap_below hs Ha.out
                  clear Ha a0 a1 a2 a3
                  obtain ⟨a0, a1, a2, a3⟩ := pair_cells ha
                  have hb := heap_below hs Hb.out
                  clear Hb b0 b1 b2 b3
                  obtain ⟨b0, b1, b2, b3⟩ := pair_cells hb
                  have hd := heap_below hs Hd.out
                  clear Hd d0 d1 d2 d3
                  obtain ⟨d0, d1, d2, d3⟩ := pair_cells hd
                  have hm := heap_below hs Hm.out
                  clear Hm m0 m1 m2 m3
                  obtain ⟨m0, m1, m2, m3⟩ := pair_cells hm
                  have Hs := Lib.hid hs; have Hb14 := Lib.hid hb14; have Ha := Lib.hid ha; have Hb := Lib.hid hb; have Hd := Lib.hid hd; have Hm := Lib.hid hm; clear hs hb14 ha hb hd hm
                  cases u2 with
                  | false =>
                    go_wp2_with fail
                    refine (HUa.out _ Hb14.out).mono ?_
                    rintro e w15 ⟨rfl, hs⟩
                    have hb15 := Hb14.out.trans (hs.mono Hb14.out.size)
                    have ha := heap_below hs Ha.out
                    clear Ha a0 a1 a2 a3
                    obtain ⟨a0, a1, a2, a3⟩ := pair_cells ha
                    have hb := heap_below hs Hb.out
                    clear Hb b0 b1 b2 b3
                    obtain ⟨b0, b1, b2, b3⟩ := pair_cells hb
                    have hd := heap_below hs Hd.out
                    clear Hd d0 d1 d2 d3
                    obtain ⟨d0, d1, d2, d3⟩ := pair_cells hd
                    have hm := heap_below hs Hm.out
                    clear Hm m0 m1 m2 m3
                    obtain ⟨m0, m1, m2, m3⟩ := pair_cells hm
                    have Hs := Lib.hid hs; have Hb15 := Lib.hid hb15; have Ha := Lib.hid ha; have Hb := Lib.hid hb; have Hd := Lib.hid hd; have Hm := Lib.hid hm; clear hs hb15 ha hb hd hm
                    go_wp2_with fail
                    refine (HX.out _ Hb15.out).mono ?_
                    rintro e w16 ⟨rfl, hs⟩
                    have hb16 := Hb15.out.trans (hs.mono Hb15.out.size)
                    have ha := heap_below hs Ha.out
                    clear Ha a0 a1 a2 a3
                    obtain ⟨a0, a1, a2, a3⟩ := pair_cells ha
                    have hb := heap_below hs Hb.out
                    clear Hb b0 b1 b2 b3
                    obtain ⟨b0, b1, b2, b3⟩ := pair_cells hb
                    have hd := heap_below hs Hd.out
                    clear Hd d0 d1 d2 d3
                    obtain ⟨d0, d1, d2, d3⟩ := pair_cells hd
                    have hm := heap_below hs Hm.out
                    clear Hm m0 m1 m2 m3
                    obtain ⟨m0, m1, m2, m3⟩ := pair_cells hm
                    have Hs := Lib.hid hs; have Hb16 := Lib.hid hb16; have Ha := Lib.hid ha; have Hb := Lib.hid hb; have Hd := Lib.hid hd; have Hm := Lib.hid hm; clear hs hb16 ha hb hd hm
                    obtain rfl := Hmore.out (by first | rfl | trivial) (by first | rfl | trivial)
                    go_wp2_with fail
                    refine (HZ.out _ Hb16.out).mono ?_
                    rintro e w17 ⟨rfl, hs⟩
                    have hb17 := Hb16.out.trans (hs.mono Hb16.out.size)
                    have ha := heap_below hs Ha.out
                    clear Ha a0 a1 a2 a3
                    obtain ⟨a0, a1, a2, a3⟩ := pair_cells ha
                    have hb := heap_below hs Hb.out
                    clear Hb b0 b1 b2 b3
                    obtain ⟨b0, b1, b2, b3⟩ := pair_cells hb
                    have hd := heap_below hs Hd.out
                    clear Hd d0 d1 d2 d3
                    obtain ⟨d0, d1, d2, d3⟩ := pair_cells hd
                    have hm := heap_below hs Hm.out
                    clear Hm m0 m1 m2 m3
                    obtain ⟨m0, m1, m2, m3⟩ := pair_cells hm
                    have Hs := Lib.hid hs; have Hb17 := Lib.hid hb17; have Ha := Lib.hid ha; have Hb := Lib.hid hb; have Hd := Lib.hid hd; have Hm := Lib.hid hm; clear hs hb17 ha hb hd hm
                    go_wp2_with fail
                    go_ret
                    exact ⟨by first | rfl | simp, below_on Hw.out Hb17.out⟩
                  | true =>
                    obtain rfl := Hleast.out (by first | rfl | trivial) (by first | rfl | trivial)
                    go_wp2_with fail
                    refine (HUs.out _ Hb14.out).mono ?_
                    rintro e w15 ⟨rfl, hs⟩
                    have hb15 := Hb14.out.trans (hs.mono Hb14.out.size)
                    have ha := heap_below hs Ha.out
                    clear Ha a0 a1 a2 a3
                    obtain ⟨a0, a1, a2, a3⟩ := pair_cells ha
                    have hb := heap_below hs Hb.out
                    clear Hb b0 b1 b2 b3
                    obtain ⟨b0, b1, b2, b3⟩ := pair_cells hb
                    have hd := heap_below hs Hd.out
                    clear Hd d0 d1 d2 d3
                    obtain ⟨d0, d1, d2, d3⟩ := pair_cells hd
                    have hm := heap_below hs Hm.out
                    clear Hm m0 m1 m2 m3
                    obtain ⟨m0, m1, m2, m3⟩ := pair_cells hm
                    have Hs := Lib.hid hs; have Hb15 := Lib.hid hb15; have Ha := Lib.hid ha; have Hb := Lib.hid hb; have Hd := Lib.hid hd; have Hm := Lib.hid hm; clear hs hb15 ha hb hd hm
                    go_wp2_with fail
                    refine (HUa.out _ Hb15.out).mono ?_
                    rintro e w16 ⟨rfl, hs⟩
                    have hb16 := Hb15.out.trans (hs.mono Hb15.out.size)
                    have ha := heap_below hs Ha.out
                    clear Ha a0 a1 a2 a3
                    obtain ⟨a0, a1, a2, a3⟩ := pair_cells ha
                    have hb := heap_below hs Hb.out
                    clear Hb b0 b1 b2 b3
                    obtain ⟨b0, b1, b2, b3⟩ := pair_cells hb
                    have hd := heap_below hs Hd.out
                    clear Hd d0 d1 d2 d3
                    obtain ⟨d0, d1, d2, d3⟩ := pair_cells hd
                    have hm := heap_below hs Hm.out
                    clear Hm m0 m1 m2 m3
                    obtain ⟨m0, m1, m2, m3⟩ := pair_cells hm
                    have Hs := Lib.hid hs; have Hb16 := Lib.hid hb16; have Ha := Lib.hid ha; have Hb := Lib.hid hb; have Hd := Lib.hid hd; have Hm := Lib.hid hm; clear hs hb16 ha hb hd hm
                    go_wp2_with fail
                    refine (HX.out _ Hb16.out).mono ?_
                    rintro e w17 ⟨rfl, hs⟩
                    have hb17 := Hb16.out.trans (hs.mono Hb16.out.size)
                    have ha := heap_below hs Ha.out
                    clear Ha a0 a1 a2 a3
                    obtain ⟨a0, a1, a2, a3⟩ := pair_cells ha
                    have hb := heap_below hs Hb.out
                    clear Hb b0 b1 b2 b3
                    obtain ⟨b0, b1, b2, b3⟩ := pair_cells hb
                    have hd := heap_below hs Hd.out
                    clear Hd d0 d1 d2 d3
                    obtain ⟨d0, d1, d2, d3⟩ := pair_cells hd
                    have hm := heap_below hs Hm.out
                    clear Hm m0 m1 m2 m3
                    obtain ⟨m0, m1, m2, m3⟩ := pair_cells hm
                    have Hs := Lib.hid hs; have Hb17 := Lib.hid hb17; have Ha := Lib.hid ha; have Hb := Lib.hid hb; have Hd := Lib.hid hd; have Hm := Lib.hid hm; clear hs hb17 ha hb hd hm
                    obtain rfl := Hmore.out (by first | rfl | trivial) (by first | rfl | trivial)
                    go_wp2_with fail
                    refine (HZ.out _ Hb17.out).mono ?_
                    rintro e w18 ⟨rfl, hs⟩
                    have hb18 := Hb17.out.trans (hs.mono Hb17.out.size)
                    have ha := heap_below hs Ha.out
                    clear Ha a0 a1 a2 a3
                    obtain ⟨a0, a1, a2, a3⟩ := pair_cells ha
                    have hb := heap_below hs Hb.out
                    clear Hb b0 b1 b2 b3
                    obtain ⟨b0, b1, b2, b3⟩ := pair_cells hb
                    have hd := heap_below hs Hd.out
                    clear Hd d0 d1 d2 d3
                    obtain ⟨d0, d1, d2, d3⟩ := pair_cells hd
                    have hm := heap_below hs Hm.out
                    clear Hm m0 m1 m2 m3
                    obtain ⟨m0, m1, m2, m3⟩ := pair_cells hm
                    have Hs := Lib.hid hs; have Hb18 := Lib.hid hb18; have Ha := Lib.hid ha; have Hb := Lib.hid hb; have Hd := Lib.hid hd; have Hm := Lib.hid hm; clear hs hb18 ha hb hd hm
                    go_wp2_with fail
                    go_ret
                    exact ⟨by first | rfl | simp, below_on Hw.out Hb18.out⟩
        | true =>
          go_wp2_with fail
          refine (HF.out _ Hb3.out).mono ?_
          rintro e w4 ⟨rfl, hs⟩
          have hb4 := Hb3.out.trans (hs.mono Hb3.out.size)
          have ha := heap_below hs Ha.out
          clear Ha a0 a1 a2 a3
          obtain ⟨a0, a1, a2, a3⟩ := pair_cells ha
          have hb := heap_below hs Hb.out
          clear Hb b0 b1 b2 b3
          obtain ⟨b0, b1, b2, b3⟩ := pair_cells hb
          have hd := heap_below hs Hd.out
          clear Hd d0 d1 d2 d3
          obtain ⟨d0, d1, d2, d3⟩ := pair_cells hd
          have Hs := Lib.hid hs; have Hb4 := Lib.hid hb4; have Ha := Lib.hid ha; have Hb := Lib.hid hb; have Hd := Lib.hid hd; clear hs hb4 ha hb hd
          go_wp2_with fail
          go_ret
          exact ⟨by first | rfl | simp, below_on Hw.out Hb4.out⟩
      | true =>
        go_wp2_with fail
        refine (HF.out _ Hb3.out).mono ?_
        rintro e w4 ⟨rfl, hs⟩
        have hb4 := Hb3.out.trans (hs.mono Hb3.out.size)
        have ha := heap_below hs Ha.out
        clear Ha a0 a1 a2 a3
        obtain ⟨a0, a1, a2, a3⟩ := pair_cells ha
        have hb := heap_below hs Hb.out
        clear Hb b0 b1 b2 b3
        obtain ⟨b0, b1, b2, b3⟩ := pair_cells hb
        have hd := heap_below hs Hd.out
        clear Hd d0 d1 d2 d3
        obtain ⟨d0, d1, d2, d3⟩ := pair_cells hd
        have Hs := Lib.hid hs; have Hb4 := Lib.hid hb4; have Ha := Lib.hid ha; have Hb := Lib.hid hb; have Hd := Lib.hid hd; clear hs hb4 ha hb hd
        go_wp2_with fail
        go_ret
        exact ⟨by first | rfl | simp, below_on Hw.out Hb4.out⟩
    | true =>
      go_wp2_with fail
      refine (HF.out _ Hb2.out).mono ?_
      rintro e w3 ⟨rfl, hs⟩
      have hb3 := Hb2.out.trans (hs.mono Hb2.out.size)
      have ha := heap_below hs Ha.out
      clear Ha a0 a1 a2 a3
      obtain ⟨a0, a1, a2, a3⟩ := pair_cells ha
      have hb := heap_below hs Hb.out
      clear Hb b0 b1 b2 b3
      obtain ⟨b0, b1, b2, b3⟩ := pair_cells hb
      have hd := heap_below hs Hd.out
      clear Hd d0 d1 d2 d3
      obtain ⟨d0, d1, d2, d3⟩ := pair_cells hd
      have Hs := Lib.hid hs; have Hb3 := Lib.hid hb3; have Ha := Lib.hid ha; have Hb := Lib.hid hb; have Hd := Lib.hid hd; clear hs hb3 ha hb hd
      go_wp2_with fail
      go_ret
      exact ⟨by first | rfl | simp, below_on Hw.out Hb3.out⟩
  | true =>
    go_wp2_with fail
    refine (HF.out _ Hb1.out).mono ?_
    rintro e w2 ⟨rfl, hs⟩
    have hb2 := Hb1.out.trans (hs.mono Hb1.out.size)
    have ha := heap_below hs Ha.out
    clear Ha a0 a1 a2 a3
    obtain ⟨a0, a1, a2, a3⟩ := pair_cells ha
    have hb := heap_below hs Hb.out
    clear Hb b0 b1 b2 b3
    obtain ⟨b0, b1, b2, b3⟩ := pair_cells hb
    have hd := heap_below hs Hd.out
    clear Hd d0 d1 d2 d3
    obtain ⟨d0, d1, d2, d3⟩ := pair_cells hd
    have Hs := Lib.hid hs; have Hb2 := Lib.hid hb2; have Ha := Lib.hid ha; have Hb := Lib.hid hb; have Hd := Lib.hid hd; clear hs hb2 ha hb hd
    go_wp2_with fail
    go_ret
    exact ⟨by first | rfl | simp, below_on Hw.out Hb2.out⟩
end Go.Proofs.YtblkdcapampniaaDoor
