/- The walk of cooperlaw02.SpanMeets: the law. Condition: the library's variables as they were laid. -/
import Derived.Test.YtblkdcapampniaaDoorSpnRm
set_option linter.unusedVariables false
set_option linter.unusedSimpArgs false
namespace Go.Proofs.YtblkdcapampniaaDoor
open Go.RowKit Go.Lib VerN

theorem great_small {a b : ByteArray} (h : false = (decide (3000 < a.size) || decide (3000 < b.size))) : a.size ≤ 3000 ∧ b.size ≤ 3000 := by
  have h1 := Bool.or_eq_false_iff.1 h.symm
  exact ⟨by simpa using h1.1, by simpa using h1.2⟩
theorem mtV_size {lo hi lp hj : ByteArray} {n : Nat} (h1 : lo.size ≤ n) (h2 : hi.size ≤ n) (h3 : lp.size ≤ n) (h4 : hj.size ≤ n) : (mtV lo hi lp hj).1.size ≤ n ∧ (mtV lo hi lp hj).2.size ≤ n := by
  unfold mtV
  split
  · exact ⟨laterS_size h1 h3, soonerS_size h2 h4⟩
  · exact ⟨Nat.zero_le _, Nat.zero_le _⟩
set_option maxRecDepth 10000 in
set_option maxHeartbeats 4000000 in
theorem spanMeets_true (lo hi lp hj v : ByteArray) {w : World} (hD : Doors w) (hvz : v.size ≤ 9223372036854775807) : Calls Tryd.prog 10 #[.agg #[.string lo, .string hi], .agg #[.string lp, .string hj], .string v] w fun e w' => e = .returned (.bool true) ∧ Below w.heap.size w w' := by
  obtain ⟨w0, hW0⟩ : ∃ W0, W0 = (w.alloc (.cells #[.string lo, .string hi] 33)).alloc (.cells #[.string lp, .string hj] 33) := ⟨_, rfl⟩
  obtain ⟨nb, hnb⟩ : ∃ nb, nb = w.heap.size := ⟨_, rfl⟩
  have hw : Below w.heap.size w w0 := by rw [hW0]; exact (below_alloc1 _ _).alloc (below_alloc1 _ _).size _
  have hb0 : Below w0.heap.size w0 w0 := Below.refl _ _
  have ha : w0.heap[nb]? = some (.cells #[.string lo, .string hi] 33 (0, 0)) := by rw [hW0, hnb]; exact pbox2_0 _ _ _ _ _
  obtain ⟨a0, a1, a2, a3⟩ := pair_cells ha
  have hb : w0.heap[nb + 1]? = some (.cells #[.string lp, .string hj] 33 (0, 0)) := by rw [hW0, hnb]; exact pbox2_1 _ _ _ _ _
  obtain ⟨b0, b1, b2, b3⟩ := pair_cells hb
  have hG := fun (W : World) (k : Below w0.heap.size w0 W) => great2_any lo hi W
  have hG2 := fun (W : World) (k : Below w0.heap.size w0 W) => great2_any lp hj W
  have hF := fun (W : World) (k : Below w0.heap.size w0 W) => fixed02_any (hD.below (below_on hw k))
  obtain ⟨gr, hgr⟩ : ∃ x, x = (decide (3000 < lo.size) || decide (3000 < hi.size)) := ⟨_, rfl⟩
  obtain ⟨gr2, hgr2⟩ : ∃ x, x = (decide (3000 < lp.size) || decide (3000 < hj.size)) := ⟨_, rfl⟩
  obtain ⟨gv, k1⟩ : ∃ x, decide ((3000 : Int) < (v.size : Int)) = x := ⟨_, rfl⟩
  have hgv : gv = false → v.size ≤ 3000 := fun h => by rw [h] at k1; simp at k1; omega
  rw [← hgr] at hG
  rw [← hgr2] at hG2
  have HG := Lib.hid hG; have HG2 := Lib.hid hG2; have HF := Lib.hid hF; have Hw := Lib.hid hw; have Hb0 := Lib.hid hb0; have Hgr := Lib.hid hgr; have Hgr2 := Lib.hid hgr2; have Hgv := Lib.hid hgv; have HD := Lib.hid hD; have Ha := Lib.hid ha; have Hb := Lib.hid hb; clear hG hG2 hF hw hb0 hgr hgr2 hgv hD ha hb
  go_enter Tryd.func10, Tryd.ntmps10
  go_upto_region 1 with (fail)
  rw [← hW0, ← hnb]
  clear hW0 hnb
  go_wp2_with fail
  refine (HG.out _ Hb0.out).mono ?_
  rintro e w1 ⟨rfl, hs⟩
  have hb1 := Hb0.out.trans (hs.mono Hb0.out.size)
  have ha := heap_below hs Ha.out
  clear Ha a0 a1 a2 a3
  obtain ⟨a0, a1, a2, a3⟩ := pair_cells ha
  have hb := heap_below hs Hb.out
  clear Hb b0 b1 b2 b3
  obtain ⟨b0, b1, b2, b3⟩ := pair_cells hb
  have Hs := Lib.hid hs; have Hb1 := Lib.hid hb1; have Ha := Lib.hid ha; have Hb := Lib.hid hb; clear hs hb1 ha hb
  cases gr with
  | false =>
    go_wp2_with fail
    refine (HG2.out _ Hb1.out).mono ?_
    rintro e w2 ⟨rfl, hs⟩
    have hb2 := Hb1.out.trans (hs.mono Hb1.out.size)
    have ha := heap_below hs Ha.out
    clear Ha a0 a1 a2 a3
    obtain ⟨a0, a1, a2, a3⟩ := pair_cells ha
    have hb := heap_below hs Hb.out
    clear Hb b0 b1 b2 b3
    obtain ⟨b0, b1, b2, b3⟩ := pair_cells hb
    have Hs := Lib.hid hs; have Hb2 := Lib.hid hb2; have Ha := Lib.hid ha; have Hb := Lib.hid hb; clear hs hb2 ha hb
    cases gr2 with
    | false =>
      cases gv with
      | false =>
        have hz := great_small Hgr.out
        have hz2 := great_small Hgr2.out
        have hv := Hgv.out rfl
        have hl : lo.size ≤ 1000000 := by omega
        have hh : hi.size ≤ 1000000 := by omega
        have hl2 : lp.size ≤ 1000000 := by omega
        have hh2 : hj.size ≤ 1000000 := by omega
        have hv2 : v.size ≤ 1000000 := by omega
        have hms := mtV_size hl hh hl2 hh2
        obtain ⟨x, hx⟩ : ∃ x, x = (mtV lo hi lp hj).1 := ⟨_, rfl⟩
        obtain ⟨y, hy⟩ : ∃ x, x = (mtV lo hi lp hj).2 := ⟨_, rfl⟩
        have hM := fun (W : World) (k : Below w0.heap.size w0 W) => meet_any lo hi lp hj hl hh hl2 hh2 (HD.out.below (below_on Hw.out k))
        have hR := fun (W : World) (_ : Below w0.heap.size w0 W) => refMeet_any lo hi lp hj hl hh hl2 hh2 W
        have hJ := fun (W : World) (k : Below w0.heap.size w0 W) => joins_any lo hi lp hj hl hh hl2 hh2 (HD.out.below (below_on Hw.out k))
        have hX := fun (W : World) (_ : Below w0.heap.size w0 W) => refHas2_any lo hi v hl hh hv2 W
        have hY := fun (W : World) (_ : Below w0.heap.size w0 W) => refHas2_any lp hj v hl2 hh2 hv2 W
        rw [← hx, ← hy] at hms
        have hS := fun (W : World) (k : Below w0.heap.size w0 W) => spanHas_any x y v hms.1 hms.2 hv2 (HD.out.below (below_on Hw.out k))
        obtain ⟨ok, hok⟩ : ∃ z, z = meetOk (lo.data.toList, hi.data.toList) (lp.data.toList, hj.data.toList) := ⟨_, rfl⟩
        obtain ⟨i1, hi1⟩ : ∃ z, z = hasS (lo.data.toList, hi.data.toList) v.data.toList := ⟨_, rfl⟩
        obtain ⟨i2, hi2⟩ : ∃ z, z = hasS (lp.data.toList, hj.data.toList) v.data.toList := ⟨_, rfl⟩
        obtain ⟨i3, hi3⟩ : ∃ z, z = hasS (x.data.toList, y.data.toList) v.data.toList := ⟨_, rfl⟩
        have hlaw : (ok && i3) = (i1 && i2) := by
          have h := meet_has (lo.data.toList, hi.data.toList) (lp.data.toList, hj.data.toList) v.data.toList
          rw [← mtV_data, ← hx, ← hy] at h
          rw [hok, hi1, hi2, hi3]
          exact h
        rw [← hx, ← hy, ← hok] at hM hR
        rw [← hok] at hJ
        rw [← hi1] at hX
        rw [← hi2] at hY
        rw [← hi3] at hS
        have hq := spn_eqs x y x y
        clear hx hy hok hi1 hi2 hi3
        have HM := Lib.hid hM; have HR := Lib.hid hR; have HJ := Lib.hid hJ; have HX := Lib.hid hX; have HY := Lib.hid hY; have HS := Lib.hid hS; have Hlaw := Lib.hid hlaw; have Hz := Lib.hid hz; have Hz2 := Lib.hid hz2; have Hms := Lib.hid hms; clear hM hR hJ hX hY hS hlaw hz hz2 hms
        go_wp2_with fail
        refine (HM.out _ Hb2.out).mono ?_
        rintro e w3 ⟨rfl, hs⟩
        have hb3 := Hb2.out.trans (hs.mono Hb2.out.size)
        have ha := heap_below hs Ha.out
        clear Ha a0 a1 a2 a3
        obtain ⟨a0, a1, a2, a3⟩ := pair_cells ha
        have hb := heap_below hs Hb.out
        clear Hb b0 b1 b2 b3
        obtain ⟨b0, b1, b2, b3⟩ := pair_cells hb
        have Hs := Lib.hid hs; have Hb3 := Lib.hid hb3; have Ha := Lib.hid ha; have Hb := Lib.hid hb; clear hs hb3 ha hb
        go_upto_region 4 with (fail)
        obtain ⟨w4, hv⟩ : ∃ W, W = w3.alloc (.cells #[.string x, .string y] 33) := ⟨_, rfl⟩
        obtain ⟨gm, hg⟩ : ∃ g, g = w3.heap.size := ⟨_, rfl⟩
        have hs : Below w3.heap.size w3 w4 := by rw [hv]; exact below_alloc1 _ _
        have hb4 := Hb3.out.trans (hs.mono Hb3.out.size)
        have hgem : w0.heap.size ≤ gm := by rw [hg]; exact Hb3.out.size
        have hneam : nb ≠ gm := by have := (Array.getElem?_eq_some_iff.1 Ha.out).1; omega
        have hnebm : nb + 1 ≠ gm := by have := (Array.getElem?_eq_some_iff.1 Hb.out).1; omega
        have ha := heap_below hs Ha.out
        clear Ha a0 a1 a2 a3
        obtain ⟨a0, a1, a2, a3⟩ := pair_cells ha
        have hb := heap_below hs Hb.out
        clear Hb b0 b1 b2 b3
        obtain ⟨b0, b1, b2, b3⟩ := pair_cells hb
        have hm : w4.heap[gm]? = some (.cells #[.string x, .string y] 33 (0, 0)) := by rw [hv, hg]; exact heap_alloc_new _ _
        obtain ⟨m0, m1, m2, m3⟩ := pair_cells hm
        rw [← hv, ← hg]
        clear hv hg
        have Hs := Lib.hid hs; have Hb4 := Lib.hid hb4; have Hgem := Lib.hid hgem; have Ha := Lib.hid ha; have Hb := Lib.hid hb; have Hm := Lib.hid hm; have Hneam := Lib.hid hneam; have Hnebm := Lib.hid hnebm; clear hs hb4 hgem ha hb hm hneam hnebm
        go_wp2_with fail
        refine (HR.out _ Hb4.out).mono ?_
        rintro e w5 ⟨rfl, hs⟩
        have hb5 := Hb4.out.trans (hs.mono Hb4.out.size)
        have ha := heap_below hs Ha.out
        clear Ha a0 a1 a2 a3
        obtain ⟨a0, a1, a2, a3⟩ := pair_cells ha
        have hb := heap_below hs Hb.out
        clear Hb b0 b1 b2 b3
        obtain ⟨b0, b1, b2, b3⟩ := pair_cells hb
        have hm := heap_below hs Hm.out
        clear Hm m0 m1 m2 m3
        obtain ⟨m0, m1, m2, m3⟩ := pair_cells hm
        have Hs := Lib.hid hs; have Hb5 := Lib.hid hb5; have Ha := Lib.hid ha; have Hb := Lib.hid hb; have Hm := Lib.hid hm; clear hs hb5 ha hb hm
        go_upto_region 5 with (fail)
        obtain ⟨w6, hv⟩ : ∃ W, W = w5.alloc (.cells #[.string x, .string y] 33) := ⟨_, rfl⟩
        obtain ⟨gu, hg⟩ : ∃ g, g = w5.heap.size := ⟨_, rfl⟩
        have hs : Below w5.heap.size w5 w6 := by rw [hv]; exact below_alloc1 _ _
        have hb6 := Hb5.out.trans (hs.mono Hb5.out.size)
        have hgeu : w0.heap.size ≤ gu := by rw [hg]; exact Hb5.out.size
        have hneau : nb ≠ gu := by have := (Array.getElem?_eq_some_iff.1 Ha.out).1; omega
        have hnebu : nb + 1 ≠ gu := by have := (Array.getElem?_eq_some_iff.1 Hb.out).1; omega
        have hnemu : gm ≠ gu := by have := (Array.getElem?_eq_some_iff.1 Hm.out).1; omega
        have ha := heap_below hs Ha.out
        clear Ha a0 a1 a2 a3
        obtain ⟨a0, a1, a2, a3⟩ := pair_cells ha
        have hb := heap_below hs Hb.out
        clear Hb b0 b1 b2 b3
        obtain ⟨b0, b1, b2, b3⟩ := pair_cells hb
        have hm := heap_below hs Hm.out
        clear Hm m0 m1 m2 m3
        obtain ⟨m0, m1, m2, m3⟩ := pair_cells hm
        have hu : w6.heap[gu]? = some (.cells #[.string x, .string y] 33 (0, 0)) := by rw [hv, hg]; exact heap_alloc_new _ _
        obtain ⟨u0, u1, u2, u3⟩ := pair_cells hu
        rw [← hv, ← hg]
        clear hv hg
        have Hs := Lib.hid hs; have Hb6 := Lib.hid hb6; have Hgeu := Lib.hid hgeu; have Ha := Lib.hid ha; have Hb := Lib.hid hb; have Hm := Lib.hid hm; have Hu := Lib.hid hu; have Hneau := Lib.hid hneau; have Hnebu := Lib.hid hnebu; have Hnemu := Lib.hid hnemu; clear hs hb6 hgeu ha hb hm hu hneau hnebu hnemu
        go_wp2_with fail
        refine (HJ.out _ Hb6.out).mono ?_
        rintro e w7 ⟨rfl, hs⟩
        have hb7 := Hb6.out.trans (hs.mono Hb6.out.size)
        have ha := heap_below hs Ha.out
        clear Ha a0 a1 a2 a3
        obtain ⟨a0, a1, a2, a3⟩ := pair_cells ha
        have hb := heap_below hs Hb.out
        clear Hb b0 b1 b2 b3
        obtain ⟨b0, b1, b2, b3⟩ := pair_cells hb
        have hm := heap_below hs Hm.out
        clear Hm m0 m1 m2 m3
        obtain ⟨m0, m1, m2, m3⟩ := pair_cells hm
        have hu := heap_below hs Hu.out
        clear Hu u0 u1 u2 u3
        obtain ⟨u0, u1, u2, u3⟩ := pair_cells hu
        have Hs := Lib.hid hs; have Hb7 := Lib.hid hb7; have Ha := Lib.hid ha; have Hb := Lib.hid hb; have Hm := Lib.hid hm; have Hu := Lib.hid hu; clear hs hb7 ha hb hm hu
        go_wp2_with fail
        refine (HX.out _ Hb7.out).mono ?_
        rintro e w8 ⟨rfl, hs⟩
        have hb8 := Hb7.out.trans (hs.mono Hb7.out.size)
        have ha := heap_below hs Ha.out
        clear Ha a0 a1 a2 a3
        obtain ⟨a0, a1, a2, a3⟩ := pair_cells ha
        have hb := heap_below hs Hb.out
        clear Hb b0 b1 b2 b3
        obtain ⟨b0, b1, b2, b3⟩ := pair_cells hb
        have hm := heap_below hs Hm.out
        clear Hm m0 m1 m2 m3
        obtain ⟨m0, m1, m2, m3⟩ := pair_cells hm
        have hu := heap_below hs Hu.out
        clear Hu u0 u1 u2 u3
        obtain ⟨u0, u1, u2, u3⟩ := pair_cells hu
        have Hs := Lib.hid hs; have Hb8 := Lib.hid hb8; have Ha := Lib.hid ha; have Hb := Lib.hid hb; have Hm := Lib.hid hm; have Hu := Lib.hid hu; clear hs hb8 ha hb hm hu
        cases i1 with
        | false =>
          cases ok with
          | false =>
            go_wp2_with fail
            refine (HF.out _ Hb8.out).mono ?_
            rintro e w9 ⟨rfl, hs⟩
            have hb9 := Hb8.out.trans (hs.mono Hb8.out.size)
            have ha := heap_below hs Ha.out
            clear Ha a0 a1 a2 a3
            obtain ⟨a0, a1, a2, a3⟩ := pair_cells ha
            have hb := heap_below hs Hb.out
            clear Hb b0 b1 b2 b3
            obtain ⟨b0, b1, b2, b3⟩ := pair_cells hb
            have hm := heap_below hs Hm.out
            clear Hm m0 m1 m2 m3
            obtain ⟨m0, m1, m2, m3⟩ := pair_cells hm
            have hu := heap_below hs Hu.out
            clear Hu u0 u1 u2 u3
            obtain ⟨u0, u1, u2, u3⟩ := pair_cells hu
            have Hs := Lib.hid hs; have Hb9 := Lib.hid hb9; have Ha := Lib.hid ha; have Hb := Lib.hid hb; have Hm := Lib.hid hm; have Hu := Lib.hid hu; clear hs hb9 ha hb hm hu
            go_wp2_with fail
            go_ret
            exact ⟨ret_bool (by have := Hlaw.out; simp_all), below_on Hw.out Hb9.out⟩
          | true =>
            go_wp2_with fail
            refine (HF.out _ Hb8.out).mono ?_
            rintro e w9 ⟨rfl, hs⟩
            have hb9 := Hb8.out.trans (hs.mono Hb8.out.size)
            have ha := heap_below hs Ha.out
            clear Ha a0 a1 a2 a3
            obtain ⟨a0, a1, a2, a3⟩ := pair_cells ha
            have hb := heap_below hs Hb.out
            clear Hb b0 b1 b2 b3
            obtain ⟨b0, b1, b2, b3⟩ := pair_cells hb
            have hm := heap_below hs Hm.out
            clear Hm m0 m1 m2 m3
            obtain ⟨m0, m1, m2, m3⟩ := pair_cells hm
            have hu := heap_below hs Hu.out
            clear Hu u0 u1 u2 u3
            obtain ⟨u0, u1, u2, u3⟩ := pair_cells hu
            have Hs := Lib.hid hs; have Hb9 := Lib.hid hb9; have Ha := Lib.hid ha; have Hb := Lib.hid hb; have Hm := Lib.hid hm; have Hu := Lib.hid hu; clear hs hb9 ha hb hm hu
            go_wp2_with fail
            refine (HS.out _ Hb9.out).mono ?_
            rintro e w10 ⟨rfl, hs⟩
            have hb10 := Hb9.out.trans (hs.mono Hb9.out.size)
            have ha := heap_below hs Ha.out
            clear Ha a0 a1 a2 a3
            obtain ⟨a0, a1, a2, a3⟩ := pair_cells ha
            have hb := heap_below hs Hb.out
            clear Hb b0 b1 b2 b3
            obtain ⟨b0, b1, b2, b3⟩ := pair_cells hb
            have hm := heap_below hs Hm.out
            clear Hm m0 m1 m2 m3
            obtain ⟨m0, m1, m2, m3⟩ := pair_cells hm
            have hu := heap_below hs Hu.out
            clear Hu u0 u1 u2 u3
            obtain ⟨u0, u1, u2, u3⟩ := pair_cells hu
            have Hs := Lib.hid hs; have Hb10 := Lib.hid hb10; have Ha := Lib.hid ha; have Hb := Lib.hid hb; have Hm := Lib.hid hm; have Hu := Lib.hid hu; clear hs hb10 ha hb hm hu
            go_wp2_with fail
            go_ret
            exact ⟨ret_bool (by have := Hlaw.out; simp_all), below_on Hw.out Hb10.out⟩
        | true =>
          go_wp2_with fail
          refine (HY.out _ Hb8.out).mono ?_
          rintro e w9 ⟨rfl, hs⟩
          have hb9 := Hb8.out.trans (hs.mono Hb8.out.size)
          have ha := heap_below hs Ha.out
          clear Ha a0 a1 a2 a3
          obtain ⟨a0, a1, a2, a3⟩ := pair_cells ha
          have hb := heap_below hs Hb.out
          clear Hb b0 b1 b2 b3
          obtain ⟨b0, b1, b2, b3⟩ := pair_cells hb
          have hm := heap_below hs Hm.out
          clear Hm m0 m1 m2 m3
          obtain ⟨m0, m1, m2, m3⟩ := pair_cells hm
          have hu := heap_below hs Hu.out
          clear Hu u0 u1 u2 u3
          obtain ⟨u0, u1, u2, u3⟩ := pair_cells hu
          have Hs := Lib.hid hs; have Hb9 := Lib.hid hb9; have Ha := Lib.hid ha; have Hb := Lib.hid hb; have Hm := Lib.hid hm; have Hu := Lib.hid hu; clear hs hb9 ha hb hm hu
          cases ok with
          | false =>
            go_wp2_with fail
            refine (HF.out _ Hb9.out).mono ?_
            rintro e w10 ⟨rfl, hs⟩
            have hb10 := Hb9.out.trans (hs.mono Hb9.out.size)
            have ha := heap_below hs Ha.out
            clear Ha a0 a1 a2 a3
            obtain ⟨a0, a1, a2, a3⟩ := pair_cells ha
            have hb := heap_below hs Hb.out
            clear Hb b0 b1 b2 b3
            obtain ⟨b0, b1, b2, b3⟩ := pair_cells hb
            have hm := heap_below hs Hm.out
            clear Hm m0 m1 m2 m3
            obtain ⟨m0, m1, m2, m3⟩ := pair_cells hm
            have hu := heap_below hs Hu.out
            clear Hu u0 u1 u2 u3
            obtain ⟨u0, u1, u2, u3⟩ := pair_cells hu
            have Hs := Lib.hid hs; have Hb10 := Lib.hid hb10; have Ha := Lib.hid ha; have Hb := Lib.hid hb; have Hm := Lib.hid hm; have Hu := Lib.hid hu; clear hs hb10 ha hb hm hu
            go_wp2_with fail
            go_ret
            exact ⟨ret_bool (by have := Hlaw.out; simp_all), below_on Hw.out Hb10.out⟩
          | true =>
            go_wp2_with fail
            refine (HF.out _ Hb9.out).mono ?_
            rintro e w10 ⟨rfl, hs⟩
            have hb10 := Hb9.out.trans (hs.mono Hb9.out.size)
            have ha := heap_below hs Ha.out
            clear Ha a0 a1 a2 a3
            obtain ⟨a0, a1, a2, a3⟩ := pair_cells ha
            have hb := heap_below hs Hb.out
            clear Hb b0 b1 b2 b3
            obtain ⟨b0, b1, b2, b3⟩ := pair_cells hb
            have hm := heap_below hs Hm.out
            clear Hm m0 m1 m2 m3
            obtain ⟨m0, m1, m2, m3⟩ := pair_cells hm
            have hu := heap_below hs Hu.out
            clear Hu u0 u1 u2 u3
            obtain ⟨u0, u1, u2, u3⟩ := pair_cells hu
            have Hs := Lib.hid hs; have Hb10 := Lib.hid hb10; have Ha := Lib.hid ha; have Hb := Lib.hid hb; have Hm := Lib.hid hm; have Hu := Lib.hid hu; clear hs hb10 ha hb hm hu
            go_wp2_with fail
            refine (HS.out _ Hb10.out).mono ?_
            rintro e w11 ⟨rfl, hs⟩
            have hb11 := Hb10.out.trans (hs.mono Hb10.out.size)
            have ha := heap_below hs Ha.out
            clear Ha a0 a1 a2 a3
            obtain ⟨a0, a1, a2, a3⟩ := pair_cells ha
            have hb := heap_below hs Hb.out
            clear Hb b0 b1 b2 b3
            obtain ⟨b0, b1, b2, b3⟩ := pair_cells hb
            have hm := heap_below hs Hm.out
            clear Hm m0 m1 m2 m3
            obtain ⟨m0, m1, m2, m3⟩ := pair_cells hm
            have hu := heap_below hs Hu.out
            clear Hu u0 u1 u2 u3
            obtain ⟨u0, u1, u2, u3⟩ := pair_cells hu
            have Hs := Lib.hid hs; have Hb11 := Lib.hid hb11; have Ha := Lib.hid ha; have Hb := Lib.hid hb; have Hm := Lib.hid hm; have Hu := Lib.hid hu; clear hs hb11 ha hb hm hu
            go_wp2_with fail
            go_ret
            exact ⟨ret_bool (by have := Hlaw.out; simp_all), below_on Hw.out Hb11.out⟩
      | true =>
        go_wp2_with fail
        refine (HF.out _ Hb2.out).mono ?_
        rintro e w3 ⟨rfl, hs⟩
        have hb3 := Hb2.out.trans (hs.mono Hb2.out.size)
        have ha := heap_below hs Ha.out
        clear Ha a0 a1 a2 a3
        obtain ⟨a0, a1, a2, a3⟩ := pair_cells ha
        have hb := heap_below hs Hb.out
        clear Hb b0 b1 b2 b3
        obtain ⟨b0, b1, b2, b3⟩ := pair_cells hb
        have Hs := Lib.hid hs; have Hb3 := Lib.hid hb3; have Ha := Lib.hid ha; have Hb := Lib.hid hb; clear hs hb3 ha hb
        go_wp2_with fail
        go_ret
        exact ⟨by first | rfl | simp, below_on Hw.out Hb3.out⟩
    | true =>
      go_wp2_with fail
      refine (HF.out _ Hb2.out).mono ?_
      rintro e w3 ⟨rfl, hs⟩
      have hb3 := Hb2.out.trans (hs.mono Hb2.out.size)
      have ha := heap_below hs Ha.out
      clear Ha a0 a1 a2 a3
      obtain ⟨a0, a1, a2, a3⟩ := pair_cells ha
      have hb := heap_below hs Hb.out
      clear Hb b0 b1 b2 b3
      obtain ⟨b0, b1, b2, b3⟩ := pair_cells hb
      have Hs := Lib.hid hs; have Hb3 := Lib.hid hb3; have Ha := Lib.hid ha; have Hb := Lib.hid hb; clear hs hb3 ha hb
      go_wp2_with fail
      go_ret
      exact ⟨by first | rfl | simp, below_on Hw.out Hb3.out⟩
  | true =>
    go_wp2_with fail
    refine (HF.out _ Hb1.out).mono ?_
    rintro e w2 ⟨rfl, hs⟩
    have hb2 := Hb1.out.trans (hs.mono Hb1.out.size)
    have ha := heap_below hs Ha.out
    clear Ha a0 a1 a2 a3
    obtain ⟨a0, a1, a2, a3⟩ := pair_cells ha
    have hb := heap_below hs Hb.out
    clear Hb b0 b1 b2 b3
    obtain ⟨b0, b1, b2, b3⟩ := pair_cells hb
    have Hs := Lib.hid hs; have Hb2 := Lib.hid hb2; have Ha := Lib.hid ha; have Hb := Lib.hid hb; clear hs hb2 ha hb
    go_wp2_with fail
    go_ret
    exact ⟨by first | rfl | simp, below_on Hw.out Hb2.out⟩
end Go.Proofs.YtblkdcapampniaaDoor
