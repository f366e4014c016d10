/- The walks of cooperlaw02.fixed and cooperlaw02.SpanHas. Condition: the library's variables as they were laid. -/
import Derived.Test.YtblkdcapampniaaDoorSpnD
import Derived.Test.YtblkdcapampniaaDoorVerLaw
import Derived.Deep.RegionHeld3
set_option linter.unusedVariables false
set_option linter.unusedSimpArgs false
namespace Go.Proofs.YtblkdcapampniaaDoor
open Go.RowKit Go.Lib VerN

theorem fx_ok : spOk [49, 58, 50] = true := by decide
theorem fx_v : spV ⟨#[49, 58, 50]⟩ = (⟨#[49]⟩, ⟨#[50]⟩) := by
  unfold spV
  rw [if_pos (by exact fx_ok)]
  rfl
theorem fx_1 : hasS ([49], [50]) [49] = true := by decide
theorem fx_2 : hasS ([49], [50]) [49, 46, 53] = true := by decide
theorem fx_3 : hasS ([49], [50]) [50] = true := by decide
theorem fx_4 : hasS ([49], [50]) [50, 46, 48] = false := by decide
set_option maxRecDepth 10000 in
set_option maxHeartbeats 1000000 in
theorem fixed02_any {w : World} (hD : Doors w) : Calls Tryd.prog 23 #[] w fun e w' => e = .returned (.bool true) ∧ Below w.heap.size w w' := by
  have hR := spanRead_any ⟨#[49, 58, 50]⟩ (by decide) hD
  have h1 := fun (W : World) (k : Below w.heap.size w W) => (spanHas_any ⟨#[49]⟩ ⟨#[50]⟩ ⟨#[49]⟩ (by decide) (by decide) (by decide) (hD.below k))
  have h2 := fun (W : World) (k : Below w.heap.size w W) => (spanHas_any ⟨#[49]⟩ ⟨#[50]⟩ ⟨#[49, 46, 53]⟩ (by decide) (by decide) (by decide) (hD.below k))
  have h3 := fun (W : World) (k : Below w.heap.size w W) => (spanHas_any ⟨#[49]⟩ ⟨#[50]⟩ ⟨#[50]⟩ (by decide) (by decide) (by decide) (hD.below k))
  have h4 := fun (W : World) (k : Below w.heap.size w W) => (spanHas_any ⟨#[49]⟩ ⟨#[50]⟩ ⟨#[50, 46, 48]⟩ (by decide) (by decide) (by decide) (hD.below k))
  simp only [fx_v, fx_ok, fx_1, fx_2, fx_3, fx_4] at hR h1 h2 h3 h4
  have HR := Lib.hid hR; have H1 := Lib.hid h1; have H2 := Lib.hid h2; have H3 := Lib.hid h3; have H4 := Lib.hid h4; have HD := Lib.hid hD; clear hR h1 h2 h3 h4 hD
  go_enter Tryd.func23, Tryd.ntmps23
  go_wp2_with fail
  refine HR.out.mono ?_
  rintro e w1 ⟨rfl, hb1⟩
  go_upto_region 2 with (fail)
  obtain ⟨W2, hW2⟩ : ∃ W2, W2 = w1.alloc (.cells #[.string ⟨#[49]⟩, .string ⟨#[50]⟩] 33) := ⟨_, rfl⟩
  obtain ⟨g, hg⟩ : ∃ g, g = w1.heap.size := ⟨_, rfl⟩
  have hb2 : Below w.heap.size w W2 := by rw [hW2]; exact hb1.alloc hb1.size _
  have hgx : W2.heap[g]? = some (.cells #[.string ⟨#[49]⟩, .string ⟨#[50]⟩] 33 (0, 0)) := by rw [hW2, hg]; exact heap_alloc_new _ _
  rw [← hW2, ← hg]
  clear hW2 hg
  obtain ⟨c0, c1, _, _⟩ := pair_cells hgx
  have Hb1 := Lib.hid hb1; have Hb2 := Lib.hid hb2; have Hgx := Lib.hid hgx; clear hb1 hb2 hgx
  go_wp2_with fail
  refine (H1.out _ Hb2.out).mono ?_
  rintro e w2 ⟨rfl, hb3⟩
  have hgx := heap_below hb3 Hgx.out
  clear Hgx
  obtain ⟨c0, c1, _, _⟩ := pair_cells hgx
  replace hb3 := Hb2.out.trans (hb3.mono Hb2.out.size)
  have Hb3 := Lib.hid hb3; have Hgx := Lib.hid hgx; clear hb3 hgx
  go_wp2_with fail
  refine (H2.out _ Hb3.out).mono ?_
  rintro e w3 ⟨rfl, hb4⟩
  have hgx := heap_below hb4 Hgx.out
  clear Hgx
  obtain ⟨c0, c1, _, _⟩ := pair_cells hgx
  replace hb4 := Hb3.out.trans (hb4.mono Hb3.out.size)
  have Hb4 := Lib.hid hb4; have Hgx := Lib.hid hgx; clear hb4 hgx
  go_wp2_with fail
  refine (H3.out _ Hb4.out).mono ?_
  rintro e w4 ⟨rfl, hb5⟩
  have hgx := heap_below hb5 Hgx.out
  clear Hgx
  obtain ⟨c0, c1, _, _⟩ := pair_cells hgx
  replace hb5 := Hb4.out.trans (hb5.mono Hb4.out.size)
  have Hb5 := Lib.hid hb5; have Hgx := Lib.hid hgx; clear hb5 hgx
  go_wp2_with fail
  refine (H4.out _ Hb5.out).mono ?_
  rintro e w5 ⟨rfl, hb6⟩
  have hgx := heap_below hb6 Hgx.out
  clear Hgx
  obtain ⟨c0, c1, _, _⟩ := pair_cells hgx
  replace hb6 := Hb5.out.trans (hb6.mono Hb5.out.size)
  have Hb6 := Lib.hid hb6; have Hgx := Lib.hid hgx; clear hb6 hgx
  go_wp2_with fail
  go_ret
  exact ⟨rfl, Hb6.out⟩
set_option maxRecDepth 10000 in
set_option maxHeartbeats 2000000 in
theorem spanHas_true (lo hi v : ByteArray) {w : World} (hD : Doors w) (hvz : v.size ≤ 9223372036854775807) : Calls Tryd.prog 6 #[.agg #[.string lo, .string hi], .string v] w fun e w' => e = .returned (.bool true) ∧ Below w.heap.size w w' := by
  obtain ⟨W0, hW0⟩ : ∃ W0, W0 = w.alloc (.cells #[.string lo, .string hi] 33) := ⟨_, rfl⟩
  obtain ⟨nb, hnb⟩ : ∃ nb, nb = w.heap.size := ⟨_, rfl⟩
  have hw : Below w.heap.size w W0 := by rw [hW0]; exact below_alloc1 _ _
  have hbx : ∀ W, Below W0.heap.size W0 W → W.cell? ⟨nb, 0, none⟩ = some (.string lo) ∧ W.cell? ⟨nb, 1, none⟩ = some (.string hi) := by rw [hW0, hnb]; exact spn_box _ _ _
  obtain ⟨c0, c1⟩ := hbx W0 (Below.refl _ _)
  have hb0 : Below W0.heap.size W0 W0 := Below.refl _ _
  have hG := fun (W : World) (k : Below W0.heap.size W0 W) => calls_to k (great2_any lo hi W)
  have hF := fun (W : World) (k : Below W0.heap.size W0 W) => calls_to k (fixed02_any (hD.below (below_on hw k)))
  obtain ⟨gr, hgr⟩ : ∃ x, x = (decide (3000 < lo.size) || decide (3000 < hi.size)) := ⟨_, rfl⟩
  rw [← hgr] at hG
  have HG := Lib.hid hG; have HF := Lib.hid hF; have Hw := Lib.hid hw; have Hbx := Lib.hid hbx; have Hb0 := Lib.hid hb0; have Hgr := Lib.hid hgr; have HD := Lib.hid hD; clear hG hF hw hbx hb0 hgr hD
  go_enter Tryd.func6, Tryd.ntmps6
  go_upto_region 1 with (fail)
  rw [← hW0, ← hnb]
  clear hW0 hnb
  go_wp2_with fail
  refine (HG.out _ Hb0.out).mono ?_
  rintro e w1 ⟨rfl, hb1⟩
  obtain ⟨c0, c1⟩ := Hbx.out _ hb1
  have Hb1 := Lib.hid hb1; clear hb1
  cases gr with
  | true =>
    go_wp2_with fail
    refine (HF.out _ Hb1.out).mono ?_
    rintro e w2 ⟨rfl, hb2⟩
    have Hb2 := Lib.hid hb2; clear hb2
    go_wp2_with fail
    go_ret
    exact ⟨rfl, below_on Hw.out Hb2.out⟩
  | false =>
    by_cases h3 : 3000 < v.size
    · have k1 : decide ((3000 : Int) < (v.size : Int)) = true := by simp; omega
      go_wp2_with fail
      refine (HF.out _ Hb1.out).mono ?_
      rintro e w2 ⟨rfl, hb2⟩
      have Hb2 := Lib.hid hb2; clear hb2
      go_wp2_with fail
      go_ret
      exact ⟨rfl, below_on Hw.out Hb2.out⟩
    · have k1 : decide ((3000 : Int) < (v.size : Int)) = false := by simp; omega
      have hz : lo.size ≤ 3000 ∧ hi.size ≤ 3000 := by
        have := Hgr.out
        have h1 := Bool.or_eq_false_iff.1 this.symm
        exact ⟨by simpa using h1.1, by simpa using h1.2⟩
      have hl : lo.size ≤ 1000000 := by omega
      have hh : hi.size ≤ 1000000 := by omega
      have hv : v.size ≤ 1000000 := by omega
      have hP := fun (W : World) (k : Below W0.heap.size W0 W) => calls_to k (spanMay_any lo hi hl hh (HD.out.below (below_on Hw.out k)))
      have hQ := fun (W : World) (k : Below W0.heap.size W0 W) => calls_to k (refMay2_any lo hi hl hh W)
      have hR := fun (W : World) (k : Below W0.heap.size W0 W) => calls_to k (spanHas_any lo hi v hl hh hv (HD.out.below (below_on Hw.out k)))
      have hS := fun (W : World) (k : Below W0.heap.size W0 W) => calls_to k (refHas2_any lo hi v hl hh hv W)
      obtain ⟨p, hp⟩ : ∃ x, x = mayS (lo.data.toList, hi.data.toList) := ⟨_, rfl⟩
      obtain ⟨q, hq⟩ : ∃ x, x = hasS (lo.data.toList, hi.data.toList) v.data.toList := ⟨_, rfl⟩
      rw [← hp] at hP hQ
      rw [← hq] at hR hS
      clear hp hq
      have hbz := bel_drewN Hb1.out 1
      have hcz := Hbx.out _ hbz
      have HP := Lib.hid hP; have HQ := Lib.hid hQ; have HR := Lib.hid hR; have HS := Lib.hid hS; clear hP hQ hR hS
      go_wp2_with fail
      go_region_held3 (fun w' => w'.cell? ⟨nb, 0, none⟩ = some (.string lo) ∧ w'.cell? ⟨nb, 1, none⟩ = some (.string hi)) (first | exact hcz | go_keep) (first
        | (go_at_call 23; refine (HF.out _ (by exact hbz)).mono ?_; rintro e wz1 ⟨rfl, hbz1⟩; replace hcz := Hbx.out _ hbz1; replace hbz := hbz1)
        | (go_at_call 24; refine (HP.out _ (by exact hbz)).mono ?_; rintro e wz2 ⟨rfl, hbz2⟩; replace hcz := Hbx.out _ hbz2; replace hbz := hbz2)
        | (go_at_call 25; refine (HQ.out _ (by exact hbz)).mono ?_; rintro e wz3 ⟨rfl, hbz3⟩; replace hcz := Hbx.out _ hbz3; replace hbz := hbz3)
        | (go_at_call 26; refine (HR.out _ (by exact hbz)).mono ?_; rintro e wz4 ⟨rfl, hbz4⟩; replace hcz := Hbx.out _ hbz4; replace hbz := hbz4)
        | (go_at_call 27; refine (HS.out _ (by exact hbz)).mono ?_; rintro e wz5 ⟨rfl, hbz5⟩; replace hcz := Hbx.out _ hbz5; replace hbz := hbz5))
      all_goals
        have Hbz := Lib.hid hbz; clear hbz
        go_wp2_with fail
        go_ret
        exact ⟨by first | rfl | simp, below_on Hw.out Hbz.out⟩
end Go.Proofs.YtblkdcapampniaaDoor
