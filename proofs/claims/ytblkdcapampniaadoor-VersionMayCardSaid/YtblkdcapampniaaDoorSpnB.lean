/- The walks of span.May, Has and the document's. Condition: the library's variables as they were laid; texts of at most a million bytes. -/
import Derived.Test.YtblkdcapampniaaDoorSpnA
set_option linter.unusedVariables false
set_option linter.unusedSimpArgs false
namespace Go.Proofs.YtblkdcapampniaaDoor
open Go.RowKit Go.Lib VerN

theorem below_on {w W0 W : World} (h : Below w.heap.size w W0) (k : Below W0.heap.size W0 W) : Below w.heap.size w W := h.trans (k.mono h.size)
theorem spn_box (lo hi : ByteArray) (w W : World) (h : Below (w.alloc (.cells #[.string lo, .string hi] 33)).heap.size (w.alloc (.cells #[.string lo, .string hi] 33)) W) : W.cell? ⟨w.heap.size, 0, none⟩ = some (.string lo) ∧ W.cell? ⟨w.heap.size, 1, none⟩ = some (.string hi) := by
  have h1 := heap_below h (heap_alloc_new w (.cells #[.string lo, .string hi] 33))
  exact ⟨cells_at h1 0, cells_at h1 1⟩
theorem empty_bool (s : ByteArray) : s.toList.isEmpty = decide (s.data.toList = []) := by rw [Txt.no_dec]; exact decide_eq_decide.2 (nil_size s).symm
set_option maxRecDepth 10000 in
set_option maxHeartbeats 1000000 in
theorem spanMay_any (lo hi : ByteArray) (hl : lo.size ≤ 1000000) (hh : hi.size ≤ 1000000) {w : World} (hD : Doors w) : Calls Tryd.prog 24 #[.agg #[.string lo, .string hi]] w fun e w' => e = .returned (.bool (mayS (lo.data.toList, hi.data.toList))) ∧ Below w.heap.size w w' := by
  obtain ⟨W0, hW0⟩ : ∃ W0, W0 = w.alloc (.cells #[.string lo, .string hi] 33) := ⟨_, rfl⟩
  obtain ⟨nb, hnb⟩ : ∃ nb, nb = w.heap.size := ⟨_, rfl⟩
  have hw : Below w.heap.size w W0 := by rw [hW0]; exact below_alloc1 _ _
  have hbx : ∀ W, Below W0.heap.size W0 W → W.cell? ⟨nb, 0, none⟩ = some (.string lo) ∧ W.cell? ⟨nb, 1, none⟩ = some (.string hi) := by rw [hW0, hnb]; exact spn_box _ _ _
  obtain ⟨c0, c1⟩ := hbx W0 (Below.refl _ _)
  have hb0 : Below W0.heap.size W0 W0 := Below.refl _ _
  have hA := fun (W : World) (k : Below W0.heap.size W0 W) => calls_to k (bound_any lo hl (hD.below (below_on hw k)))
  have hB := fun (W : World) (k : Below W0.heap.size W0 W) => calls_to k (bound_any hi hh (hD.below (below_on hw k)))
  have hC := fun (W : World) (k : Below W0.heap.size W0 W) => calls_to k (ahead_any hi lo hh hl (hD.below (below_on hw k)))
  obtain ⟨p, hp⟩ : ∃ p, p = boundB lo.data.toList := ⟨_, rfl⟩
  obtain ⟨q, hq⟩ : ∃ p, p = boundB hi.data.toList := ⟨_, rfl⟩
  obtain ⟨r, hr⟩ : ∃ p, p = aheadB hi.data.toList lo.data.toList := ⟨_, rfl⟩
  have hm : mayS (lo.data.toList, hi.data.toList) = (p && q && !r) := by rw [hp, hq, hr]; rfl
  rw [← hp] at hA
  rw [← hq] at hB
  rw [← hr] at hC
  rw [hm]
  clear hm hp hq hr hD
  have HA := Lib.hid hA; have HB := Lib.hid hB; have HC := Lib.hid hC; have Hw := Lib.hid hw; have Hbx := Lib.hid hbx; have Hb0 := Lib.hid hb0; clear hA hB hC hw hbx hb0
  go_enter Tryd.func24, Tryd.ntmps24
  go_upto_region 1 with (fail)
  rw [← hW0, ← hnb]
  clear hW0 hnb
  go_wp2_with fail
  refine (HA.out _ Hb0.out).mono ?_
  rintro e w1 ⟨rfl, hb1⟩
  obtain ⟨c0, c1⟩ := Hbx.out _ hb1
  have Hb1 := Lib.hid hb1; clear hb1
  cases p with
  | false =>
    go_wp2_with fail
    go_ret
    exact ⟨rfl, below_on Hw.out Hb1.out⟩
  | true =>
    go_wp2_with fail
    refine (HB.out _ Hb1.out).mono ?_
    rintro e w2 ⟨rfl, hb2⟩
    obtain ⟨c0, c1⟩ := Hbx.out _ hb2
    have Hb2 := Lib.hid hb2; clear hb2
    cases q with
    | false =>
      go_wp2_with fail
      go_ret
      exact ⟨rfl, below_on Hw.out Hb2.out⟩
    | true =>
      go_wp2_with fail
      refine (HC.out _ Hb2.out).mono ?_
      rintro e w3 ⟨rfl, hb3⟩
      obtain ⟨c0, c1⟩ := Hbx.out _ hb3
      have Hb3 := Lib.hid hb3; clear hb3
      go_wp2_with fail
      go_ret
      exact ⟨rfl, below_on Hw.out Hb3.out⟩
set_option maxRecDepth 10000 in
set_option maxHeartbeats 1000000 in
theorem refMay2_any (lo hi : ByteArray) (hl : lo.size ≤ 1000000) (hh : hi.size ≤ 1000000) (w : World) : Calls Tryd.prog 25 #[.agg #[.string lo, .string hi]] w fun e w' => e = .returned (.bool (mayS (lo.data.toList, hi.data.toList))) ∧ Below w.heap.size w w' := by
  obtain ⟨W0, hW0⟩ : ∃ W0, W0 = w.alloc (.cells #[.string lo, .string hi] 33) := ⟨_, rfl⟩
  obtain ⟨nb, hnb⟩ : ∃ nb, nb = w.heap.size := ⟨_, rfl⟩
  have hw : Below w.heap.size w W0 := by rw [hW0]; exact below_alloc1 _ _
  have hbx : ∀ W, Below W0.heap.size W0 W → W.cell? ⟨nb, 0, none⟩ = some (.string lo) ∧ W.cell? ⟨nb, 1, none⟩ = some (.string hi) := by rw [hW0, hnb]; exact spn_box _ _ _
  obtain ⟨c0, c1⟩ := hbx W0 (Below.refl _ _)
  have hb0 : Below W0.heap.size W0 W0 := Below.refl _ _
  have hA := fun (W : World) (k : Below W0.heap.size W0 W) => calls_to k (rbound_any lo hl W)
  have hB := fun (W : World) (k : Below W0.heap.size W0 W) => calls_to k (rbound_any hi hh W)
  have hC := fun (W : World) (k : Below W0.heap.size W0 W) => calls_to k (less1_any hi lo hh hl W)
  obtain ⟨p, hp⟩ : ∃ p, p = boundB lo.data.toList := ⟨_, rfl⟩
  obtain ⟨q, hq⟩ : ∃ p, p = boundB hi.data.toList := ⟨_, rfl⟩
  obtain ⟨r, hr⟩ : ∃ p, p = lessL hi.data.toList lo.data.toList := ⟨_, rfl⟩
  obtain ⟨d1, k1⟩ : ∃ p, lo.toList.isEmpty = p := ⟨_, rfl⟩
  obtain ⟨d2, k2⟩ : ∃ p, hi.toList.isEmpty = p := ⟨_, rfl⟩
  have hm : mayS (lo.data.toList, hi.data.toList) = (p && q && (d1 || d2 || !r)) := by rw [← refMay_is, hp, hq, hr, ← k1, ← k2, empty_bool, empty_bool]; rfl
  rw [← hp] at hA
  rw [← hq] at hB
  rw [← hr] at hC
  rw [hm]
  clear hm hp hq hr
  have HA := Lib.hid hA; have HB := Lib.hid hB; have HC := Lib.hid hC; have Hw := Lib.hid hw; have Hbx := Lib.hid hbx; have Hb0 := Lib.hid hb0; clear hA hB hC hw hbx hb0
  go_enter Tryd.func25, Tryd.ntmps25
  go_upto_region 1 with (fail)
  rw [← hW0, ← hnb]
  clear hW0 hnb
  go_wp2_with fail
  refine (HA.out _ Hb0.out).mono ?_
  rintro e w1 ⟨rfl, hb1⟩
  obtain ⟨c0, c1⟩ := Hbx.out _ hb1
  have Hb1 := Lib.hid hb1; clear hb1
  cases p with
  | false =>
    go_wp2_with fail
    go_ret
    exact ⟨rfl, below_on Hw.out Hb1.out⟩
  | true =>
    go_wp2_with fail
    refine (HB.out _ Hb1.out).mono ?_
    rintro e w2 ⟨rfl, hb2⟩
    obtain ⟨c0, c1⟩ := Hbx.out _ hb2
    have Hb2 := Lib.hid hb2; clear hb2
    cases q with
    | false =>
      go_wp2_with fail
      go_ret
      exact ⟨rfl, below_on Hw.out Hb2.out⟩
    | true =>
      cases d1 with
      | false =>
        cases d2 with
        | false =>
          go_wp2_with fail
          refine (HC.out _ Hb2.out).mono ?_
          rintro e w3 ⟨rfl, hb3⟩
          obtain ⟨c0, c1⟩ := Hbx.out _ hb3
          have Hb3 := Lib.hid hb3; clear hb3
          go_wp2_with fail
          go_ret
          exact ⟨rfl, below_on Hw.out Hb3.out⟩
        | true =>
          go_wp2_with fail
          go_ret
          exact ⟨rfl, below_on Hw.out Hb2.out⟩
      | true =>
        go_wp2_with fail
        go_ret
        exact ⟨rfl, below_on Hw.out Hb2.out⟩
set_option maxRecDepth 10000 in
set_option maxHeartbeats 1000000 in
theorem spanHas_any (lo hi v : ByteArray) (hl : lo.size ≤ 1000000) (hh : hi.size ≤ 1000000) (hv : v.size ≤ 1000000) {w : World} (hD : Doors w) : Calls Tryd.prog 26 #[.agg #[.string lo, .string hi], .string v] w fun e w' => e = .returned (.bool (hasS (lo.data.toList, hi.data.toList) v.data.toList)) ∧ Below w.heap.size w w' := by
  obtain ⟨W0, hW0⟩ : ∃ W0, W0 = w.alloc (.cells #[.string lo, .string hi] 33) := ⟨_, rfl⟩
  obtain ⟨nb, hnb⟩ : ∃ nb, nb = w.heap.size := ⟨_, rfl⟩
  have hw : Below w.heap.size w W0 := by rw [hW0]; exact below_alloc1 _ _
  have hbx : ∀ W, Below W0.heap.size W0 W → W.cell? ⟨nb, 0, none⟩ = some (.string lo) ∧ W.cell? ⟨nb, 1, none⟩ = some (.string hi) := by rw [hW0, hnb]; exact spn_box _ _ _
  obtain ⟨c0, c1⟩ := hbx W0 (Below.refl _ _)
  have hb0 : Below W0.heap.size W0 W0 := Below.refl _ _
  have hM := fun (W : World) (k : Below W0.heap.size W0 W) => calls_to k (spanMay_any lo hi hl hh (hD.below (below_on hw k)))
  have hV := fun (W : World) (k : Below W0.heap.size W0 W) => calls_to k (verMay_any v hv (hD.below (below_on hw k)))
  have hA := fun (W : World) (k : Below W0.heap.size W0 W) => calls_to k (ahead_any v lo hv hl (hD.below (below_on hw k)))
  have hB := fun (W : World) (k : Below W0.heap.size W0 W) => calls_to k (ahead_any hi v hh hv (hD.below (below_on hw k)))
  obtain ⟨p, hp⟩ : ∃ p, p = mayS (lo.data.toList, hi.data.toList) := ⟨_, rfl⟩
  obtain ⟨q, hq⟩ : ∃ p, p = mayL v.data.toList := ⟨_, rfl⟩
  obtain ⟨r, hr⟩ : ∃ p, p = aheadB v.data.toList lo.data.toList := ⟨_, rfl⟩
  obtain ⟨s, hs⟩ : ∃ p, p = aheadB hi.data.toList v.data.toList := ⟨_, rfl⟩
  have hm : hasS (lo.data.toList, hi.data.toList) v.data.toList = (p && q && !r && !s) := by rw [hp, hq, hr, hs]; rfl
  rw [← hp] at hM
  rw [← hq] at hV
  rw [← hr] at hA
  rw [← hs] at hB
  rw [hm]
  clear hm hp hq hr hs hD
  have HM := Lib.hid hM; have HV := Lib.hid hV; have HA := Lib.hid hA; have HB := Lib.hid hB; have Hw := Lib.hid hw; have Hbx := Lib.hid hbx; have Hb0 := Lib.hid hb0; clear hM hV hA hB hw hbx hb0
  go_enter Tryd.func26, Tryd.ntmps26
  go_upto_region 1 with (fail)
  rw [← hW0, ← hnb]
  clear hW0 hnb
  go_wp2_with fail
  refine (HM.out _ Hb0.out).mono ?_
  rintro e w1 ⟨rfl, hb1⟩
  obtain ⟨c0, c1⟩ := Hbx.out _ hb1
  have Hb1 := Lib.hid hb1; clear hb1
  cases p with
  | false =>
    go_wp2_with fail
    go_ret
    exact ⟨rfl, below_on Hw.out Hb1.out⟩
  | true =>
    go_wp2_with fail
    refine (HV.out _ Hb1.out).mono ?_
    rintro e w2 ⟨rfl, hb2⟩
    obtain ⟨c0, c1⟩ := Hbx.out _ hb2
    have Hb2 := Lib.hid hb2; clear hb2
    cases q with
    | false =>
      go_wp2_with fail
      go_ret
      exact ⟨rfl, below_on Hw.out Hb2.out⟩
    | true =>
      go_wp2_with fail
      refine (HA.out _ Hb2.out).mono ?_
      rintro e w3 ⟨rfl, hb3⟩
      obtain ⟨c0, c1⟩ := Hbx.out _ hb3
      have Hb3 := Lib.hid hb3; clear hb3
      cases r with
      | false =>
        go_wp2_with fail
        refine (HB.out _ Hb3.out).mono ?_
        rintro e w4 ⟨rfl, hb4⟩
        obtain ⟨c0, c1⟩ := Hbx.out _ hb4
        have Hb4 := Lib.hid hb4; clear hb4
        go_wp2_with fail
        go_ret
        exact ⟨rfl, below_on Hw.out Hb4.out⟩
      | true =>
        go_wp2_with fail
        go_ret
        exact ⟨rfl, below_on Hw.out Hb3.out⟩
set_option maxRecDepth 10000 in
set_option maxHeartbeats 1000000 in
theorem refHas2_any (lo hi v : ByteArray) (hl : lo.size ≤ 1000000) (hh : hi.size ≤ 1000000) (hv : v.size ≤ 1000000) (w : World) : Calls Tryd.prog 27 #[.agg #[.string lo, .string hi], .string v] w fun e w' => e = .returned (.bool (hasS (lo.data.toList, hi.data.toList) v.data.toList)) ∧ Below w.heap.size w w' := by
  obtain ⟨W0, hW0⟩ : ∃ W0, W0 = w.alloc (.cells #[.string lo, .string hi] 33) := ⟨_, rfl⟩
  obtain ⟨nb, hnb⟩ : ∃ nb, nb = w.heap.size := ⟨_, rfl⟩
  have hw : Below w.heap.size w W0 := by rw [hW0]; exact below_alloc1 _ _
  have hbx : ∀ W, Below W0.heap.size W0 W → W.cell? ⟨nb, 0, none⟩ = some (.string lo) ∧ W.cell? ⟨nb, 1, none⟩ = some (.string hi) := by rw [hW0, hnb]; exact spn_box _ _ _
  obtain ⟨c0, c1⟩ := hbx W0 (Below.refl _ _)
  have hb0 : Below W0.heap.size W0 W0 := Below.refl _ _
  have hM := fun (W : World) (k : Below W0.heap.size W0 W) => calls_to k (refMay2_any lo hi hl hh W)
  have hV := fun (W : World) (k : Below W0.heap.size W0 W) => calls_to k (may1_any v hv W)
  have hA := fun (W : World) (k : Below W0.heap.size W0 W) => calls_to k (less1_any v lo hv hl W)
  have hB := fun (W : World) (k : Below W0.heap.size W0 W) => calls_to k (less1_any hi v hh hv W)
  obtain ⟨p, hp⟩ : ∃ p, p = mayS (lo.data.toList, hi.data.toList) := ⟨_, rfl⟩
  obtain ⟨q, hq⟩ : ∃ p, p = mayL v.data.toList := ⟨_, rfl⟩
  obtain ⟨r, hr⟩ : ∃ p, p = lessL v.data.toList lo.data.toList := ⟨_, rfl⟩
  obtain ⟨s, hs⟩ : ∃ p, p = lessL hi.data.toList v.data.toList := ⟨_, rfl⟩
  obtain ⟨d1, k1⟩ : ∃ p, lo.toList.isEmpty = p := ⟨_, rfl⟩
  obtain ⟨d2, k2⟩ : ∃ p, hi.toList.isEmpty = p := ⟨_, rfl⟩
  have hm : hasS (lo.data.toList, hi.data.toList) v.data.toList = if p = false ∨ q = false then false else (d1 || !r) && (d2 || !s) := by rw [← refHas_is, hp, hq, hr, hs, ← k1, ← k2, empty_bool, empty_bool, ← refMay_is]; rfl
  rw [← hp] at hM
  rw [← hq] at hV
  rw [← hr] at hA
  rw [← hs] at hB
  rw [hm]
  clear hm hp hq hr hs
  have HM := Lib.hid hM; have HV := Lib.hid hV; have HA := Lib.hid hA; have HB := Lib.hid hB; have Hw := Lib.hid hw; have Hbx := Lib.hid hbx; have Hb0 := Lib.hid hb0; clear hM hV hA hB hw hbx hb0
  go_enter Tryd.func27, Tryd.ntmps27
  go_upto_region 1 with (fail)
  rw [← hW0, ← hnb]
  clear hW0 hnb
  go_wp2_with fail
  refine (HM.out _ Hb0.out).mono ?_
  rintro e w1 ⟨rfl, hb1⟩
  obtain ⟨c0, c1⟩ := Hbx.out _ hb1
  have Hb1 := Lib.hid hb1; clear hb1
  cases p with
  | false =>
    go_wp2_with fail
    go_ret
    exact ⟨rfl, below_on Hw.out Hb1.out⟩
  | true =>
    go_wp2_with fail
    refine (HV.out _ Hb1.out).mono ?_
    rintro e w2 ⟨rfl, hb2⟩
    obtain ⟨c0, c1⟩ := Hbx.out _ hb2
    have Hb2 := Lib.hid hb2; clear hb2
    cases q with
    | false =>
      go_wp2_with fail
      go_ret
      exact ⟨rfl, below_on Hw.out Hb2.out⟩
    | true =>
      cases d1 with
      | false =>
        go_wp2_with fail
        refine (HA.out _ Hb2.out).mono ?_
        rintro e w3 ⟨rfl, hb3⟩
        obtain ⟨c0, c1⟩ := Hbx.out _ hb3
        have Hb3 := Lib.hid hb3; clear hb3
        cases r with
        | false =>
          cases d2 with
          | false =>
            go_wp2_with fail
            refine (HB.out _ Hb3.out).mono ?_
            rintro e w4 ⟨rfl, hb4⟩
            obtain ⟨c0, c1⟩ := Hbx.out _ hb4
            have Hb4 := Lib.hid hb4; clear hb4
            go_wp2_with fail
            go_ret
            exact ⟨rfl, below_on Hw.out Hb4.out⟩
          | true =>
            go_wp2_with fail
            go_ret
            exact ⟨rfl, below_on Hw.out Hb3.out⟩
        | true =>
          go_wp2_with fail
          go_ret
          exact ⟨rfl, below_on Hw.out Hb3.out⟩
      | true =>
        cases d2 with
        | false =>
          go_wp2_with fail
          refine (HB.out _ Hb2.out).mono ?_
          rintro e w3 ⟨rfl, hb3⟩
          obtain ⟨c0, c1⟩ := Hbx.out _ hb3
          have Hb3 := Lib.hid hb3; clear hb3
          go_wp2_with fail
          go_ret
          exact ⟨rfl, below_on Hw.out Hb3.out⟩
        | true =>
          go_wp2_with fail
          go_ret
          exact ⟨rfl, below_on Hw.out Hb2.out⟩
end Go.Proofs.YtblkdcapampniaaDoor
