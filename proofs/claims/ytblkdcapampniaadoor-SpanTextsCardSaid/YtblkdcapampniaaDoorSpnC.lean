/- The walks of span.Text, Within, and the document's Text, Great. Condition: the library's variables as they were laid; texts of at most a million bytes. -/
import Derived.Test.YtblkdcapampniaaDoorSpnB
import Derived.Lib.SmallJoins
set_option linter.unusedVariables false
set_option linter.unusedSimpArgs false
namespace Go.Proofs.YtblkdcapampniaaDoor
open Go.RowKit Go.Lib VerN

/-- the text of a span that may be; of any span -/
def txR (lo hi : ByteArray) : ByteArray := if lo = hi ∧ lo.size ≠ 0 then lo else lo ++ ⟨#[58]⟩ ++ hi
def txS (lo hi : ByteArray) : ByteArray := if mayS (lo.data.toList, hi.data.toList) = true then txR lo hi else ⟨#[]⟩
theorem colon_data (h a : ByteArray) : (h ++ ⟨#[58]⟩ ++ a).data.toList = h.data.toList ++ 58 :: a.data.toList := by
  rw [Go.Joins.data_append, Go.Joins.data_append, List.append_assoc]
  rfl
theorem colon_size (h a : ByteArray) : (h ++ ⟨#[58]⟩ ++ a).size = h.size + 1 + a.size := by
  rw [← Txt.len, colon_data, List.length_append, List.length_cons, Txt.len, Txt.len]
  omega
theorem ba_eq {a b : ByteArray} : a = b ↔ a.data.toList = b.data.toList := ⟨fun h => by rw [h], Txt.ext⟩
theorem txR_data (lo hi : ByteArray) : (txR lo hi).data.toList = textR (lo.data.toList, hi.data.toList) := by
  unfold txR textR
  simp only [ba_eq, ne_eq, nil_size]
  split
  · rfl
  · exact colon_data _ _
theorem txS_data (lo hi : ByteArray) : (txS lo hi).data.toList = textS (lo.data.toList, hi.data.toList) := by
  unfold txS textS
  split
  · exact txR_data _ _
  · rfl
theorem txR_size (lo hi : ByteArray) : (txR lo hi).size ≤ lo.size + 1 + hi.size := by
  unfold txR
  split
  · omega
  · rw [colon_size]
    exact Nat.le_refl _
theorem spn_box2 (lo hi lp hj : ByteArray) (w W : World) (h : Below ((w.alloc (.cells #[.string lo, .string hi] 33)).alloc (.cells #[.string lp, .string hj] 33)).heap.size ((w.alloc (.cells #[.string lo, .string hi] 33)).alloc (.cells #[.string lp, .string hj] 33)) W) :
    W.cell? ⟨w.heap.size, 0, none⟩ = some (.string lo) ∧ W.cell? ⟨w.heap.size, 1, none⟩ = some (.string hi) ∧ W.cell? ⟨w.heap.size + 1, 0, none⟩ = some (.string lp) ∧ W.cell? ⟨w.heap.size + 1, 1, none⟩ = some (.string hj) := by
  have h1 := heap_below h (heap_below (below_alloc1 _ (.cells #[.string lp, .string hj] 33)) (heap_alloc_new w (.cells #[.string lo, .string hi] 33)))
  have h2 := heap_below h (heap_new_at (n := w.heap.size + 1) (by simp))
  exact ⟨cells_at h1 0, cells_at h1 1, cells_at h2 0, cells_at h2 1⟩
set_option maxRecDepth 10000 in
set_option maxHeartbeats 1000000 in
theorem refText_any (lo hi : ByteArray) (hl : lo.size ≤ 1000000) (hh : hi.size ≤ 1000000) (w : World) : Calls Tryd.prog 30 #[.agg #[.string lo, .string hi]] w fun e w' => e = .returned (.string (txR lo hi)) ∧ Below w.heap.size w w' := by
  obtain ⟨W0, hW0⟩ : ∃ W0, W0 = w.alloc (.cells #[.string lo, .string hi] 33) := ⟨_, rfl⟩
  obtain ⟨nb, hnb⟩ : ∃ nb, nb = w.heap.size := ⟨_, rfl⟩
  have hw : Below w.heap.size w W0 := by rw [hW0]; exact below_alloc1 _ _
  have hbx : ∀ W, Below W0.heap.size W0 W → W.cell? ⟨nb, 0, none⟩ = some (.string lo) ∧ W.cell? ⟨nb, 1, none⟩ = some (.string hi) := by rw [hW0, hnb]; exact spn_box _ _ _
  obtain ⟨c0, c1⟩ := hbx W0 (Below.refl _ _)
  have hb0 : Below W0.heap.size W0 W0 := Below.refl _ _
  obtain ⟨d1, k1⟩ : ∃ p, lo.toList.isEmpty = p := ⟨_, rfl⟩
  obtain ⟨d2, k2⟩ : ∃ p, (lo.toList == hi.toList) = p := ⟨_, rfl⟩
  have e0 : (lo ++ ⟨#[58]⟩).size = lo.size + 1 := by rw [← Txt.len, Go.Joins.data_append, List.length_append, Txt.len]; rfl
  have hm : txR lo hi = if d2 = true then (if d1 = true then lo ++ ⟨#[58]⟩ ++ hi else lo) else lo ++ ⟨#[58]⟩ ++ hi := by
    rw [← k1, ← k2, Txt.no_dec, Txt.eq_dec]
    unfold txR
    by_cases h1 : lo = hi <;> by_cases h2 : lo.size = 0 <;> simp [h1, h2]
  rw [hm]
  clear hm
  have Hw := Lib.hid hw; have Hbx := Lib.hid hbx; have Hb0 := Lib.hid hb0; clear hw hbx hb0
  go_enter Tryd.func30, Tryd.ntmps30
  go_upto_region 1 with (fail)
  rw [← hW0, ← hnb]
  clear hW0 hnb
  cases d2 with
  | false =>
    go_wp2_with fail
    go_ret
    exact ⟨rfl, below_on Hw.out Hb0.out⟩
  | true =>
    cases d1 with
    | false =>
      go_wp2_with fail
      go_ret
      exact ⟨rfl, below_on Hw.out Hb0.out⟩
    | true =>
      go_wp2_with fail
      go_ret
      exact ⟨rfl, below_on Hw.out Hb0.out⟩
set_option maxRecDepth 10000 in
set_option maxHeartbeats 1000000 in
theorem spanText_any (lo hi : ByteArray) (hl : lo.size ≤ 1000000) (hh : hi.size ≤ 1000000) {w : World} (hD : Doors w) : Calls Tryd.prog 28 #[.agg #[.string lo, .string hi]] w fun e w' => e = .returned (.string (txS lo hi)) ∧ Below w.heap.size w w' := by
  obtain ⟨W0, hW0⟩ : ∃ W0, W0 = w.alloc (.cells #[.string lo, .string hi] 33) := ⟨_, rfl⟩
  obtain ⟨nb, hnb⟩ : ∃ nb, nb = w.heap.size := ⟨_, rfl⟩
  have hw : Below w.heap.size w W0 := by rw [hW0]; exact below_alloc1 _ _
  have hbx : ∀ W, Below W0.heap.size W0 W → W.cell? ⟨nb, 0, none⟩ = some (.string lo) ∧ W.cell? ⟨nb, 1, none⟩ = some (.string hi) := by rw [hW0, hnb]; exact spn_box _ _ _
  obtain ⟨c0, c1⟩ := hbx W0 (Below.refl _ _)
  have hb0 : Below W0.heap.size W0 W0 := Below.refl _ _
  obtain ⟨d1, k1⟩ : ∃ p, lo.toList.isEmpty = p := ⟨_, rfl⟩
  obtain ⟨d2, k2⟩ : ∃ p, (lo.toList == hi.toList) = p := ⟨_, rfl⟩
  have e0 : (lo ++ ⟨#[58]⟩).size = lo.size + 1 := by rw [← Txt.len, Go.Joins.data_append, List.length_append, Txt.len]; rfl
  have hA := fun (W : World) (k : Below W0.heap.size W0 W) => calls_to k (spanMay_any lo hi hl hh (hD.below (below_on hw k)))
  obtain ⟨p, hp⟩ : ∃ p, p = mayS (lo.data.toList, hi.data.toList) := ⟨_, rfl⟩
  have hm : txS lo hi = if p = true then (if d2 = true then (if d1 = true then lo ++ ⟨#[58]⟩ ++ hi else lo) else lo ++ ⟨#[58]⟩ ++ hi) else ⟨#[]⟩ := by
    rw [← k1, ← k2, Txt.no_dec, Txt.eq_dec]
    unfold txS txR
    rw [← hp]
    by_cases h1 : lo = hi <;> by_cases h2 : lo.size = 0 <;> simp [h1, h2]
  rw [hm]
  rw [← hp] at hA
  clear hm hp hD
  have HA := Lib.hid hA; have Hw := Lib.hid hw; have Hbx := Lib.hid hbx; have Hb0 := Lib.hid hb0; clear hA hw hbx hb0
  go_enter Tryd.func28, Tryd.ntmps28
  go_upto_region 1 with (fail)
  rw [← hW0, ← hnb]
  clear hW0 hnb
  go_wp2_with fail
  refine (HA.out _ Hb0.out).mono ?_
  rintro e w1 ⟨rfl, hb1⟩
  obtain ⟨c0, c1⟩ := Hbx.out _ hb1
  have Hb1 := Lib.hid hb1; clear hb1
  cases p with
  | false =>
    go_wp2_with fail
    go_ret
    exact ⟨rfl, below_on Hw.out Hb1.out⟩
  | true =>
    cases d2 with
    | false =>
      go_wp2_with fail
      go_ret
      exact ⟨rfl, below_on Hw.out Hb1.out⟩
    | true =>
      cases d1 with
      | false =>
        go_wp2_with fail
        go_ret
        exact ⟨rfl, below_on Hw.out Hb1.out⟩
      | true =>
        go_wp2_with fail
        go_ret
        exact ⟨rfl, below_on Hw.out Hb1.out⟩
set_option maxRecDepth 10000 in
set_option maxHeartbeats 2000000 in
theorem within_any (lo hi lp hj : ByteArray) (hl : lo.size ≤ 1000000) (hh : hi.size ≤ 1000000) (hl2 : lp.size ≤ 1000000) (hh2 : hj.size ≤ 1000000) {w : World} (hD : Doors w) : Calls Tryd.prog 32 #[.agg #[.string lo, .string hi], .agg #[.string lp, .string hj]] w fun e w' => e = .returned (.bool (withinB (lo.data.toList, hi.data.toList) (lp.data.toList, hj.data.toList))) ∧ Below w.heap.size w w' := by
  obtain ⟨W0, hW0⟩ : ∃ W0, W0 = (w.alloc (.cells #[.string lo, .string hi] 33)).alloc (.cells #[.string lp, .string hj] 33) := ⟨_, rfl⟩
  obtain ⟨nb, hnb⟩ : ∃ nb, nb = w.heap.size := ⟨_, rfl⟩
  have hw : Below w.heap.size w W0 := by rw [hW0]; exact (below_alloc1 _ _).alloc (below_alloc1 _ _).size _
  have hbx : ∀ W, Below W0.heap.size W0 W → W.cell? ⟨nb, 0, none⟩ = some (.string lo) ∧ W.cell? ⟨nb, 1, none⟩ = some (.string hi) ∧ W.cell? ⟨nb + 1, 0, none⟩ = some (.string lp) ∧ W.cell? ⟨nb + 1, 1, none⟩ = some (.string hj) := by rw [hW0, hnb]; exact spn_box2 _ _ _ _ _
  obtain ⟨c0, c1, c2, c3⟩ := hbx W0 (Below.refl _ _)
  have hb0 : Below W0.heap.size W0 W0 := Below.refl _ _
  have hA := fun (W : World) (k : Below W0.heap.size W0 W) => calls_to k (spanMay_any lo hi hl hh (hD.below (below_on hw k)))
  have hB := fun (W : World) (k : Below W0.heap.size W0 W) => calls_to k (spanMay_any lp hj hl2 hh2 (hD.below (below_on hw k)))
  have hL := fun (W : World) (k : Below W0.heap.size W0 W) => calls_to k (ahead_any lo lp hl hl2 (hD.below (below_on hw k)))
  have hH := fun (W : World) (k : Below W0.heap.size W0 W) => calls_to k (ahead_any hj hi hh2 hh (hD.below (below_on hw k)))
  obtain ⟨p, hp⟩ : ∃ p, p = mayS (lo.data.toList, hi.data.toList) := ⟨_, rfl⟩
  obtain ⟨q, hq⟩ : ∃ p, p = mayS (lp.data.toList, hj.data.toList) := ⟨_, rfl⟩
  obtain ⟨r, hr⟩ : ∃ p, p = aheadB lo.data.toList lp.data.toList := ⟨_, rfl⟩
  obtain ⟨s, hs⟩ : ∃ p, p = aheadB hj.data.toList hi.data.toList := ⟨_, rfl⟩
  obtain ⟨d1, k1⟩ : ∃ p, lp.toList.isEmpty = p := ⟨_, rfl⟩
  obtain ⟨d2, k2⟩ : ∃ p, lo.toList.isEmpty = p := ⟨_, rfl⟩
  obtain ⟨d3, k3⟩ : ∃ p, hj.toList.isEmpty = p := ⟨_, rfl⟩
  obtain ⟨d4, k4⟩ : ∃ p, hi.toList.isEmpty = p := ⟨_, rfl⟩
  have hm : withinB (lo.data.toList, hi.data.toList) (lp.data.toList, hj.data.toList) = (p && q && (d1 || (!d2 && !r)) && (d3 || (!d4 && !s))) := by
    rw [hp, hq, hr, hs, ← k1, ← k2, ← k3, ← k4, empty_bool, empty_bool, empty_bool, empty_bool, ← decide_not, ← decide_not]
    rfl
  rw [← hp] at hA
  rw [← hq] at hB
  rw [← hr] at hL
  rw [← hs] at hH
  rw [hm]
  clear hm hp hq hr hs hD
  have HA := Lib.hid hA; have HB := Lib.hid hB; have HL := Lib.hid hL; have HH := Lib.hid hH; have Hw := Lib.hid hw; have Hbx := Lib.hid hbx; have Hb0 := Lib.hid hb0; clear hA hB hL hH hw hbx hb0
  go_enter Tryd.func32, Tryd.ntmps32
  go_upto_region 1 with (fail)
  rw [← hW0, ← hnb]
  clear hW0 hnb
  go_wp2_with fail
  refine (HA.out _ Hb0.out).mono ?_
  rintro e w1 ⟨rfl, hb1⟩
  obtain ⟨c0, c1, c2, c3⟩ := Hbx.out _ hb1
  have Hb1 := Lib.hid hb1; clear hb1
  cases p with
  | false =>
    go_wp2_with fail
    go_ret
    exact ⟨rfl, below_on Hw.out Hb1.out⟩
  | true =>
    go_wp2_with fail
    refine (HB.out _ Hb1.out).mono ?_
    rintro e w2 ⟨rfl, hb2⟩
    obtain ⟨c0, c1, c2, c3⟩ := Hbx.out _ hb2
    have Hb2 := Lib.hid hb2; clear hb2
    cases q with
    | false =>
      go_wp2_with fail
      go_ret
      exact ⟨rfl, below_on Hw.out Hb2.out⟩
    | true =>
      cases d1 with
      | false =>
        cases d2 with
        | false =>
          go_wp2_with fail
          refine (HL.out _ Hb2.out).mono ?_
          rintro e w3 ⟨rfl, hb3⟩
          obtain ⟨c0, c1, c2, c3⟩ := Hbx.out _ hb3
          have Hb3 := Lib.hid hb3; clear hb3
          cases r with
          | false =>
            cases d3 with
            | false =>
              cases d4 with
              | false =>
                go_wp2_with fail
                refine (HH.out _ Hb3.out).mono ?_
                rintro e w4 ⟨rfl, hb4⟩
                obtain ⟨c0, c1, c2, c3⟩ := Hbx.out _ hb4
                have Hb4 := Lib.hid hb4; clear hb4
                go_wp2_with fail
                go_ret
                exact ⟨rfl, below_on Hw.out Hb4.out⟩
              | true =>
                go_wp2_with fail
                go_ret
                exact ⟨rfl, below_on Hw.out Hb3.out⟩
            | true =>
              go_wp2_with fail
              go_ret
              exact ⟨rfl, below_on Hw.out Hb3.out⟩
          | true =>
            go_wp2_with fail
            go_ret
            exact ⟨rfl, below_on Hw.out Hb3.out⟩
        | true =>
          go_wp2_with fail
          go_ret
          exact ⟨rfl, below_on Hw.out Hb2.out⟩
      | true =>
        cases d3 with
        | false =>
          cases d4 with
          | false =>
            go_wp2_with fail
            refine (HH.out _ Hb2.out).mono ?_
            rintro e w3 ⟨rfl, hb3⟩
            obtain ⟨c0, c1, c2, c3⟩ := Hbx.out _ hb3
            have Hb3 := Lib.hid hb3; clear hb3
            go_wp2_with fail
            go_ret
            exact ⟨rfl, below_on Hw.out Hb3.out⟩
          | true =>
            go_wp2_with fail
            go_ret
            exact ⟨rfl, below_on Hw.out Hb2.out⟩
        | true =>
          go_wp2_with fail
          go_ret
          exact ⟨rfl, below_on Hw.out Hb2.out⟩
set_option maxRecDepth 10000 in
theorem great2_any (lo hi : ByteArray) (w : World) : Calls Tryd.prog 22 #[.agg #[.string lo, .string hi]] w fun e w' => e = .returned (.bool (decide (3000 < lo.size) || decide (3000 < hi.size))) ∧ Below w.heap.size w w' := by
  obtain ⟨W0, hW0⟩ : ∃ W0, W0 = w.alloc (.cells #[.string lo, .string hi] 33) := ⟨_, rfl⟩
  obtain ⟨nb, hnb⟩ : ∃ nb, nb = w.heap.size := ⟨_, rfl⟩
  have hw : Below w.heap.size w W0 := by rw [hW0]; exact below_alloc1 _ _
  have hbx : ∀ W, Below W0.heap.size W0 W → W.cell? ⟨nb, 0, none⟩ = some (.string lo) ∧ W.cell? ⟨nb, 1, none⟩ = some (.string hi) := by rw [hW0, hnb]; exact spn_box _ _ _
  obtain ⟨c0, c1⟩ := hbx W0 (Below.refl _ _)
  have hb0 : Below W0.heap.size W0 W0 := Below.refl _ _
  have Hw := Lib.hid hw; have Hbx := Lib.hid hbx; have Hb0 := Lib.hid hb0; clear hw hbx hb0
  go_enter Tryd.func22, Tryd.ntmps22
  go_upto_region 1 with (fail)
  rw [← hW0, ← hnb]
  clear hW0 hnb
  by_cases h1 : 3000 < lo.size
  · have k1 : decide ((3000 : Int) < (lo.size : Int)) = true := by simp; omega
    go_wp2_with fail
    go_ret
    exact ⟨ret_bool (by simp [h1]), Hw.out⟩
  · have k1 : decide ((3000 : Int) < (lo.size : Int)) = false := by simp; omega
    by_cases h2 : 3000 < hi.size
    · have k3 : decide ((3000 : Int) < (hi.size : Int)) = true := by simp; omega
      go_wp2_with fail
      go_ret
      exact ⟨ret_bool (by simp [h2]), Hw.out⟩
    · have k3 : decide ((3000 : Int) < (hi.size : Int)) = false := by simp; omega
      go_wp2_with fail
      go_ret
      exact ⟨ret_bool (by simp [h1, h2]), Hw.out⟩
end Go.Proofs.YtblkdcapampniaaDoor
