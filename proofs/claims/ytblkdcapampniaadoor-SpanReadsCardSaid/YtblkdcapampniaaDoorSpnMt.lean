/- The walks of span.Meet, Joins, Join. Condition: the library's variables as they were laid; texts of at most a million bytes. -/
import Derived.Test.YtblkdcapampniaaDoorSpnK
import Derived.Deep.RegionHeld3
import Derived.Deep.DeepCutAuto
set_option linter.unusedVariables false
set_option linter.unusedSimpArgs false
namespace Go.Proofs.YtblkdcapampniaaDoor
open Go.RowKit Go.Lib VerN

/-- what two spans have in common; the least span of two -/
def mtV (lo hi lp hj : ByteArray) : ByteArray × ByteArray := if meetOk (lo.data.toList, hi.data.toList) (lp.data.toList, hj.data.toList) = true then (laterS lo lp, soonerS hi hj) else (⟨#[]⟩, ⟨#[]⟩)
theorem mtV_data (lo hi lp hj : ByteArray) : ((mtV lo hi lp hj).1.data.toList, (mtV lo hi lp hj).2.data.toList) = meetS (lo.data.toList, hi.data.toList) (lp.data.toList, hj.data.toList) := by
  unfold mtV meetS
  split
  · exact Prod.ext (laterS_data _ _) (soonerS_data _ _)
  · rfl
theorem if_data (P : Prop) [Decidable P] (x y : ByteArray) : (if P then x else y).data.toList = if P then x.data.toList else y.data.toList := by split <;> rfl
def jnV (lo hi lp hj : ByteArray) : ByteArray × ByteArray := if mayS (lo.data.toList, hi.data.toList) = true ∧ mayS (lp.data.toList, hj.data.toList) = true then (if lo.size ≠ 0 ∧ lp.size ≠ 0 then soonerS lo lp else ⟨#[]⟩, if hi.size ≠ 0 ∧ hj.size ≠ 0 then laterS hi hj else ⟨#[]⟩) else (⟨#[]⟩, ⟨#[]⟩)
theorem jnV_data (lo hi lp hj : ByteArray) : ((jnV lo hi lp hj).1.data.toList, (jnV lo hi lp hj).2.data.toList) = joinS (lo.data.toList, hi.data.toList) (lp.data.toList, hj.data.toList) := by
  unfold jnV joinS
  split
  · simp only [ne_eq, nil_size]
    exact Prod.ext (by rw [← soonerS_data]; exact if_data _ _ _) (by rw [← laterS_data]; exact if_data _ _ _)
  · rfl
theorem ret_spn1 {a b c d : ByteArray} (h1 : a = c) (h2 : b = d) : Ending.returned (.agg #[.string a, .string b]) = .returned (.agg #[.string c, .string d]) := by rw [h1, h2]
def CutBox (w0 : World) (x y : ByteArray) (v : Value) (W : World) : Prop := ∃ g, v = .pointer (some ⟨g, 0, none⟩) ∧ W.heap[g]? = some (.cells #[.string x, .string y] 33 (0, 0)) ∧ Below w0.heap.size w0 W
set_option maxRecDepth 10000 in
set_option maxHeartbeats 4000000 in
theorem meet_any (lo hi lp hj : ByteArray) (hl : lo.size ≤ 1000000) (hh : hi.size ≤ 1000000) (hl2 : lp.size ≤ 1000000) (hh2 : hj.size ≤ 1000000) {w : World} (hD : Doors w) : Calls Tryd.prog 33 #[.agg #[.string lo, .string hi], .agg #[.string lp, .string hj]] w fun e w' => e = .returned (.tuple #[.agg #[.string (mtV lo hi lp hj).1, .string (mtV lo hi lp hj).2], .bool (meetOk (lo.data.toList, hi.data.toList) (lp.data.toList, hj.data.toList))]) ∧ Below w.heap.size w w' := by
  obtain ⟨w0, hW0⟩ : ∃ W0, W0 = ((w.alloc (.cells #[.string lo, .string hi] 33)).alloc (.cells #[.string lp, .string hj] 33)).alloc (.cells #[.string ⟨#[]⟩, .string ⟨#[]⟩] 33) := ⟨_, rfl⟩
  obtain ⟨nb, hnb⟩ : ∃ nb, nb = w.heap.size := ⟨_, rfl⟩
  have hw : Below w.heap.size w w0 := by rw [hW0]; exact ((below_alloc1 _ _).alloc (below_alloc1 _ _).size _).alloc ((below_alloc1 _ _).alloc (below_alloc1 _ _).size _).size _
  have hb0 : Below w0.heap.size w0 w0 := Below.refl _ _
  have ha : w0.heap[nb]? = some (.cells #[.string lo, .string hi] 33 (0, 0)) := by rw [hW0, hnb]; exact pbox3_0 _ _ _ _ _ _ _
  obtain ⟨a0, a1, a2, a3⟩ := pair_cells ha
  have hb : w0.heap[nb + 1]? = some (.cells #[.string lp, .string hj] 33 (0, 0)) := by rw [hW0, hnb]; exact pbox3_1 _ _ _ _ _ _ _
  obtain ⟨b0, b1, b2, b3⟩ := pair_cells hb
  have hr : w0.heap[nb + 1 + 1]? = some (.cells #[.string ⟨#[]⟩, .string ⟨#[]⟩] 33 (0, 0)) := by rw [hW0, hnb]; exact pbox3_2 _ _ _ _ _ _ _
  obtain ⟨r0, r1, r2, r3⟩ := pair_cells hr
  have hl3 := laterS_size hl hl2
  have hh3 := soonerS_size hh hh2
  obtain ⟨lt, hlt⟩ : ∃ x, x = laterS lo lp := ⟨_, rfl⟩
  obtain ⟨st, hst⟩ : ∃ x, x = soonerS hi hj := ⟨_, rfl⟩
  rw [← hlt] at hl3
  rw [← hst] at hh3
  have hA := fun (W : World) (k : Below w0.heap.size w0 W) => spanMay_any lo hi hl hh (hD.below (below_on hw k))
  have hB := fun (W : World) (k : Below w0.heap.size w0 W) => spanMay_any lp hj hl2 hh2 (hD.below (below_on hw k))
  have hO := fun (W : World) (k : Below w0.heap.size w0 W) => spanMay_any lt st hl3 hh3 (hD.below (below_on hw k))
  have hL := fun (W : World) (k : Below w0.heap.size w0 W) => later_any lo lp hl hl2 (hD.below (below_on hw k))
  have hS := fun (W : World) (k : Below w0.heap.size w0 W) => sooner_any hi hj hh hh2 (hD.below (below_on hw k))
  obtain ⟨p, hp⟩ : ∃ x, x = mayS (lo.data.toList, hi.data.toList) := ⟨_, rfl⟩
  obtain ⟨q, hq⟩ : ∃ x, x = mayS (lp.data.toList, hj.data.toList) := ⟨_, rfl⟩
  obtain ⟨s, hs⟩ : ∃ x, x = mayS (lt.data.toList, st.data.toList) := ⟨_, rfl⟩
  have hok : meetOk (lo.data.toList, hi.data.toList) (lp.data.toList, hj.data.toList) = (p && q && s) := by
    unfold meetOk meetO
    rw [hp, hq, hs, hlt, hst, laterS_data, soonerS_data]
  have hval : mtV lo hi lp hj = if (p && q && s) = true then (lt, st) else (⟨#[]⟩, ⟨#[]⟩) := by unfold mtV; rw [hok, hlt, hst]
  have hle : w.heap.size ≤ nb + 1 + 1 := by omega
  rw [← hlt] at hL
  rw [← hst] at hS
  rw [← hp] at hA
  rw [← hq] at hB
  rw [← hs] at hO
  clear hp hq hs hlt hst
  have HA := Lib.hid hA; have HB := Lib.hid hB; have HO := Lib.hid hO; have HL := Lib.hid hL; have HS := Lib.hid hS; have Hok := Lib.hid hok; have Hval := Lib.hid hval; have Hle := Lib.hid hle; have Hw := Lib.hid hw; have Hb0 := Lib.hid hb0; have HD := Lib.hid hD; have Ha := Lib.hid ha; have Hb := Lib.hid hb; have Hr := Lib.hid hr; clear hA hB hO hL hS hok hval hle hw hb0 hD ha hb hr
  go_enter Tryd.func33, Tryd.ntmps33
  go_upto_region 1 with (fail)
  rw [← hW0, ← hnb]
  clear hW0 hnb
  have hczf : ∀ w', Below w0.heap.size w0 w' → w'.cell? ⟨nb, 0, none⟩ = some (.string lo) ∧ w'.cell? ⟨nb, 1, none⟩ = some (.string hi) ∧ w'.cell? ⟨nb + 1, 0, none⟩ = some (.string lp) ∧ w'.cell? ⟨nb + 1, 1, none⟩ = some (.string hj) := fun W k => by
    have h1 := pair_cells (heap_below k Ha.out)
    have h2 := pair_cells (heap_below k Hb.out)
    exact ⟨h1.1, h1.2.1, h2.1, h2.2.1⟩
  go_cut [6] (fun x W => CutBox w0 lt st x W)
  case first =>
    have hbz := bel_drewN Hb0.out 1
    have hcz := hczf _ hbz
    have Hcz := Lib.hid hczf
    clear hczf
    go_region_held3 (fun w' => w'.cell? ⟨nb, 0, none⟩ = some (.string lo) ∧ w'.cell? ⟨nb, 1, none⟩ = some (.string hi) ∧ w'.cell? ⟨nb + 1, 0, none⟩ = some (.string lp) ∧ w'.cell? ⟨nb + 1, 1, none⟩ = some (.string hj)) (first | exact hcz | exact Hcz.out _ (hbz.alloc hbz.size _) | exact Hcz.out _ (pair_bel _ _ hbz hgez) | go_keep) (first
      | (go_at_call 52; refine (HL.out _ (by exact hbz)).mono ?_; rintro e wz ⟨rfl, hsz⟩; (try (replace hgz := heap_below hsz hgz; obtain ⟨z0, z1, z2, z3⟩ := pair_cells hgz)); replace hbz := Below.trans (by exact hbz) (hsz.mono (Below.size (by exact hbz))); replace hcz := Hcz.out _ hbz)
      | (go_at_call 52; refine (HL.out _ (by exact hbz.alloc hbz.size _)).mono ?_; rintro e wz ⟨rfl, hsz⟩; have hgz := heap_below hsz (heap_alloc_new _ _); have hgez := hbz.size; obtain ⟨z0, z1, z2, z3⟩ := pair_cells hgz; replace hbz := Below.trans (by exact hbz.alloc hbz.size _) (hsz.mono (Below.size (by exact hbz.alloc hbz.size _))); replace hcz := Hcz.out _ hbz)
      | (go_at_call 53; refine (HS.out _ (by exact hbz)).mono ?_; rintro e wz ⟨rfl, hsz⟩; (try (replace hgz := heap_below hsz hgz; obtain ⟨z0, z1, z2, z3⟩ := pair_cells hgz)); replace hbz := Below.trans (by exact hbz) (hsz.mono (Below.size (by exact hbz))); replace hcz := Hcz.out _ hbz)
      | (go_at_call 53; refine (HS.out _ (by exact hbz.alloc hbz.size _)).mono ?_; rintro e wz ⟨rfl, hsz⟩; have hgz := heap_below hsz (heap_alloc_new _ _); have hgez := hbz.size; obtain ⟨z0, z1, z2, z3⟩ := pair_cells hgz; replace hbz := Below.trans (by exact hbz.alloc hbz.size _) (hsz.mono (Below.size (by exact hbz.alloc hbz.size _))); replace hcz := Hcz.out _ hbz))
    all_goals
      go_wp2_with fail
      go_meet
      first
        | exact ⟨_, rfl, heap_alloc_new _ _, hbz.alloc hbz.size _⟩
        | exact ⟨_, rfl, pair_set _ _ hgz, pair_bel _ _ hbz hgez⟩
  case rest =>
    obtain ⟨go, rfl, ho, hb1⟩ := hcut
    have ha := heap_below hb1 Ha.out
    have hb := heap_below hb1 Hb.out
    have hr := heap_below hb1 Hr.out
    clear Ha a0 a1 a2 a3 Hb b0 b1 b2 b3 Hr r0 r1 r2 r3 hczf
    obtain ⟨a0, a1, a2, a3⟩ := pair_cells ha
    obtain ⟨b0, b1, b2, b3⟩ := pair_cells hb
    obtain ⟨r0, r1, r2, r3⟩ := pair_cells hr
    obtain ⟨o0, o1, o2, o3⟩ := pair_cells ho
    have Hb1 := Lib.hid hb1; have Ha := Lib.hid ha; have Hb := Lib.hid hb; have Hr := Lib.hid hr; have Ho := Lib.hid ho; clear hb1 ha hb hr ho
    go_wp2_with fail
    refine (HA.out _ Hb1.out).mono ?_
    rintro e w2 ⟨rfl, hs⟩
    have hb2 := Hb1.out.trans (hs.mono Hb1.out.size)
    have ha := heap_below hs Ha.out
    clear Ha a0 a1 a2 a3
    obtain ⟨a0, a1, a2, a3⟩ := pair_cells ha
    have hb := heap_below hs Hb.out
    clear Hb b0 b1 b2 b3
    obtain ⟨b0, b1, b2, b3⟩ := pair_cells hb
    have hr := heap_below hs Hr.out
    clear Hr r0 r1 r2 r3
    obtain ⟨r0, r1, r2, r3⟩ := pair_cells hr
    have ho := heap_below hs Ho.out
    clear Ho o0 o1 o2 o3
    obtain ⟨o0, o1, o2, o3⟩ := pair_cells ho
    have Hs := Lib.hid hs; have Hb2 := Lib.hid hb2; have Ha := Lib.hid ha; have Hb := Lib.hid hb; have Hr := Lib.hid hr; have Ho := Lib.hid ho; clear hs hb2 ha hb hr ho
    cases p with
    | false =>
      go_wp2_with fail
      refine bodyPost_spn2 rfl rfl rfl (pair_set _ _ Hr.out) rfl ?_
      exact ⟨ret_spn2 (by rw [Hval.out]; rfl) (by rw [Hval.out]; rfl) (by rw [Hok.out]; rfl), pair_bel _ _ (below_on Hw.out Hb2.out) Hle.out⟩
    | true =>
      go_wp2_with fail
      refine (HB.out _ Hb2.out).mono ?_
      rintro e w3 ⟨rfl, hs⟩
      have hb3 := Hb2.out.trans (hs.mono Hb2.out.size)
      have ha := heap_below hs Ha.out
      clear Ha a0 a1 a2 a3
      obtain ⟨a0, a1, a2, a3⟩ := pair_cells ha
      have hb := heap_below hs Hb.out
      clear Hb b0 b1 b2 b3
      obtain ⟨b0, b1, b2, b3⟩ := pair_cells hb
      have hr := heap_below hs Hr.out
      clear Hr r0 r1 r2 r3
      obtain ⟨r0, r1, r2, r3⟩ := pair_cells hr
      have ho := heap_below hs Ho.out
      clear Ho o0 o1 o2 o3
      obtain ⟨o0, o1, o2, o3⟩ := pair_cells ho
      have Hs := Lib.hid hs; have Hb3 := Lib.hid hb3; have Ha := Lib.hid ha; have Hb := Lib.hid hb; have Hr := Lib.hid hr; have Ho := Lib.hid ho; clear hs hb3 ha hb hr ho
      cases q with
      | false =>
        go_wp2_with fail
        refine bodyPost_spn2 rfl rfl rfl (pair_set _ _ Hr.out) rfl ?_
        exact ⟨ret_spn2 (by rw [Hval.out]; rfl) (by rw [Hval.out]; rfl) (by rw [Hok.out]; rfl), pair_bel _ _ (below_on Hw.out Hb3.out) Hle.out⟩
      | true =>
        go_wp2_with fail
        refine (HO.out _ Hb3.out).mono ?_
        rintro e w4 ⟨rfl, hs⟩
        have hb4 := Hb3.out.trans (hs.mono Hb3.out.size)
        have ha := heap_below hs Ha.out
        clear Ha a0 a1 a2 a3
        obtain ⟨a0, a1, a2, a3⟩ := pair_cells ha
        have hb := heap_below hs Hb.out
        clear Hb b0 b1 b2 b3
        obtain ⟨b0, b1, b2, b3⟩ := pair_cells hb
        have hr := heap_below hs Hr.out
        clear Hr r0 r1 r2 r3
        obtain ⟨r0, r1, r2, r3⟩ := pair_cells hr
        have ho := heap_below hs Ho.out
        clear Ho o0 o1 o2 o3
        obtain ⟨o0, o1, o2, o3⟩ := pair_cells ho
        have Hs := Lib.hid hs; have Hb4 := Lib.hid hb4; have Ha := Lib.hid ha; have Hb := Lib.hid hb; have Hr := Lib.hid hr; have Ho := Lib.hid ho; clear hs hb4 ha hb hr ho
        cases s with
        | false =>
          go_wp2_with fail
          refine bodyPost_spn2 rfl rfl rfl (pair_set _ _ Hr.out) rfl ?_
          exact ⟨ret_spn2 (by rw [Hval.out]; rfl) (by rw [Hval.out]; rfl) (by rw [Hok.out]; rfl), pair_bel _ _ (below_on Hw.out Hb4.out) Hle.out⟩
        | true =>
          go_wp2_with fail
          refine bodyPost_spn2 rfl rfl rfl (pair_set _ _ Hr.out) rfl ?_
          exact ⟨ret_spn2 (by rw [Hval.out]; rfl) (by rw [Hval.out]; rfl) (by rw [Hok.out]; rfl), pair_bel _ _ (below_on Hw.out Hb4.out) Hle.out⟩
set_option maxRecDepth 10000 in
set_option maxHeartbeats 2000000 in
theorem joins_any (lo hi lp hj : ByteArray) (hl : lo.size ≤ 1000000) (hh : hi.size ≤ 1000000) (hl2 : lp.size ≤ 1000000) (hh2 : hj.size ≤ 1000000) {w : World} (hD : Doors w) : Calls Tryd.prog 35 #[.agg #[.string lo, .string hi], .agg #[.string lp, .string hj]] w fun e w' => e = .returned (.bool (meetOk (lo.data.toList, hi.data.toList) (lp.data.toList, hj.data.toList))) ∧ Below w.heap.size w w' := by
  obtain ⟨w0, hW0⟩ : ∃ W0, W0 = (w.alloc (.cells #[.string lo, .string hi] 33)).alloc (.cells #[.string lp, .string hj] 33) := ⟨_, rfl⟩
  obtain ⟨nb, hnb⟩ : ∃ nb, nb = w.heap.size := ⟨_, rfl⟩
  have hw : Below w.heap.size w w0 := by rw [hW0]; exact (below_alloc1 _ _).alloc (below_alloc1 _ _).size _
  have hb0 : Below w0.heap.size w0 w0 := Below.refl _ _
  have ha : w0.heap[nb]? = some (.cells #[.string lo, .string hi] 33 (0, 0)) := by rw [hW0, hnb]; exact pbox2_0 _ _ _ _ _
  obtain ⟨a0, a1, a2, a3⟩ := pair_cells ha
  have hb : w0.heap[nb + 1]? = some (.cells #[.string lp, .string hj] 33 (0, 0)) := by rw [hW0, hnb]; exact pbox2_1 _ _ _ _ _
  obtain ⟨b0, b1, b2, b3⟩ := pair_cells hb
  have hA := fun (W : World) (k : Below w0.heap.size w0 W) => meet_any lo hi lp hj hl hh hl2 hh2 (hD.below (below_on hw k))
  obtain ⟨p, hp⟩ : ∃ x, x = meetOk (lo.data.toList, hi.data.toList) (lp.data.toList, hj.data.toList) := ⟨_, rfl⟩
  obtain ⟨v, hv⟩ : ∃ x, x = mtV lo hi lp hj := ⟨_, rfl⟩
  rw [← hp]
  rw [← hp, ← hv] at hA
  clear hp hv hD
  have HA := Lib.hid hA; have Hw := Lib.hid hw; have Hb0 := Lib.hid hb0; have Ha := Lib.hid ha; have Hb := Lib.hid hb; clear hA hw hb0 ha hb
  go_enter Tryd.func35, Tryd.ntmps35
  go_upto_region 1 with (fail)
  rw [← hW0, ← hnb]
  clear hW0 hnb
  go_wp2_with fail
  refine (HA.out _ Hb0.out).mono ?_
  rintro e w1 ⟨rfl, hs⟩
  have hb1 := Hb0.out.trans (hs.mono Hb0.out.size)
  have ha := heap_below hs Ha.out
  clear Ha a0 a1 a2 a3
  obtain ⟨a0, a1, a2, a3⟩ := pair_cells ha
  have hb := heap_below hs Hb.out
  clear Hb b0 b1 b2 b3
  obtain ⟨b0, b1, b2, b3⟩ := pair_cells hb
  have Hs := Lib.hid hs; have Hb1 := Lib.hid hb1; have Ha := Lib.hid ha; have Hb := Lib.hid hb; clear hs hb1 ha hb
  go_wp2_with fail
  go_ret
  exact ⟨rfl, below_on Hw.out (Hb1.out.alloc Hb1.out.size _)⟩
set_option maxRecDepth 10000 in
set_option maxHeartbeats 4000000 in
theorem join_any (lo hi lp hj : ByteArray) (hl : lo.size ≤ 1000000) (hh : hi.size ≤ 1000000) (hl2 : lp.size ≤ 1000000) (hh2 : hj.size ≤ 1000000) {w : World} (hD : Doors w) : Calls Tryd.prog 36 #[.agg #[.string lo, .string hi], .agg #[.string lp, .string hj]] w fun e w' => e = .returned (.agg #[.string (jnV lo hi lp hj).1, .string (jnV lo hi lp hj).2]) ∧ Below w.heap.size w w' := by
  obtain ⟨w0, hW0⟩ : ∃ W0, W0 = ((w.alloc (.cells #[.string lo, .string hi] 33)).alloc (.cells #[.string lp, .string hj] 33)).alloc (.cells #[.string ⟨#[]⟩, .string ⟨#[]⟩] 33) := ⟨_, rfl⟩
  obtain ⟨nb, hnb⟩ : ∃ nb, nb = w.heap.size := ⟨_, rfl⟩
  have hw : Below w.heap.size w w0 := by rw [hW0]; exact ((below_alloc1 _ _).alloc (below_alloc1 _ _).size _).alloc ((below_alloc1 _ _).alloc (below_alloc1 _ _).size _).size _
  have hb0 : Below w0.heap.size w0 w0 := Below.refl _ _
  have ha : w0.heap[nb]? = some (.cells #[.string lo, .string hi] 33 (0, 0)) := by rw [hW0, hnb]; exact pbox3_0 _ _ _ _ _ _ _
  obtain ⟨a0, a1, a2, a3⟩ := pair_cells ha
  have hb : w0.heap[nb + 1]? = some (.cells #[.string lp, .string hj] 33 (0, 0)) := by rw [hW0, hnb]; exact pbox3_1 _ _ _ _ _ _ _
  obtain ⟨b0, b1, b2, b3⟩ := pair_cells hb
  have hr : w0.heap[nb + 1 + 1]? = some (.cells #[.string ⟨#[]⟩, .string ⟨#[]⟩] 33 (0, 0)) := by rw [hW0, hnb]; exact pbox3_2 _ _ _ _ _ _ _
  obtain ⟨r0, r1, r2, r3⟩ := pair_cells hr
  have hA := fun (W : World) (k : Below w0.heap.size w0 W) => spanMay_any lo hi hl hh (hD.below (below_on hw k))
  have hB := fun (W : World) (k : Below w0.heap.size w0 W) => spanMay_any lp hj hl2 hh2 (hD.below (below_on hw k))
  have hS := fun (W : World) (k : Below w0.heap.size w0 W) => sooner_any lo lp hl hl2 (hD.below (below_on hw k))
  have hL := fun (W : World) (k : Below w0.heap.size w0 W) => later_any hi hj hh hh2 (hD.below (below_on hw k))
  obtain ⟨lt, hlt⟩ : ∃ x, x = laterS hi hj := ⟨_, rfl⟩
  obtain ⟨st, hst⟩ : ∃ x, x = soonerS lo lp := ⟨_, rfl⟩
  obtain ⟨p, hp⟩ : ∃ x, x = mayS (lo.data.toList, hi.data.toList) := ⟨_, rfl⟩
  obtain ⟨q, hq⟩ : ∃ x, x = mayS (lp.data.toList, hj.data.toList) := ⟨_, rfl⟩
  obtain ⟨d1, k1⟩ : ∃ x, lo.toList.isEmpty = x := ⟨_, rfl⟩
  obtain ⟨d2, k2⟩ : ∃ x, lp.toList.isEmpty = x := ⟨_, rfl⟩
  obtain ⟨d3, k3⟩ : ∃ x, hi.toList.isEmpty = x := ⟨_, rfl⟩
  obtain ⟨d4, k4⟩ : ∃ x, hj.toList.isEmpty = x := ⟨_, rfl⟩
  have hval : jnV lo hi lp hj = if p = true ∧ q = true then (if d1 = false ∧ d2 = false then st else ⟨#[]⟩, if d3 = false ∧ d4 = false then lt else ⟨#[]⟩) else (⟨#[]⟩, ⟨#[]⟩) := by
    unfold jnV
    rw [← hp, ← hq, ← hlt, ← hst]
    simp only [← k1, ← k2, ← k3, ← k4, Txt.no_dec, decide_eq_false_iff_not, ne_eq]
  have hle : w.heap.size ≤ nb + 1 + 1 := by omega
  rw [← hlt] at hL
  rw [← hst] at hS
  rw [← hp] at hA
  rw [← hq] at hB
  clear hp hq hlt hst hD
  have HA := Lib.hid hA; have HB := Lib.hid hB; have HL := Lib.hid hL; have HS := Lib.hid hS; have Hval := Lib.hid hval; have Hle := Lib.hid hle; have Hw := Lib.hid hw; have Hb0 := Lib.hid hb0; have Ha := Lib.hid ha; have Hb := Lib.hid hb; have Hr := Lib.hid hr; clear hA hB hL hS hval hle hw hb0 ha hb hr
  go_enter Tryd.func36, Tryd.ntmps36
  go_upto_region 1 with (fail)
  rw [← hW0, ← hnb]
  clear hW0 hnb
  go_wp2_with fail
  refine (HA.out _ Hb0.out).mono ?_
  rintro e w1 ⟨rfl, hs⟩
  have hb1 := Hb0.out.trans (hs.mono Hb0.out.size)
  have ha := heap_below hs Ha.out
  clear Ha a0 a1 a2 a3
  obtain ⟨a0, a1, a2, a3⟩ := pair_cells ha
  have hb := heap_below hs Hb.out
  clear Hb b0 b1 b2 b3
  obtain ⟨b0, b1, b2, b3⟩ := pair_cells hb
  have hr := heap_below hs Hr.out
  clear Hr r0 r1 r2 r3
  obtain ⟨r0, r1, r2, r3⟩ := pair_cells hr
  have Hs := Lib.hid hs; have Hb1 := Lib.hid hb1; have Ha := Lib.hid ha; have Hb := Lib.hid hb; have Hr := Lib.hid hr; clear hs hb1 ha hb hr
  cases p with
  | false =>
    go_wp2_with fail
    refine bodyPost_spn1 rfl rfl (pair_set _ _ Hr.out) rfl ?_
    exact ⟨ret_spn1 (by rw [Hval.out]; rfl) (by rw [Hval.out]; rfl), pair_bel _ _ (below_on Hw.out Hb1.out) Hle.out⟩
  | true =>
    go_wp2_with fail
    refine (HB.out _ Hb1.out).mono ?_
    rintro e w2 ⟨rfl, hs⟩
    have hb2 := Hb1.out.trans (hs.mono Hb1.out.size)
    have ha := heap_below hs Ha.out
    clear Ha a0 a1 a2 a3
    obtain ⟨a0, a1, a2, a3⟩ := pair_cells ha
    have hb := heap_below hs Hb.out
    clear Hb b0 b1 b2 b3
    obtain ⟨b0, b1, b2, b3⟩ := pair_cells hb
    have hr := heap_below hs Hr.out
    clear Hr r0 r1 r2 r3
    obtain ⟨r0, r1, r2, r3⟩ := pair_cells hr
    have Hs := Lib.hid hs; have Hb2 := Lib.hid hb2; have Ha := Lib.hid ha; have Hb := Lib.hid hb; have Hr := Lib.hid hr; clear hs hb2 ha hb hr
    cases q with
    | false =>
      go_wp2_with fail
      refine bodyPost_spn1 rfl rfl (pair_set _ _ Hr.out) rfl ?_
      exact ⟨ret_spn1 (by rw [Hval.out]; rfl) (by rw [Hval.out]; rfl), pair_bel _ _ (below_on Hw.out Hb2.out) Hle.out⟩
    | true =>
      go_upto_region 4 with (fail)
      obtain ⟨w3, hv⟩ : ∃ W, W = w2.alloc (.cells #[.string ⟨#[]⟩, .string ⟨#[]⟩] 33) := ⟨_, rfl⟩
      obtain ⟨go, hg⟩ : ∃ g, g = w2.heap.size := ⟨_, rfl⟩
      have hs : Below w2.heap.size w2 w3 := by rw [hv]; exact below_alloc1 _ _
      have hb3 := Hb2.out.trans (hs.mono Hb2.out.size)
      have hgeo : w0.heap.size ≤ go := by rw [hg]; exact Hb2.out.size
      have hneao : nb ≠ go := by have := (Array.getElem?_eq_some_iff.1 Ha.out).1; omega
      have hnebo : nb + 1 ≠ go := by have := (Array.getElem?_eq_some_iff.1 Hb.out).1; omega
      have hnero : nb + 1 + 1 ≠ go := by have := (Array.getElem?_eq_some_iff.1 Hr.out).1; omega
      have ha := heap_below hs Ha.out
      clear Ha a0 a1 a2 a3
      obtain ⟨a0, a1, a2, a3⟩ := pair_cells ha
      have hb := heap_below hs Hb.out
      clear Hb b0 b1 b2 b3
      obtain ⟨b0, b1, b2, b3⟩ := pair_cells hb
      have hr := heap_below hs Hr.out
      clear Hr r0 r1 r2 r3
      obtain ⟨r0, r1, r2, r3⟩ := pair_cells hr
      have ho : w3.heap[go]? = some (.cells #[.string ⟨#[]⟩, .string ⟨#[]⟩] 33 (0, 0)) := by rw [hv, hg]; exact heap_alloc_new _ _
      obtain ⟨o0, o1, o2, o3⟩ := pair_cells ho
      rw [← hv, ← hg]
      clear hv hg
      have Hs := Lib.hid hs; have Hb3 := Lib.hid hb3; have Hgeo := Lib.hid hgeo; have Ha := Lib.hid ha; have Hb := Lib.hid hb; have Hr := Lib.hid hr; have Ho := Lib.hid ho; have Hneao := Lib.hid hneao; have Hnebo := Lib.hid hnebo; have Hnero := Lib.hid hnero; clear hs hb3 hgeo ha hb hr ho hneao hnebo hnero
      cases d1 with
      | false =>
        cases d2 with
        | false =>
          go_wp2_with fail
          refine (HS.out _ Hb3.out).mono ?_
          rintro e w4 ⟨rfl, hs⟩
          have hb4 := Hb3.out.trans (hs.mono Hb3.out.size)
          have ha := heap_below hs Ha.out
          clear Ha a0 a1 a2 a3
          obtain ⟨a0, a1, a2, a3⟩ := pair_cells ha
          have hb := heap_below hs Hb.out
          clear Hb b0 b1 b2 b3
          obtain ⟨b0, b1, b2, b3⟩ := pair_cells hb
          have hr := heap_below hs Hr.out
          clear Hr r0 r1 r2 r3
          obtain ⟨r0, r1, r2, r3⟩ := pair_cells hr
          have ho := heap_below hs Ho.out
          clear Ho o0 o1 o2 o3
          obtain ⟨o0, o1, o2, o3⟩ := pair_cells ho
          have Hs := Lib.hid hs; have Hb4 := Lib.hid hb4; have Ha := Lib.hid ha; have Hb := Lib.hid hb; have Hr := Lib.hid hr; have Ho := Lib.hid ho; clear hs hb4 ha hb hr ho
          go_upto_region 6 with (fail)
          obtain ⟨w5, hv⟩ : ∃ W, W = w4.setCell ⟨go, 0, none⟩ (.string st) := ⟨_, rfl⟩
          have hb5 : Below w0.heap.size w0 w5 := by rw [hv]; exact Hb4.out.setCell (p := ⟨go, 0, none⟩) Hgeo.out _
          have ha : w5.heap[nb]? = some (.cells #[.string lo, .string hi] 33 (0, 0)) := by rw [hv, Below.heap_setCell _ _ _ _ Hneao.out]; exact Ha.out
          clear Ha a0 a1 a2 a3
          obtain ⟨a0, a1, a2, a3⟩ := pair_cells ha
          have hb : w5.heap[nb + 1]? = some (.cells #[.string lp, .string hj] 33 (0, 0)) := by rw [hv, Below.heap_setCell _ _ _ _ Hnebo.out]; exact Hb.out
          clear Hb b0 b1 b2 b3
          obtain ⟨b0, b1, b2, b3⟩ := pair_cells hb
          have hr : w5.heap[nb + 1 + 1]? = some (.cells #[.string ⟨#[]⟩, .string ⟨#[]⟩] 33 (0, 0)) := by rw [hv, Below.heap_setCell _ _ _ _ Hnero.out]; exact Hr.out
          clear Hr r0 r1 r2 r3
          obtain ⟨r0, r1, r2, r3⟩ := pair_cells hr
          have ho : w5.heap[go]? = some (.cells #[.string st, .string ⟨#[]⟩] 33 (0, 0)) := by rw [hv]; exact heap_setCell_same _ go 0 _ _ _ Ho.out
          clear Ho o0 o1 o2 o3
          obtain ⟨o0, o1, o2, o3⟩ := pair_cells ho
          rw [← hv]
          clear hv
          have Hb5 := Lib.hid hb5; have Ha := Lib.hid ha; have Hb := Lib.hid hb; have Hr := Lib.hid hr; have Ho := Lib.hid ho; clear hb5 ha hb hr ho
          cases d3 with
          | false =>
            cases d4 with
            | false =>
              go_wp2_with fail
              refine (HL.out _ Hb5.out).mono ?_
              rintro e w6 ⟨rfl, hs⟩
              have hb6 := Hb5.out.trans (hs.mono Hb5.out.size)
              have ha := heap_below hs Ha.out
              clear Ha a0 a1 a2 a3
              obtain ⟨a0, a1, a2, a3⟩ := pair_cells ha
              have hb := heap_below hs Hb.out
              clear Hb b0 b1 b2 b3
              obtain ⟨b0, b1, b2, b3⟩ := pair_cells hb
              have hr := heap_below hs Hr.out
              clear Hr r0 r1 r2 r3
              obtain ⟨r0, r1, r2, r3⟩ := pair_cells hr
              have ho := heap_below hs Ho.out
              clear Ho o0 o1 o2 o3
              obtain ⟨o0, o1, o2, o3⟩ := pair_cells ho
              have Hs := Lib.hid hs; have Hb6 := Lib.hid hb6; have Ha := Lib.hid ha; have Hb := Lib.hid hb; have Hr := Lib.hid hr; have Ho := Lib.hid ho; clear hs hb6 ha hb hr ho
              go_upto_region 8 with (fail)
              obtain ⟨w7, hv⟩ : ∃ W, W = w6.setCell ⟨go, 1, none⟩ (.string lt) := ⟨_, rfl⟩
              have hb7 : Below w0.heap.size w0 w7 := by rw [hv]; exact Hb6.out.setCell (p := ⟨go, 1, none⟩) Hgeo.out _
              have ha : w7.heap[nb]? = some (.cells #[.string lo, .string hi] 33 (0, 0)) := by rw [hv, Below.heap_setCell _ _ _ _ Hneao.out]; exact Ha.out
              clear Ha a0 a1 a2 a3
              obtain ⟨a0, a1, a2, a3⟩ := pair_cells ha
              have hb : w7.heap[nb + 1]? = some (.cells #[.string lp, .string hj] 33 (0, 0)) := by rw [hv, Below.heap_setCell _ _ _ _ Hnebo.out]; exact Hb.out
              clear Hb b0 b1 b2 b3
              obtain ⟨b0, b1, b2, b3⟩ := pair_cells hb
              have hr : w7.heap[nb + 1 + 1]? = some (.cells #[.string ⟨#[]⟩, .string ⟨#[]⟩] 33 (0, 0)) := by rw [hv, Below.heap_setCell _ _ _ _ Hnero.out]; exact Hr.out
              clear Hr r0 r1 r2 r3
              obtain ⟨r0, r1, r2, r3⟩ := pair_cells hr
              have ho : w7.heap[go]? = some (.cells #[.string st, .string lt] 33 (0, 0)) := by rw [hv]; exact heap_setCell_same _ go 1 _ _ _ Ho.out
              clear Ho o0 o1 o2 o3
              obtain ⟨o0, o1, o2, o3⟩ := pair_cells ho
              rw [← hv]
              clear hv
              have Hb7 := Lib.hid hb7; have Ha := Lib.hid ha; have Hb := Lib.hid hb; have Hr := Lib.hid hr; have Ho := Lib.hid ho; clear hb7 ha hb hr ho
              go_wp2_with fail
              refine bodyPost_spn1 rfl rfl (pair_set _ _ Hr.out) rfl ?_
              exact ⟨ret_spn1 (by rw [Hval.out]; rfl) (by rw [Hval.out]; rfl), pair_bel _ _ (below_on Hw.out Hb7.out) Hle.out⟩
            | true =>
              go_wp2_with fail
              refine bodyPost_spn1 rfl rfl (pair_set _ _ Hr.out) rfl ?_
              exact ⟨ret_spn1 (by rw [Hval.out]; rfl) (by rw [Hval.out]; rfl), pair_bel _ _ (below_on Hw.out Hb5.out) Hle.out⟩
          | true =>
            go_wp2_with fail
            refine bodyPost_spn1 rfl rfl (pair_set _ _ Hr.out) rfl ?_
            exact ⟨ret_spn1 (by rw [Hval.out]; rfl) (by rw [Hval.out]; rfl), pair_bel _ _ (below_on Hw.out Hb5.out) Hle.out⟩
        | true =>
          cases d3 with
          | false =>
            cases d4 with
            | false =>
              go_wp2_with fail
              refine (HL.out _ Hb3.out).mono ?_
              rintro e w4 ⟨rfl, hs⟩
              have hb4 := Hb3.out.trans (hs.mono Hb3.out.size)
              have ha := heap_below hs Ha.out
              clear Ha a0 a1 a2 a3
              obtain ⟨a0, a1, a2, a3⟩ := pair_cells ha
              have hb := heap_below hs Hb.out
              clear Hb b0 b1 b2 b3
              obtain ⟨b0, b1, b2, b3⟩ := pair_cells hb
              have hr := heap_below hs Hr.out
              clear Hr r0 r1 r2 r3
              obtain ⟨r0, r1, r2, r3⟩ := pair_cells hr
              have ho := heap_below hs Ho.out
              clear Ho o0 o1 o2 o3
              obtain ⟨o0, o1, o2, o3⟩ := pair_cells ho
              have Hs := Lib.hid hs; have Hb4 := Lib.hid hb4; have Ha := Lib.hid ha; have Hb := Lib.hid hb; have Hr := Lib.hid hr; have Ho := Lib.hid ho; clear hs hb4 ha hb hr ho
              go_upto_region 8 with (fail)
              obtain ⟨w5, hv⟩ : ∃ W, W = w4.setCell ⟨go, 1, none⟩ (.string lt) := ⟨_, rfl⟩
              have hb5 : Below w0.heap.size w0 w5 := by rw [hv]; exact Hb4.out.setCell (p := ⟨go, 1, none⟩) Hgeo.out _
              have ha : w5.heap[nb]? = some (.cells #[.string lo, .string hi] 33 (0, 0)) := by rw [hv, Below.heap_setCell _ _ _ _ Hneao.out]; exact Ha.out
              clear Ha a0 a1 a2 a3
              obtain ⟨a0, a1, a2, a3⟩ := pair_cells ha
              have hb : w5.heap[nb + 1]? = some (.cells #[.string lp, .string hj] 33 (0, 0)) := by rw [hv, Below.heap_setCell _ _ _ _ Hnebo.out]; exact Hb.out
              clear Hb b0 b1 b2 b3
              obtain ⟨b0, b1, b2, b3⟩ := pair_cells hb
              have hr : w5.heap[nb + 1 + 1]? = some (.cells #[.string ⟨#[]⟩, .string ⟨#[]⟩] 33 (0, 0)) := by rw [hv, Below.heap_setCell _ _ _ _ Hnero.out]; exact Hr.out
              clear Hr r0 r1 r2 r3
              obtain ⟨r0, r1, r2, r3⟩ := pair_cells hr
              have ho : w5.heap[go]? = some (.cells #[.string ⟨#[]⟩, .string lt] 33 (0, 0)) := by rw [hv]; exact heap_setCell_same _ go 1 _ _ _ Ho.out
              clear Ho o0 o1 o2 o3
              obtain ⟨o0, o1, o2, o3⟩ := pair_cells ho
              rw [← hv]
              clear hv
              have Hb5 := Lib.hid hb5; have Ha := Lib.hid ha; have Hb := Lib.hid hb; have Hr := Lib.hid hr; have Ho := Lib.hid ho; clear hb5 ha hb hr ho
              go_wp2_with fail
              refine bodyPost_spn1 rfl rfl (pair_set _ _ Hr.out) rfl ?_
              exact ⟨ret_spn1 (by rw [Hval.out]; rfl) (by rw [Hval.out]; rfl), pair_bel _ _ (below_on Hw.out Hb5.out) Hle.out⟩
            | true =>
              go_wp2_with fail
              refine bodyPost_spn1 rfl rfl (pair_set _ _ Hr.out) rfl ?_
              exact ⟨ret_spn1 (by rw [Hval.out]; rfl) (by rw [Hval.out]; rfl), pair_bel _ _ (below_on Hw.out Hb3.out) Hle.out⟩
          | true =>
            go_wp2_with fail
            refine bodyPost_spn1 rfl rfl (pair_set _ _ Hr.out) rfl ?_
            exact ⟨ret_spn1 (by rw [Hval.out]; rfl) (by rw [Hval.out]; rfl), pair_bel _ _ (below_on Hw.out Hb3.out) Hle.out⟩
      | true =>
        cases d3 with
        | false =>
          cases d4 with
          | false =>
            go_wp2_with fail
            refine (HL.out _ Hb3.out).mono ?_
            rintro e w4 ⟨rfl, hs⟩
            have hb4 := Hb3.out.trans (hs.mono Hb3.out.size)
            have ha := heap_below hs Ha.out
            clear Ha a0 a1 a2 a3
            obtain ⟨a0, a1, a2, a3⟩ := pair_cells ha
            have hb := heap_below hs Hb.out
            clear Hb b0 b1 b2 b3
            obtain ⟨b0, b1, b2, b3⟩ := pair_cells hb
            have hr := heap_below hs Hr.out
            clear Hr r0 r1 r2 r3
            obtain ⟨r0, r1, r2, r3⟩ := pair_cells hr
            have ho := heap_below hs Ho.out
            clear Ho o0 o1 o2 o3
            obtain ⟨o0, o1, o2, o3⟩ := pair_cells ho
            have Hs := Lib.hid hs; have Hb4 := Lib.hid hb4; have Ha := Lib.hid ha; have Hb := Lib.hid hb; have Hr := Lib.hid hr; have Ho := Lib.hid ho; clear hs hb4 ha hb hr ho
            go_upto_region 8 with (fail)
            obtain ⟨w5, hv⟩ : ∃ W, W = w4.setCell ⟨go, 1, none⟩ (.string lt) := ⟨_, rfl⟩
            have hb5 : Below w0.heap.size w0 w5 := by rw [hv]; exact Hb4.out.setCell (p := ⟨go, 1, none⟩) Hgeo.out _
            have ha : w5.heap[nb]? = some (.cells #[.string lo, .string hi] 33 (0, 0)) := by rw [hv, Below.heap_setCell _ _ _ _ Hneao.out]; exact Ha.out
            clear Ha a0 a1 a2 a3
            obtain ⟨a0, a1, a2, a3⟩ := pair_cells ha
            have hb : w5.heap[nb + 1]? = some (.cells #[.string lp, .string hj] 33 (0, 0)) := by rw [hv, Below.heap_setCell _ _ _ _ Hnebo.out]; exact Hb.out
            clear Hb b0 b1 b2 b3
            obtain ⟨b0, b1, b2, b3⟩ := pair_cells hb
            have hr : w5.heap[nb + 1 + 1]? = some (.cells #[.string ⟨#[]⟩, .string ⟨#[]⟩] 33 (0, 0)) := by rw [hv, Below.heap_setCell _ _ _ _ Hnero.out]; exact Hr.out
            clear Hr r0 r1 r2 r3
            obtain ⟨r0, r1, r2, r3⟩ := pair_cells hr
            have ho : w5.heap[go]? = some (.cells #[.string ⟨#[]⟩, .string lt] 33 (0, 0)) := by rw [hv]; exact heap_setCell_same _ go 1 _ _ _ Ho.out
            clear Ho o0 o1 o2 o3
            obtain ⟨o0, o1, o2, o3⟩ := pair_cells ho
            rw [← hv]
            clear hv
            have Hb5 := Lib.hid hb5; have Ha := Lib.hid ha; have Hb := Lib.hid hb; have Hr := Lib.hid hr; have Ho := Lib.hid ho; clear hb5 ha hb hr ho
            go_wp2_with fail
            refine bodyPost_spn1 rfl rfl (pair_set _ _ Hr.out) rfl ?_
            exact ⟨ret_spn1 (by rw [Hval.out]; rfl) (by rw [Hval.out]; rfl), pair_bel _ _ (below_on Hw.out Hb5.out) Hle.out⟩
          | true =>
            go_wp2_with fail
            refine bodyPost_spn1 rfl rfl (pair_set _ _ Hr.out) rfl ?_
            exact ⟨ret_spn1 (by rw [Hval.out]; rfl) (by rw [Hval.out]; rfl), pair_bel _ _ (below_on Hw.out Hb3.out) Hle.out⟩
        | true =>
          go_wp2_with fail
          refine bodyPost_spn1 rfl rfl (pair_set _ _ Hr.out) rfl ?_
          exact ⟨ret_spn1 (by rw [Hval.out]; rfl) (by rw [Hval.out]; rfl), pair_bel _ _ (below_on Hw.out Hb3.out) Hle.out⟩
end Go.Proofs.YtblkdcapampniaaDoor
