/- The walk of cooperlaw02.SpanOnes: the law. Condition: the library's variables as they were laid. -/
import Derived.Test.YtblkdcapampniaaDoorSpnJoins
import Derived.Deep.RegionHeld3
import Derived.Deep.DeepCutAuto
set_option linter.unusedVariables false
namespace Go.Proofs.YtblkdcapampniaaDoor
open Go.RowKit Go.Lib VerN

set_option linter.unusedSimpArgs false
def CutNo (w0 : World) (v : Value) (W : World) : Prop := v = .bool false ∧ Below w0.heap.size w0 W
set_option maxRecDepth 10000 in
set_option maxHeartbeats 8000000 in
theorem spanOnes_true (v u lo hi lp hj : ByteArray) {w : World} (hD : Doors w) (hvz : v.size ≤ 9223372036854775807) (huz : u.size ≤ 9223372036854775807) : Calls Tryd.prog 9 #[.string v, .string u, .agg #[.string lo, .string hi], .agg #[.string lp, .string hj]] w fun e w' => e = .returned (.bool true) ∧ Below w.heap.size w w' := by
  obtain ⟨w0, hW0⟩ : ∃ W0, W0 = (w.alloc (.cells #[.string lo, .string hi] 33)).alloc (.cells #[.string lp, .string hj] 33) := ⟨_, rfl⟩
  obtain ⟨nb, hnb⟩ : ∃ nb, nb = w.heap.size := ⟨_, rfl⟩
  have hw : Below w.heap.size w w0 := by rw [hW0]; exact (below_alloc1 _ _).alloc (below_alloc1 _ _).size _
  have hb0 : Below w0.heap.size w0 w0 := Below.refl _ _
  have ha : w0.heap[nb]? = some (.cells #[.string lo, .string hi] 33 (0, 0)) := by rw [hW0, hnb]; exact pbox2_0 _ _ _ _ _
  obtain ⟨a0, a1, a2, a3⟩ := pair_cells ha
  have hb : w0.heap[nb + 1]? = some (.cells #[.string lp, .string hj] 33 (0, 0)) := by rw [hW0, hnb]; exact pbox2_1 _ _ _ _ _
  obtain ⟨b0, b1, b2, b3⟩ := pair_cells hb
  have hG := fun (W : World) (k : Below w0.heap.size w0 W) => great2_any lo hi W
  have hG2 := fun (W : World) (k : Below w0.heap.size w0 W) => great2_any lp hj W
  have hF := fun (W : World) (k : Below w0.heap.size w0 W) => fixed02_any (hD.below (below_on hw k))
  obtain ⟨gr, hgr⟩ : ∃ x, x = (decide (3000 < lo.size) || decide (3000 < hi.size)) := ⟨_, rfl⟩
  obtain ⟨gr2, hgr2⟩ : ∃ x, x = (decide (3000 < lp.size) || decide (3000 < hj.size)) := ⟨_, rfl⟩
  obtain ⟨gv, k1⟩ : ∃ x, decide ((3000 : Int) < (v.size : Int)) = x := ⟨_, rfl⟩
  obtain ⟨gu, k2⟩ : ∃ x, decide ((3000 : Int) < (u.size : Int)) = x := ⟨_, rfl⟩
  have hgv : gv = false → v.size ≤ 3000 := fun h => by rw [h] at k1; simp at k1; omega
  have hgu : gu = false → u.size ≤ 3000 := fun h => by rw [h] at k2; simp at k2; omega
  rw [← hgr] at hG
  rw [← hgr2] at hG2
  have HKA := Lib.hid ha
  have HKB := Lib.hid hb
  have HG := Lib.hid hG; have HG2 := Lib.hid hG2; have HF := Lib.hid hF; have Hw := Lib.hid hw; have Hb0 := Lib.hid hb0; have Hgr := Lib.hid hgr; have Hgr2 := Lib.hid hgr2; have Hgv := Lib.hid hgv; have Hgu := Lib.hid hgu; have HD := Lib.hid hD; have Ha := Lib.hid ha; have Hb := Lib.hid hb; clear hG hG2 hF hw hb0 hgr hgr2 hgv hgu hD ha hb
  go_enter Tryd.func9, Tryd.ntmps9
  go_upto_region 1 with (fail)
  rw [← hW0, ← hnb]
  clear hW0 hnb
  cases gv with
  | false =>
    cases gu with
    | false =>
      go_wp2_with fail
      refine (HG.out _ Hb0.out).mono ?_
      rintro e w1 ⟨rfl, hs⟩
      have hb1 := Hb0.out.trans (hs.mono Hb0.out.size)
      have ha := heap_below hs Ha.out
      clear Ha a0 a1 a2 a3
      obtain ⟨a0, a1, a2, a3⟩ := pair_cells ha
      have hb := heap_below hs Hb.out
      clear Hb b0 b1 b2 b3
      obtain ⟨b0, b1, b2, b3⟩ := pair_cells hb
      have Hs := Lib.hid hs; have Hb1 := Lib.hid hb1; have Ha := Lib.hid ha; have Hb := Lib.hid hb; clear hs hb1 ha hb
      cases gr with
      | false =>
        go_wp2_with fail
        refine (HG2.out _ Hb1.out).mono ?_
        rintro e w2 ⟨rfl, hs⟩
        have hb2 := Hb1.out.trans (hs.mono Hb1.out.size)
        have ha := heap_below hs Ha.out
        clear Ha a0 a1 a2 a3
        obtain ⟨a0, a1, a2, a3⟩ := pair_cells ha
        have hb := heap_below hs Hb.out
        clear Hb b0 b1 b2 b3
        obtain ⟨b0, b1, b2, b3⟩ := pair_cells hb
        have Hs := Lib.hid hs; have Hb2 := Lib.hid hb2; have Ha := Lib.hid ha; have Hb := Lib.hid hb; clear hs hb2 ha hb
        cases gr2 with
        | false =>
          have hz := great_small Hgr.out
          have hz2 := great_small Hgr2.out
          have hzv := Hgv.out (by first | rfl | trivial)
          have hzu := Hgu.out (by first | rfl | trivial)
          have hl : lo.size ≤ 1000000 := by omega
          have hh : hi.size ≤ 1000000 := by omega
          have hl2 : lp.size ≤ 1000000 := by omega
          have hh2 : hj.size ≤ 1000000 := by omega
          have hv2 : v.size ≤ 1000000 := by omega
          have hu2 : u.size ≤ 1000000 := by omega
          have h0 : (⟨#[]⟩ : ByteArray).size ≤ 1000000 := by decide
          have hP := fun (W : World) (_ : Below w0.heap.size w0 W) => refMay2_any v v hv2 hv2 W
          have hQ := fun (W : World) (_ : Below w0.heap.size w0 W) => refHas2_any v v u hv2 hv2 hu2 W
          have hS := fun (W : World) (k : Below w0.heap.size w0 W) => spanHas_any v v u hv2 hv2 hu2 (HD.out.below (below_on Hw.out k))
          have hT := fun (W : World) (k : Below w0.heap.size w0 W) => spanHas_any ⟨#[]⟩ ⟨#[]⟩ u h0 h0 hu2 (HD.out.below (below_on Hw.out k))
          have hU := fun (W : World) (_ : Below w0.heap.size w0 W) => refHas2_any ⟨#[]⟩ ⟨#[]⟩ u h0 h0 hu2 W
          have hI := fun (W : World) (k : Below w0.heap.size w0 W) => within_any lo hi lp hj hl hh hl2 hh2 (HD.out.below (below_on Hw.out k))
          have hX := fun (W : World) (k : Below w0.heap.size w0 W) => spanHas_any lo hi u hl hh hu2 (HD.out.below (below_on Hw.out k))
          have hY := fun (W : World) (k : Below w0.heap.size w0 W) => spanHas_any lp hj u hl2 hh2 hu2 (HD.out.below (below_on Hw.out k))
          have hM := fun (W : World) (_ : Below w0.heap.size w0 W) => refMay2_any lo hi hl hh W
          have hN := fun (W : World) (k : Below w0.heap.size w0 W) => within_any lo hi ⟨#[]⟩ ⟨#[]⟩ hl hh h0 h0 (HD.out.below (below_on Hw.out k))
          have hO := fun (W : World) (k : Below w0.heap.size w0 W) => within_any lo hi lo hi hl hh hl hh (HD.out.below (below_on Hw.out k))
          obtain ⟨m, hm⟩ : ∃ z, z = mayS (v.data.toList, v.data.toList) := ⟨_, rfl⟩
          obtain ⟨q, hq⟩ : ∃ z, z = hasS (v.data.toList, v.data.toList) u.data.toList := ⟨_, rfl⟩
          obtain ⟨q0, hq0⟩ : ∃ z, z = hasS ((⟨#[]⟩ : ByteArray).data.toList, (⟨#[]⟩ : ByteArray).data.toList) u.data.toList := ⟨_, rfl⟩
          obtain ⟨u1, hu1⟩ : ∃ z, z = withinB (lo.data.toList, hi.data.toList) (lp.data.toList, hj.data.toList) := ⟨_, rfl⟩
          obtain ⟨i1, hi1⟩ : ∃ z, z = hasS (lo.data.toList, hi.data.toList) u.data.toList := ⟨_, rfl⟩
          obtain ⟨i2, hi2⟩ : ∃ z, z = hasS (lp.data.toList, hj.data.toList) u.data.toList := ⟨_, rfl⟩
          obtain ⟨ma, hma⟩ : ∃ z, z = mayS (lo.data.toList, hi.data.toList) := ⟨_, rfl⟩
          obtain ⟨n1, hn1⟩ : ∃ z, z = withinB (lo.data.toList, hi.data.toList) ((⟨#[]⟩ : ByteArray).data.toList, (⟨#[]⟩ : ByteArray).data.toList) := ⟨_, rfl⟩
          obtain ⟨n2, hn2⟩ : ∃ z, z = withinB (lo.data.toList, hi.data.toList) (lo.data.toList, hi.data.toList) := ⟨_, rfl⟩
          obtain ⟨d, k3⟩ : ∃ z, v.toList.isEmpty = z := ⟨_, rfl⟩
          obtain ⟨eq, k4⟩ : ∃ z, (v.toList == u.toList) = z := ⟨_, rfl⟩
          have hone : d = false → m = true → q = eq := fun h1 h2 => by
            rw [hm] at h2
            rw [← k3, Txt.no_dec, decide_eq_false_iff_not, ← nil_size] at h1
            rw [hq, ← k4, Txt.eq_dec, one_has h2 h1]
            exact decide_eq_decide.2 ba_eq.symm
          have hmore : u1 = true → i1 = true → i2 = true := fun h1 h2 => by
            rw [hu1] at h1
            rw [hi1] at h2
            rw [hi2]
            exact within_has h1 h2
          have hall : ma = true → n1 = true ∧ n2 = true := fun h => by
            rw [hma] at h
            exact ⟨by rw [hn1]; exact within_all h, by rw [hn2]; exact within_self h⟩
          rw [← hm] at hP
          rw [← hq] at hQ hS
          rw [← hq0] at hT hU
          rw [← hu1] at hI
          rw [← hi1] at hX
          rw [← hi2] at hY
          rw [← hma] at hM
          rw [← hn1] at hN
          rw [← hn2] at hO
          clear hm hq hq0 hu1 hi1 hi2 hma hn1 hn2
          have hka : w0.heap[nb]? = some (.cells #[.string lo, .string hi] 33 (0, 0)) := HKA.out
          have hkb : w0.heap[nb + 1]? = some (.cells #[.string lp, .string hj] 33 (0, 0)) := HKB.out
          have HP := Lib.hid hP; have HQ := Lib.hid hQ; have HS := Lib.hid hS; have HT := Lib.hid hT; have HU := Lib.hid hU; have HI := Lib.hid hI; have HX := Lib.hid hX; have HY := Lib.hid hY; have HM := Lib.hid hM; have HN := Lib.hid hN; have HO := Lib.hid hO; have Hone := Lib.hid hone; have Hmore := Lib.hid hmore; have Hall := Lib.hid hall; have Hz := Lib.hid hz; have Hz2 := Lib.hid hz2; have H0 := Lib.hid h0; have Hka := Lib.hid hka; have Hkb := Lib.hid hkb; clear hP hQ hS hT hU hI hX hY hM hN hO hone hmore hall hz hz2 h0 hka hkb
          go_upto_region 4 with (fail)
          obtain ⟨w3, hv⟩ : ∃ W, W = w2.alloc (.cells #[.string v, .string v] 33) := ⟨_, rfl⟩
          obtain ⟨go, hg⟩ : ∃ g, g = w2.heap.size := ⟨_, rfl⟩
          have hs : Below w2.heap.size w2 w3 := by rw [hv]; exact below_alloc1 _ _
          have hb3 := Hb2.out.trans (hs.mono Hb2.out.size)
          have hgeo : w0.heap.size ≤ go := by rw [hg]; exact Hb2.out.size
          have hneao : nb ≠ go := by have := (Array.getElem?_eq_some_iff.1 Ha.out).1; omega
          have hnebo : nb + 1 ≠ go := by have := (Array.getElem?_eq_some_iff.1 Hb.out).1; omega
          have ha := heap_below hs Ha.out
          clear Ha a0 a1 a2 a3
          obtain ⟨a0, a1, a2, a3⟩ := pair_cells ha
          have hb := heap_below hs Hb.out
          clear Hb b0 b1 b2 b3
          obtain ⟨b0, b1, b2, b3⟩ := pair_cells hb
          have ho : w3.heap[go]? = some (.cells #[.string v, .string v] 33 (0, 0)) := by rw [hv, hg]; exact heap_alloc_new _ _
          obtain ⟨o0, o1, o2, o3⟩ := pair_cells ho
          rw [← hv, ← hg]
          clear hv hg
          have Hs := Lib.hid hs; have Hb3 := Lib.hid hb3; have Hgeo := Lib.hid hgeo; have Ha := Lib.hid ha; have Hb := Lib.hid hb; have Ho := Lib.hid ho; have Hneao := Lib.hid hneao; have Hnebo := Lib.hid hnebo; clear hs hb3 hgeo ha hb ho hneao hnebo
          go_cut [62] (fun x W => CutNo w3 x W)
          case first =>
            cases d with
            | true =>
              have hcf : ∀ W, Below w3.heap.size w3 W → W.cell? ⟨go, 0, none⟩ = some (.string v) ∧ W.cell? ⟨go, 1, none⟩ = some (.string v) := fun W k => ⟨(pair_cells (heap_below k Ho.out)).1, (pair_cells (heap_below k Ho.out)).2.1⟩
              have hbz := (Below.refl w3.heap.size w3).drew
              have hcz := hcf _ hbz
              have Hcz := Lib.hid hcf
              clear hcf
              refine wp_region_held_drew (S := fun w' => w'.cell? ⟨go, 0, none⟩ = some (.string v) ∧ w'.cell? ⟨go, 1, none⟩ = some (.string v)) (by kernel_rfl) (by exact hcz) (fun hHeld => ?_)
              refine wpAnyH_take (i := 0) (v := ?_) rfl (by kernel_rfl) (by kernel_rfl) (by kernel_rfl) (fun _ _ _ h => h) (Or.inl ⟨by kernel_rfl, ?_⟩) (by assumption) ?_
              rotate_left
              · (intro w hSw; (try dsimp only at hSw); go_simp; try with_reducible rfl)
              try simp only [Act.put, List.setIfInBounds_toArray, List.set_cons_zero, List.set_cons_succ]
              refine wpAnyH_take (i := 1) (v := ?_) rfl (by kernel_rfl) (by kernel_rfl) (by kernel_rfl) (fun _ _ _ h => h) (Or.inl ⟨by kernel_rfl, ?_⟩) (by assumption) ?_
              rotate_left
              · (intro w hSw; (try dsimp only at hSw); go_simp; try with_reducible rfl)
              try simp only [Act.put, List.setIfInBounds_toArray, List.set_cons_zero, List.set_cons_succ]
              refine wpAnyH_take (i := 2) (v := ?_) rfl (by kernel_rfl) (by kernel_rfl) (by kernel_rfl) (fun _ _ _ h => h) (Or.inl ⟨by kernel_rfl, ?_⟩) (by assumption) ?_
              rotate_left
              · (intro w hSw; (try dsimp only at hSw); go_simp; try with_reducible rfl)
              try simp only [Act.put, List.setIfInBounds_toArray, List.set_cons_zero, List.set_cons_succ]
              refine wpAnyH_take (i := 3) (v := undef) rfl (by kernel_rfl) (by kernel_rfl) (by kernel_rfl) (fun _ _ _ h => h) (Or.inr ⟨by kernel_rfl, rfl⟩) (by assumption) ?_
              try simp only [Act.put, List.setIfInBounds_toArray, List.set_cons_zero, List.set_cons_succ]
              refine wpAnyH_take (i := 4) (v := undef) rfl (by kernel_rfl) (by kernel_rfl) (by kernel_rfl) (fun _ _ _ h => h) (Or.inr ⟨by kernel_rfl, rfl⟩) (by assumption) ?_
              try simp only [Act.put, List.setIfInBounds_toArray, List.set_cons_zero, List.set_cons_succ]
              refine wpAnyH_take (i := 5) (v := ?_) rfl (by kernel_rfl) (by kernel_rfl) (by kernel_rfl) (fun _ _ _ h => h) (Or.inl ⟨by kernel_rfl, ?_⟩) (by assumption) ?_
              rotate_left
              · (intro w hSw; (try dsimp only at hSw); go_simp; try with_reducible rfl)
              try simp only [Act.put, List.setIfInBounds_toArray, List.set_cons_zero, List.set_cons_succ]
              refine wpAnyH_take (i := 6) (v := ?_) rfl (by kernel_rfl) (by kernel_rfl) (by kernel_rfl) (fun _ _ _ h => h) (Or.inl ⟨by kernel_rfl, ?_⟩) (by assumption) ?_
              rotate_left
              · (intro w hSw; (try dsimp only at hSw); go_simp; try with_reducible rfl)
              try simp only [Act.put, List.setIfInBounds_toArray, List.set_cons_zero, List.set_cons_succ]
              refine wpAnyH_take (i := 7) (v := undef) rfl (by kernel_rfl) (by kernel_rfl) (by kernel_rfl) (fun _ _ _ h => h) (Or.inr ⟨by kernel_rfl, rfl⟩) (by assumption) ?_
              try simp only [Act.put, List.setIfInBounds_toArray, List.set_cons_zero, List.set_cons_succ]
              refine wpAnyH_take (i := 8) (v := undef) rfl (by kernel_rfl) (by kernel_rfl) (by kernel_rfl) (fun _ _ _ h => h) (Or.inr ⟨by kernel_rfl, rfl⟩) (by assumption) ?_
              try simp only [Act.put, List.setIfInBounds_toArray, List.set_cons_zero, List.set_cons_succ]
              refine wpAnyH_take (i := 10) (v := undef) rfl (by kernel_rfl) (by kernel_rfl) (by kernel_rfl) (fun _ _ _ h => h) (Or.inr ⟨by kernel_rfl, rfl⟩) (by assumption) ?_
              try simp only [Act.put, List.setIfInBounds_toArray, List.set_cons_zero, List.set_cons_succ]
              refine wpAnyH_take (i := 11) (v := undef) rfl (by kernel_rfl) (by kernel_rfl) (by kernel_rfl) (fun _ _ _ h => h) (Or.inr ⟨by kernel_rfl, rfl⟩) (by assumption) ?_
              try simp only [Act.put, List.setIfInBounds_toArray, List.set_cons_zero, List.set_cons_succ]
              refine wpAnyH_take (i := 12) (v := undef) rfl (by kernel_rfl) (by kernel_rfl) (by kernel_rfl) (fun _ _ _ h => h) (Or.inr ⟨by kernel_rfl, rfl⟩) (by assumption) ?_
              try simp only [Act.put, List.setIfInBounds_toArray, List.set_cons_zero, List.set_cons_succ]
              refine wpAnyH_take (i := 9) (v := undef) rfl (by kernel_rfl) (by kernel_rfl) (by kernel_rfl) (fun _ _ _ h => h) (Or.inr ⟨by kernel_rfl, rfl⟩) (by assumption) ?_
              try simp only [Act.put, List.setIfInBounds_toArray, List.set_cons_zero, List.set_cons_succ]
              refine wpAnyH_take (i := 13) (v := undef) rfl (by kernel_rfl) (by kernel_rfl) (by kernel_rfl) (fun _ _ _ h => h) (Or.inr ⟨by kernel_rfl, rfl⟩) (by assumption) ?_
              try simp only [Act.put, List.setIfInBounds_toArray, List.set_cons_zero, List.set_cons_succ]
              refine wpAnyH_take (i := 14) (v := ?_) rfl (by kernel_rfl) (by kernel_rfl) (by kernel_rfl) (fun _ _ _ h => h) (Or.inl ⟨by kernel_rfl, ?_⟩) (by assumption) ?_
              rotate_left
              · (intro w hSw; (try dsimp only at hSw); go_simp; try with_reducible rfl)
              try simp only [Act.put, List.setIfInBounds_toArray, List.set_cons_zero, List.set_cons_succ]
              refine wpAnyH_take (i := 15) (v := ?_) rfl (by kernel_rfl) (by kernel_rfl) (by kernel_rfl) (fun _ _ _ h => h) (Or.inl ⟨by kernel_rfl, ?_⟩) (by assumption) ?_
              rotate_left
              · (intro w hSw; (try dsimp only at hSw); go_simp; try with_reducible rfl)
              try simp only [Act.put, List.setIfInBounds_toArray, List.set_cons_zero, List.set_cons_succ]
              refine wpAnyH_take (i := 16) (v := ?_) rfl (by kernel_rfl) (by kernel_rfl) (by kernel_rfl) (fun _ _ _ h => h) (Or.inl ⟨by kernel_rfl, ?_⟩) (by assumption) ?_
              rotate_left
              · (intro w hSw; (try dsimp only at hSw); go_simp; try with_reducible rfl)
              try simp only [Act.put, List.setIfInBounds_toArray, List.set_cons_zero, List.set_cons_succ]
              refine wpAnyH_take (i := 17) (v := ?_) rfl (by kernel_rfl) (by kernel_rfl) (by kernel_rfl) (fun _ _ _ h => h) (Or.inl ⟨by kernel_rfl, ?_⟩) (by assumption) ?_
              rotate_left
              · (intro w hSw; (try dsimp only at hSw); go_simp; try with_reducible rfl)
              try simp only [Act.put, List.setIfInBounds_toArray, List.set_cons_zero, List.set_cons_succ]
              refine wpAnyH_take (i := 19) (v := ?_) rfl (by kernel_rfl) (by kernel_rfl) (by kernel_rfl) (fun _ _ _ h => h) (Or.inl ⟨by kernel_rfl, ?_⟩) (by assumption) ?_
              rotate_left
              · (intro w hSw; (try dsimp only at hSw); go_simp; try with_reducible rfl)
              try simp only [Act.put, List.setIfInBounds_toArray, List.set_cons_zero, List.set_cons_succ]
              refine wpAnyH_take (i := 20) (v := ?_) rfl (by kernel_rfl) (by kernel_rfl) (by kernel_rfl) (fun _ _ _ h => h) (Or.inl ⟨by kernel_rfl, ?_⟩) (by assumption) ?_
              rotate_left
              · (intro w hSw; (try dsimp only at hSw); go_simp; try with_reducible rfl)
              try simp only [Act.put, List.setIfInBounds_toArray, List.set_cons_zero, List.set_cons_succ]
              refine wpAnyH_ready (rs := [18]) (by kernel_rfl) (by simp) ?_
              refine AllReadyH.cons rfl (fun K hK => ?_) AllReadyH.nil
              go_simp
              refine (HS.out _ (Hb3.out.trans (hbz.mono Hb3.out.size))).mono ?_
              rintro e wz ⟨rfl, hsz⟩
              replace hbz := hbz.trans (hsz.mono hbz.size)
              replace hcz := Hcz.out _ hbz
              clear hsz
              clear hHeld
              go_wp2_with fail
              refine hK.out _ _ (by exact hcz) (fun hHeld => ?_)
              clear hK K
              try simp only [Act.put, List.setIfInBounds_toArray, List.set_cons_zero, List.set_cons_succ]
              refine wpAnyH_ready (rs := [21]) (by kernel_rfl) (by simp) ?_
              refine AllReadyH.cons rfl (fun K hK => ?_) AllReadyH.nil
              go_simp
              refine (HQ.out _ (Hb3.out.trans (hbz.mono Hb3.out.size))).mono ?_
              rintro e wz ⟨rfl, hsz⟩
              replace hbz := hbz.trans (hsz.mono hbz.size)
              replace hcz := Hcz.out _ hbz
              clear hsz
              clear hHeld
              go_wp2_with fail
              refine hK.out _ _ (by exact hcz) (fun hHeld => ?_)
              clear hK K
              try simp only [Act.put, List.setIfInBounds_toArray, List.set_cons_zero, List.set_cons_succ]
              refine wpAnyH_take (i := 22) (v := ?_) rfl (by kernel_rfl) (by kernel_rfl) (by kernel_rfl) (fun _ _ _ h => h) (Or.inl ⟨by kernel_rfl, ?_⟩) (by assumption) ?_
              rotate_left
              · (intro w hSw; (try dsimp only at hSw); go_simp; try with_reducible rfl)
              try simp only [Act.put, List.setIfInBounds_toArray, List.set_cons_zero, List.set_cons_succ]
              refine wpAnyH_take (i := 23) (v := ?_) rfl (by kernel_rfl) (by kernel_rfl) (by kernel_rfl) (fun _ _ _ h => h) (Or.inl ⟨by kernel_rfl, ?_⟩) (by assumption) ?_
              rotate_left
              · (intro w hSw; (try dsimp only at hSw); go_simp; try with_reducible rfl)
              try simp only [Act.put, List.setIfInBounds_toArray, List.set_cons_zero, List.set_cons_succ]
              refine wpAnyH_take (i := 24) (v := ?_) rfl (by kernel_rfl) (by kernel_rfl) (by kernel_rfl) (fun _ _ _ h => h) (Or.inl ⟨by kernel_rfl, ?_⟩) (by assumption) ?_
              rotate_left
              · (intro w hSw; (try dsimp only at hSw); go_simp; try with_reducible rfl)
              try simp only [Act.put, List.setIfInBounds_toArray, List.set_cons_zero, List.set_cons_succ]
              refine wpAnyH_take (i := 25) (v := ?_) rfl (by kernel_rfl) (by kernel_rfl) (by kernel_rfl) (fun _ _ _ h => h) (Or.inl ⟨by kernel_rfl, ?_⟩) (by assumption) ?_
              rotate_left
              · (intro w hSw; (try dsimp only at hSw); go_simp; try with_reducible rfl)
              try simp only [Act.put, List.setIfInBounds_toArray, List.set_cons_zero, List.set_cons_succ]
              refine wpAnyH_take (i := 26) (v := ?_) rfl (by kernel_rfl) (by kernel_rfl) (by kernel_rfl) (fun _ _ _ h => h) (Or.inl ⟨by kernel_rfl, ?_⟩) (by assumption) ?_
              rotate_left
              · (intro w hSw; (try dsimp only at hSw); go_simp; try with_reducible rfl)
              try simp only [Act.put, List.setIfInBounds_toArray, List.set_cons_zero, List.set_cons_succ]
              refine wpAnyH_take (i := 28) (v := ?_) rfl (by kernel_rfl) (by kernel_rfl) (by kernel_rfl) (fun _ _ _ h => h) (Or.inl ⟨by kernel_rfl, ?_⟩) (by assumption) ?_
              rotate_left
              · (intro w hSw; (try dsimp only at hSw); go_simp; try with_reducible rfl)
              try simp only [Act.put, List.setIfInBounds_toArray, List.set_cons_zero, List.set_cons_succ]
              refine wpAnyH_take (i := 29) (v := ?_) rfl (by kernel_rfl) (by kernel_rfl) (by kernel_rfl) (fun _ _ _ h => h) (Or.inl ⟨by kernel_rfl, ?_⟩) (by assumption) ?_
              rotate_left
              · (intro w hSw; (try dsimp only at hSw); go_simp; try with_reducible rfl)
              try simp only [Act.put, List.setIfInBounds_toArray, List.set_cons_zero, List.set_cons_succ]
              refine wpAnyH_ready (rs := [27]) (by kernel_rfl) (by simp) ?_
              refine AllReadyH.cons rfl (fun K hK => ?_) AllReadyH.nil
              go_simp
              refine (HT.out _ (Hb3.out.trans (hbz.mono Hb3.out.size))).mono ?_
              rintro e wz ⟨rfl, hsz⟩
              replace hbz := hbz.trans (hsz.mono hbz.size)
              replace hcz := Hcz.out _ hbz
              clear hsz
              clear hHeld
              go_wp2_with fail
              refine hK.out _ _ (by exact hcz) (fun hHeld => ?_)
              clear hK K
              try simp only [Act.put, List.setIfInBounds_toArray, List.set_cons_zero, List.set_cons_succ]
              refine wpAnyH_ready (rs := [30]) (by kernel_rfl) (by simp) ?_
              refine AllReadyH.cons rfl (fun K hK => ?_) AllReadyH.nil
              go_simp
              refine (HU.out _ (Hb3.out.trans (hbz.mono Hb3.out.size))).mono ?_
              rintro e wz ⟨rfl, hsz⟩
              replace hbz := hbz.trans (hsz.mono hbz.size)
              replace hcz := Hcz.out _ hbz
              clear hsz
              clear hHeld
              go_wp2_with fail
              refine hK.out _ _ (by exact hcz) (fun hHeld => ?_)
              clear hK K
              try simp only [Act.put, List.setIfInBounds_toArray, List.set_cons_zero, List.set_cons_succ]
              refine wpAnyH_take (i := 31) (v := ?_) rfl (by kernel_rfl) (by kernel_rfl) (by kernel_rfl) (fun _ _ _ h => h) (Or.inl ⟨by kernel_rfl, ?_⟩) (by assumption) ?_
              rotate_left
              · (intro w hSw; (try dsimp only at hSw); go_simp; try with_reducible rfl)
              try simp only [Act.put, List.setIfInBounds_toArray, List.set_cons_zero, List.set_cons_succ]
              refine wpAnyH_take (i := 32) (v := ?_) rfl (by kernel_rfl) (by kernel_rfl) (by kernel_rfl) (fun _ _ _ h => h) (Or.inl ⟨by kernel_rfl, ?_⟩) (by assumption) ?_
              rotate_left
              · (intro w hSw; (try dsimp only at hSw); go_simp; try with_reducible rfl)
              try simp only [Act.put, List.setIfInBounds_toArray, List.set_cons_zero, List.set_cons_succ]
              refine wpAnyH_done (by kernel_rfl) ?_ _
              go_simp
              go_wp2_with fail
              go_meet
              exact ⟨by first | rfl | simp, hbz⟩
            | false =>
              cases m with
              | false =>
                have hcf : ∀ W, Below w3.heap.size w3 W → W.cell? ⟨go, 0, none⟩ = some (.string v) ∧ W.cell? ⟨go, 1, none⟩ = some (.string v) := fun W k => ⟨(pair_cells (heap_below k Ho.out)).1, (pair_cells (heap_below k Ho.out)).2.1⟩
                have hbz := (Below.refl w3.heap.size w3).drew
                have hcz := hcf _ hbz
                have Hcz := Lib.hid hcf
                clear hcf
                refine wp_region_held_drew (S := fun w' => w'.cell? ⟨go, 0, none⟩ = some (.string v) ∧ w'.cell? ⟨go, 1, none⟩ = some (.string v)) (by kernel_rfl) (by exact hcz) (fun hHeld => ?_)
                refine wpAnyH_take (i := 0) (v := ?_) rfl (by kernel_rfl) (by kernel_rfl) (by kernel_rfl) (fun _ _ _ h => h) (Or.inl ⟨by kernel_rfl, ?_⟩) (by assumption) ?_
                rotate_left
                · (intro w hSw; (try dsimp only at hSw); go_simp; try with_reducible rfl)
                try simp only [Act.put, List.setIfInBounds_toArray, List.set_cons_zero, List.set_cons_succ]
                refine wpAnyH_take (i := 1) (v := ?_) rfl (by kernel_rfl) (by kernel_rfl) (by kernel_rfl) (fun _ _ _ h => h) (Or.inl ⟨by kernel_rfl, ?_⟩) (by assumption) ?_
                rotate_left
                · (intro w hSw; (try dsimp only at hSw); go_simp; try with_reducible rfl)
                try simp only [Act.put, List.setIfInBounds_toArray, List.set_cons_zero, List.set_cons_succ]
                refine wpAnyH_take (i := 2) (v := ?_) rfl (by kernel_rfl) (by kernel_rfl) (by kernel_rfl) (fun _ _ _ h => h) (Or.inl ⟨by kernel_rfl, ?_⟩) (by assumption) ?_
                rotate_left
                · (intro w hSw; (try dsimp only at hSw); go_simp; try with_reducible rfl)
                try simp only [Act.put, List.setIfInBounds_toArray, List.set_cons_zero, List.set_cons_succ]
                refine wpAnyH_take (i := 3) (v := ?_) rfl (by kernel_rfl) (by kernel_rfl) (by kernel_rfl) (fun _ _ _ h => h) (Or.inl ⟨by kernel_rfl, ?_⟩) (by assumption) ?_
                rotate_left
                · (intro w hSw; (try dsimp only at hSw); go_simp; try with_reducible rfl)
                try simp only [Act.put, List.setIfInBounds_toArray, List.set_cons_zero, List.set_cons_succ]
                refine wpAnyH_ready (rs := [4]) (by kernel_rfl) (by simp) ?_
                refine AllReadyH.cons rfl (fun K hK => ?_) AllReadyH.nil
                go_simp
                refine (HP.out _ (Hb3.out.trans (hbz.mono Hb3.out.size))).mono ?_
                rintro e wz ⟨rfl, hsz⟩
                replace hbz := hbz.trans (hsz.mono hbz.size)
                replace hcz := Hcz.out _ hbz
                clear hsz
                clear hHeld
                go_wp2_with fail
                refine hK.out _ _ (by exact hcz) (fun hHeld => ?_)
                clear hK K
                try simp only [Act.put, List.setIfInBounds_toArray, List.set_cons_zero, List.set_cons_succ]
                refine wpAnyH_take (i := 5) (v := ?_) rfl (by kernel_rfl) (by kernel_rfl) (by kernel_rfl) (fun _ _ _ h => h) (Or.inl ⟨by kernel_rfl, ?_⟩) (by assumption) ?_
                rotate_left
                · (intro w hSw; (try dsimp only at hSw); go_simp; try with_reducible rfl)
                try simp only [Act.put, List.setIfInBounds_toArray, List.set_cons_zero, List.set_cons_succ]
                refine wpAnyH_take (i := 6) (v := ?_) rfl (by kernel_rfl) (by kernel_rfl) (by kernel_rfl) (fun _ _ _ h => h) (Or.inl ⟨by kernel_rfl, ?_⟩) (by assumption) ?_
                rotate_left
                · (intro w hSw; (try dsimp only at hSw); go_simp; try with_reducible rfl)
                try simp only [Act.put, List.setIfInBounds_toArray, List.set_cons_zero, List.set_cons_succ]
                refine wpAnyH_take (i := 7) (v := undef) rfl (by kernel_rfl) (by kernel_rfl) (by kernel_rfl) (fun _ _ _ h => h) (Or.inr ⟨by kernel_rfl, rfl⟩) (by assumption) ?_
                try simp only [Act.put, List.setIfInBounds_toArray, List.set_cons_zero, List.set_cons_succ]
                refine wpAnyH_take (i := 8) (v := undef) rfl (by kernel_rfl) (by kernel_rfl) (by kernel_rfl) (fun _ _ _ h => h) (Or.inr ⟨by kernel_rfl, rfl⟩) (by assumption) ?_
                try simp only [Act.put, List.setIfInBounds_toArray, List.set_cons_zero, List.set_cons_succ]
                refine wpAnyH_take (i := 10) (v := undef) rfl (by kernel_rfl) (by kernel_rfl) (by kernel_rfl) (fun _ _ _ h => h) (Or.inr ⟨by kernel_rfl, rfl⟩) (by assumption) ?_
                try simp only [Act.put, List.setIfInBounds_toArray, List.set_cons_zero, List.set_cons_succ]
                refine wpAnyH_take (i := 11) (v := undef) rfl (by kernel_rfl) (by kernel_rfl) (by kernel_rfl) (fun _ _ _ h => h) (Or.inr ⟨by kernel_rfl, rfl⟩) (by assumption) ?_
                try simp only [Act.put, List.setIfInBounds_toArray, List.set_cons_zero, List.set_cons_succ]
                refine wpAnyH_take (i := 12) (v := undef) rfl (by kernel_rfl) (by kernel_rfl) (by kernel_rfl) (fun _ _ _ h => h) (Or.inr ⟨by kernel_rfl, rfl⟩) (by assumption) ?_
                try simp only [Act.put, List.setIfInBounds_toArray, List.set_cons_zero, List.set_cons_succ]
                refine wpAnyH_take (i := 9) (v := undef) rfl (by kernel_rfl) (by kernel_rfl) (by kernel_rfl) (fun _ _ _ h => h) (Or.inr ⟨by kernel_rfl, rfl⟩) (by assumption) ?_
                try simp only [Act.put, List.setIfInBounds_toArray, List.set_cons_zero, List.set_cons_succ]
                refine wpAnyH_take (i := 13) (v := undef) rfl (by kernel_rfl) (by kernel_rfl) (by kernel_rfl) (fun _ _ _ h => h) (Or.inr ⟨by kernel_rfl, rfl⟩) (by assumption) ?_
                try simp only [Act.put, List.setIfInBounds_toArray, List.set_cons_zero, List.set_cons_succ]
                refine wpAnyH_take (i := 14) (v := ?_) rfl (by kernel_rfl) (by kernel_rfl) (by kernel_rfl) (fun _ _ _ h => h) (Or.inl ⟨by kernel_rfl, ?_⟩) (by assumption) ?_
                rotate_left
                · (intro w hSw; (try dsimp only at hSw); go_simp; try with_reducible rfl)
                try simp only [Act.put, List.setIfInBounds_toArray, List.set_cons_zero, List.set_cons_succ]
                refine wpAnyH_take (i := 15) (v := ?_) rfl (by kernel_rfl) (by kernel_rfl) (by kernel_rfl) (fun _ _ _ h => h) (Or.inl ⟨by kernel_rfl, ?_⟩) (by assumption) ?_
                rotate_left
                · (intro w hSw; (try dsimp only at hSw); go_simp; try with_reducible rfl)
                try simp only [Act.put, List.setIfInBounds_toArray, List.set_cons_zero, List.set_cons_succ]
                refine wpAnyH_take (i := 16) (v := ?_) rfl (by kernel_rfl) (by kernel_rfl) (by kernel_rfl) (fun _ _ _ h => h) (Or.inl ⟨by kernel_rfl, ?_⟩) (by assumption) ?_
                rotate_left
                · (intro w hSw; (try dsimp only at hSw); go_simp; try with_reducible rfl)
                try simp only [Act.put, List.setIfInBounds_toArray, List.set_cons_zero, List.set_cons_succ]
                refine wpAnyH_take (i := 17) (v := ?_) rfl (by kernel_rfl) (by kernel_rfl) (by kernel_rfl) (fun _ _ _ h => h) (Or.inl ⟨by kernel_rfl, ?_⟩) (by assumption) ?_
                rotate_left
                · (intro w hSw; (try dsimp only at hSw); go_simp; try with_reducible rfl)
                try simp only [Act.put, List.setIfInBounds_toArray, List.set_cons_zero, List.set_cons_succ]
                refine wpAnyH_take (i := 19) (v := ?_) rfl (by kernel_rfl) (by kernel_rfl) (by kernel_rfl) (fun _ _ _ h => h) (Or.inl ⟨by kernel_rfl, ?_⟩) (by assumption) ?_
                rotate_left
                · (intro w hSw; (try dsimp only at hSw); go_simp; try with_reducible rfl)
                try simp only [Act.put, List.setIfInBounds_toArray, List.set_cons_zero, List.set_cons_succ]
                refine wpAnyH_take (i := 20) (v := ?_) rfl (by kernel_rfl) (by kernel_rfl) (by kernel_rfl) (fun _ _ _ h => h) (Or.inl ⟨by kernel_rfl, ?_⟩) (by assumption) ?_
                rotate_left
                · (intro w hSw; (try dsimp only at hSw); go_simp; try with_reducible rfl)
                try simp only [Act.put, List.setIfInBounds_toArray, List.set_cons_zero, List.set_cons_succ]
                refine wpAnyH_ready (rs := [18]) (by kernel_rfl) (by simp) ?_
                refine AllReadyH.cons rfl (fun K hK => ?_) AllReadyH.nil
                go_simp
                refine (HS.out _ (Hb3.out.trans (hbz.mono Hb3.out.size))).mono ?_
                rintro e wz ⟨rfl, hsz⟩
                replace hbz := hbz.trans (hsz.mono hbz.size)
                replace hcz := Hcz.out _ hbz
                clear hsz
                clear hHeld
                go_wp2_with fail
                refine hK.out _ _ (by exact hcz) (fun hHeld => ?_)
                clear hK K
                try simp only [Act.put, List.setIfInBounds_toArray, List.set_cons_zero, List.set_cons_succ]
                refine wpAnyH_ready (rs := [21]) (by kernel_rfl) (by simp) ?_
                refine AllReadyH.cons rfl (fun K hK => ?_) AllReadyH.nil
                go_simp
                refine (HQ.out _ (Hb3.out.trans (hbz.mono Hb3.out.size))).mono ?_
                rintro e wz ⟨rfl, hsz⟩
                replace hbz := hbz.trans (hsz.mono hbz.size)
                replace hcz := Hcz.out _ hbz
                clear hsz
                clear hHeld
                go_wp2_with fail
                refine hK.out _ _ (by exact hcz) (fun hHeld => ?_)
                clear hK K
                try simp only [Act.put, List.setIfInBounds_toArray, List.set_cons_zero, List.set_cons_succ]
                refine wpAnyH_take (i := 22) (v := ?_) rfl (by kernel_rfl) (by kernel_rfl) (by kernel_rfl) (fun _ _ _ h => h) (Or.inl ⟨by kernel_rfl, ?_⟩) (by assumption) ?_
                rotate_left
                · (intro w hSw; (try dsimp only at hSw); go_simp; try with_reducible rfl)
                try simp only [Act.put, List.setIfInBounds_toArray, List.set_cons_zero, List.set_cons_succ]
                refine wpAnyH_take (i := 23) (v := ?_) rfl (by kernel_rfl) (by kernel_rfl) (by kernel_rfl) (fun _ _ _ h => h) (Or.inl ⟨by kernel_rfl, ?_⟩) (by assumption) ?_
                rotate_left
                · (intro w hSw; (try dsimp only at hSw); go_simp; try with_reducible rfl)
                try simp only [Act.put, List.setIfInBounds_toArray, List.set_cons_zero, List.set_cons_succ]
                refine wpAnyH_take (i := 24) (v := ?_) rfl (by kernel_rfl) (by kernel_rfl) (by kernel_rfl) (fun _ _ _ h => h) (Or.inl ⟨by kernel_rfl, ?_⟩) (by assumption) ?_
                rotate_left
                · (intro w hSw; (try dsimp only at hSw); go_simp; try with_reducible rfl)
                try simp only [Act.put, List.setIfInBounds_toArray, List.set_cons_zero, List.set_cons_succ]
                refine wpAnyH_take (i := 25) (v := ?_) rfl (by kernel_rfl) (by kernel_rfl) (by kernel_rfl) (fun _ _ _ h => h) (Or.inl ⟨by kernel_rfl, ?_⟩) (by assumption) ?_
                rotate_left
                · (intro w hSw; (try dsimp only at hSw); go_simp; try with_reducible rfl)
                try simp only [Act.put, List.setIfInBounds_toArray, List.set_cons_zero, List.set_cons_succ]
                refine wpAnyH_take (i := 26) (v := ?_) rfl (by kernel_rfl) (by kernel_rfl) (by kernel_rfl) (fun _ _ _ h => h) (Or.inl ⟨by kernel_rfl, ?_⟩) (by assumption) ?_
                rotate_left
                · (intro w hSw; (try dsimp only at hSw); go_simp; try with_reducible rfl)
                try simp only [Act.put, List.setIfInBounds_toArray, List.set_cons_zero, List.set_cons_succ]
                refine wpAnyH_take (i := 28) (v := ?_) rfl (by kernel_rfl) (by kernel_rfl) (by kernel_rfl) (fun _ _ _ h => h) (Or.inl ⟨by kernel_rfl, ?_⟩) (by assumption) ?_
                rotate_left
                · (intro w hSw; (try dsimp only at hSw); go_simp; try with_reducible rfl)
                try simp only [Act.put, List.setIfInBounds_toArray, List.set_cons_zero, List.set_cons_succ]
                refine wpAnyH_take (i := 29) (v := ?_) rfl (by kernel_rfl) (by kernel_rfl) (by kernel_rfl) (fun _ _ _ h => h) (Or.inl ⟨by kernel_rfl, ?_⟩) (by assumption) ?_
                rotate_left
                · (intro w hSw; (try dsimp only at hSw); go_simp; try with_reducible rfl)
                try simp only [Act.put, List.setIfInBounds_toArray, List.set_cons_zero, List.set_cons_succ]
                refine wpAnyH_ready (rs := [27]) (by kernel_rfl) (by simp) ?_
                refine AllReadyH.cons rfl (fun K hK => ?_) AllReadyH.nil
                go_simp
                refine (HT.out _ (Hb3.out.trans (hbz.mono Hb3.out.size))).mono ?_
                rintro e wz ⟨rfl, hsz⟩
                replace hbz := hbz.trans (hsz.mono hbz.size)
                replace hcz := Hcz.out _ hbz
                clear hsz
                clear hHeld
                go_wp2_with fail
                refine hK.out _ _ (by exact hcz) (fun hHeld => ?_)
                clear hK K
                try simp only [Act.put, List.setIfInBounds_toArray, List.set_cons_zero, List.set_cons_succ]
                refine wpAnyH_ready (rs := [30]) (by kernel_rfl) (by simp) ?_
                refine AllReadyH.cons rfl (fun K hK => ?_) AllReadyH.nil
                go_simp
                refine (HU.out _ (Hb3.out.trans (hbz.mono Hb3.out.size))).mono ?_
                rintro e wz ⟨rfl, hsz⟩
                replace hbz := hbz.trans (hsz.mono hbz.size)
                replace hcz := Hcz.out _ hbz
                clear hsz
                clear hHeld
                go_wp2_with fail
                refine hK.out _ _ (by exact hcz) (fun hHeld => ?_)
                clear hK K
                try simp only [Act.put, List.setIfInBounds_toArray, List.set_cons_zero, List.set_cons_succ]
                refine wpAnyH_take (i := 31) (v := ?_) rfl (by kernel_rfl) (by kernel_rfl) (by kernel_rfl) (fun _ _ _ h => h) (Or.inl ⟨by kernel_rfl, ?_⟩) (by assumption) ?_
                rotate_left
                · (intro w hSw; (try dsimp only at hSw); go_simp; try with_reducible rfl)
                try simp only [Act.put, List.setIfInBounds_toArray, List.set_cons_zero, List.set_cons_succ]
                refine wpAnyH_take (i := 32) (v := ?_) rfl (by kernel_rfl) (by kernel_rfl) (by kernel_rfl) (fun _ _ _ h => h) (Or.inl ⟨by kernel_rfl, ?_⟩) (by assumption) ?_
                rotate_left
                · (intro w hSw; (try dsimp only at hSw); go_simp; try with_reducible rfl)
                try simp only [Act.put, List.setIfInBounds_toArray, List.set_cons_zero, List.set_cons_succ]
                refine wpAnyH_done (by kernel_rfl) ?_ _
                go_simp
                go_wp2_with fail
                go_meet
                exact ⟨by first | rfl | simp, hbz⟩
              | true =>
                obtain rfl := Hone.out (by first | rfl | trivial) (by first | rfl | trivial)
                have hcf : ∀ W, Below w3.heap.size w3 W → W.cell? ⟨go, 0, none⟩ = some (.string v) ∧ W.cell? ⟨go, 1, none⟩ = some (.string v) := fun W k => ⟨(pair_cells (heap_below k Ho.out)).1, (pair_cells (heap_below k Ho.out)).2.1⟩
                have hbz := (Below.refl w3.heap.size w3).drew
                have hcz := hcf _ hbz
                have Hcz := Lib.hid hcf
                clear hcf
                refine wp_region_held_drew (S := fun w' => w'.cell? ⟨go, 0, none⟩ = some (.string v) ∧ w'.cell? ⟨go, 1, none⟩ = some (.string v)) (by kernel_rfl) (by exact hcz) (fun hHeld => ?_)
                refine wpAnyH_take (i := 0) (v := ?_) rfl (by kernel_rfl) (by kernel_rfl) (by kernel_rfl) (fun _ _ _ h => h) (Or.inl ⟨by kernel_rfl, ?_⟩) (by assumption) ?_
                rotate_left
                · (intro w hSw; (try dsimp only at hSw); go_simp; try with_reducible rfl)
                try simp only [Act.put, List.setIfInBounds_toArray, List.set_cons_zero, List.set_cons_succ]
                refine wpAnyH_take (i := 1) (v := ?_) rfl (by kernel_rfl) (by kernel_rfl) (by kernel_rfl) (fun _ _ _ h => h) (Or.inl ⟨by kernel_rfl, ?_⟩) (by assumption) ?_
                rotate_left
                · (intro w hSw; (try dsimp only at hSw); go_simp; try with_reducible rfl)
                try simp only [Act.put, List.setIfInBounds_toArray, List.set_cons_zero, List.set_cons_succ]
                refine wpAnyH_take (i := 2) (v := ?_) rfl (by kernel_rfl) (by kernel_rfl) (by kernel_rfl) (fun _ _ _ h => h) (Or.inl ⟨by kernel_rfl, ?_⟩) (by assumption) ?_
                rotate_left
                · (intro w hSw; (try dsimp only at hSw); go_simp; try with_reducible rfl)
                try simp only [Act.put, List.setIfInBounds_toArray, List.set_cons_zero, List.set_cons_succ]
                refine wpAnyH_take (i := 3) (v := ?_) rfl (by kernel_rfl) (by kernel_rfl) (by kernel_rfl) (fun _ _ _ h => h) (Or.inl ⟨by kernel_rfl, ?_⟩) (by assumption) ?_
                rotate_left
                · (intro w hSw; (try dsimp only at hSw); go_simp; try with_reducible rfl)
                try simp only [Act.put, List.setIfInBounds_toArray, List.set_cons_zero, List.set_cons_succ]
                refine wpAnyH_ready (rs := [4]) (by kernel_rfl) (by simp) ?_
                refine AllReadyH.cons rfl (fun K hK => ?_) AllReadyH.nil
                go_simp
                refine (HP.out _ (Hb3.out.trans (hbz.mono Hb3.out.size))).mono ?_
                rintro e wz ⟨rfl, hsz⟩
                replace hbz := hbz.trans (hsz.mono hbz.size)
                replace hcz := Hcz.out _ hbz
                clear hsz
                clear hHeld
                go_wp2_with fail
                refine hK.out _ _ (by exact hcz) (fun hHeld => ?_)
                clear hK K
                try simp only [Act.put, List.setIfInBounds_toArray, List.set_cons_zero, List.set_cons_succ]
                refine wpAnyH_take (i := 5) (v := ?_) rfl (by kernel_rfl) (by kernel_rfl) (by kernel_rfl) (fun _ _ _ h => h) (Or.inl ⟨by kernel_rfl, ?_⟩) (by assumption) ?_
                rotate_left
                · (intro w hSw; (try dsimp only at hSw); go_simp; try with_reducible rfl)
                try simp only [Act.put, List.setIfInBounds_toArray, List.set_cons_zero, List.set_cons_succ]
                refine wpAnyH_take (i := 6) (v := ?_) rfl (by kernel_rfl) (by kernel_rfl) (by kernel_rfl) (fun _ _ _ h => h) (Or.inl ⟨by kernel_rfl, ?_⟩) (by assumption) ?_
                rotate_left
                · (intro w hSw; (try dsimp only at hSw); go_simp; try with_reducible rfl)
                try simp only [Act.put, List.setIfInBounds_toArray, List.set_cons_zero, List.set_cons_succ]
                refine wpAnyH_take (i := 7) (v := ?_) rfl (by kernel_rfl) (by kernel_rfl) (by kernel_rfl) (fun _ _ _ h => h) (Or.inl ⟨by kernel_rfl, ?_⟩) (by assumption) ?_
                rotate_left
                · (intro w hSw; (try dsimp only at hSw); go_simp; try with_reducible rfl)
                try simp only [Act.put, List.setIfInBounds_toArray, List.set_cons_zero, List.set_cons_succ]
                refine wpAnyH_take (i := 8) (v := ?_) rfl (by kernel_rfl) (by kernel_rfl) (by kernel_rfl) (fun _ _ _ h => h) (Or.inl ⟨by kernel_rfl, ?_⟩) (by assumption) ?_
                rotate_left
                · (intro w hSw; (try dsimp only at hSw); go_simp; try with_reducible rfl)
                try simp only [Act.put, List.setIfInBounds_toArray, List.set_cons_zero, List.set_cons_succ]
                refine wpAnyH_take (i := 10) (v := ?_) rfl (by kernel_rfl) (by kernel_rfl) (by kernel_rfl) (fun _ _ _ h => h) (Or.inl ⟨by kernel_rfl, ?_⟩) (by assumption) ?_
                rotate_left
                · (intro w hSw; (try dsimp only at hSw); go_simp; try with_reducible rfl)
                try simp only [Act.put, List.setIfInBounds_toArray, List.set_cons_zero, List.set_cons_succ]
                refine wpAnyH_take (i := 11) (v := ?_) rfl (by kernel_rfl) (by kernel_rfl) (by kernel_rfl) (fun _ _ _ h => h) (Or.inl ⟨by kernel_rfl, ?_⟩) (by assumption) ?_
                rotate_left
                · (intro w hSw; (try dsimp only at hSw); go_simp; try with_reducible rfl)
                try simp only [Act.put, List.setIfInBounds_toArray, List.set_cons_zero, List.set_cons_succ]
                refine wpAnyH_take (i := 12) (v := ?_) rfl (by kernel_rfl) (by kernel_rfl) (by kernel_rfl) (fun _ _ _ h => h) (Or.inl ⟨by kernel_rfl, ?_⟩) (by assumption) ?_
                rotate_left
                · (intro w hSw; (try dsimp only at hSw); go_simp; try with_reducible rfl)
                try simp only [Act.put, List.setIfInBounds_toArray, List.set_cons_zero, List.set_cons_succ]
                refine wpAnyH_ready (rs := [9]) (by kernel_rfl) (by simp) ?_
                refine AllReadyH.cons rfl (fun K hK => ?_) AllReadyH.nil
                go_simp
                refine (HQ.out _ (Hb3.out.trans (hbz.mono Hb3.out.size))).mono ?_
                rintro e wz ⟨rfl, hsz⟩
                replace hbz := hbz.trans (hsz.mono hbz.size)
                replace hcz := Hcz.out _ hbz
                clear hsz
                clear hHeld
                go_wp2_with fail
                refine hK.out _ _ (by exact hcz) (fun hHeld => ?_)
                clear hK K
                try simp only [Act.put, List.setIfInBounds_toArray, List.set_cons_zero, List.set_cons_succ]
                refine wpAnyH_take (i := 13) (v := ?_) rfl (by kernel_rfl) (by kernel_rfl) (by kernel_rfl) (fun _ _ _ h => h) (Or.inl ⟨by kernel_rfl, ?_⟩) (by assumption) ?_
                rotate_left
                · (intro w hSw; (try dsimp only at hSw); go_simp; try with_reducible rfl)
                try simp only [Act.put, List.setIfInBounds_toArray, List.set_cons_zero, List.set_cons_succ]
                refine wpAnyH_take (i := 14) (v := ?_) rfl (by kernel_rfl) (by kernel_rfl) (by kernel_rfl) (fun _ _ _ h => h) (Or.inl ⟨by kernel_rfl, ?_⟩) (by assumption) ?_
                rotate_left
                · (intro w hSw; (try dsimp only at hSw); go_simp; try with_reducible rfl)
                try simp only [Act.put, List.setIfInBounds_toArray, List.set_cons_zero, List.set_cons_succ]
                refine wpAnyH_take (i := 15) (v := ?_) rfl (by kernel_rfl) (by kernel_rfl) (by kernel_rfl) (fun _ _ _ h => h) (Or.inl ⟨by kernel_rfl, ?_⟩) (by assumption) ?_
                rotate_left
                · (intro w hSw; (try dsimp only at hSw); go_simp; try with_reducible rfl)
                try simp only [Act.put, List.setIfInBounds_toArray, List.set_cons_zero, List.set_cons_succ]
                refine wpAnyH_take (i := 16) (v := ?_) rfl (by kernel_rfl) (by kernel_rfl) (by kernel_rfl) (fun _ _ _ h => h) (Or.inl ⟨by kernel_rfl, ?_⟩) (by assumption) ?_
                rotate_left
                · (intro w hSw; (try dsimp only at hSw); go_simp; try with_reducible rfl)
                try simp only [Act.put, List.setIfInBounds_toArray, List.set_cons_zero, List.set_cons_succ]
                refine wpAnyH_take (i := 17) (v := ?_) rfl (by kernel_rfl) (by kernel_rfl) (by kernel_rfl) (fun _ _ _ h => h) (Or.inl ⟨by kernel_rfl, ?_⟩) (by assumption) ?_
                rotate_left
                · (intro w hSw; (try dsimp only at hSw); go_simp; try with_reducible rfl)
                try simp only [Act.put, List.setIfInBounds_toArray, List.set_cons_zero, List.set_cons_succ]
                refine wpAnyH_take (i := 19) (v := ?_) rfl (by kernel_rfl) (by kernel_rfl) (by kernel_rfl) (fun _ _ _ h => h) (Or.inl ⟨by kernel_rfl, ?_⟩) (by assumption) ?_
                rotate_left
                · (intro w hSw; (try dsimp only at hSw); go_simp; try with_reducible rfl)
                try simp only [Act.put, List.setIfInBounds_toArray, List.set_cons_zero, List.set_cons_succ]
                refine wpAnyH_take (i := 20) (v := ?_) rfl (by kernel_rfl) (by kernel_rfl) (by kernel_rfl) (fun _ _ _ h => h) (Or.inl ⟨by kernel_rfl, ?_⟩) (by assumption) ?_
                rotate_left
                · (intro w hSw; (try dsimp only at hSw); go_simp; try with_reducible rfl)
                try simp only [Act.put, List.setIfInBounds_toArray, List.set_cons_zero, List.set_cons_succ]
                refine wpAnyH_ready (rs := [18]) (by kernel_rfl) (by simp) ?_
                refine AllReadyH.cons rfl (fun K hK => ?_) AllReadyH.nil
                go_simp
                refine (HS.out _ (Hb3.out.trans (hbz.mono Hb3.out.size))).mono ?_
                rintro e wz ⟨rfl, hsz⟩
                replace hbz := hbz.trans (hsz.mono hbz.size)
                replace hcz := Hcz.out _ hbz
                clear hsz
                clear hHeld
                go_wp2_with fail
                refine hK.out _ _ (by exact hcz) (fun hHeld => ?_)
                clear hK K
                try simp only [Act.put, List.setIfInBounds_toArray, List.set_cons_zero, List.set_cons_succ]
                refine wpAnyH_ready (rs := [21]) (by kernel_rfl) (by simp) ?_
                refine AllReadyH.cons rfl (fun K hK => ?_) AllReadyH.nil
                go_simp
                refine (HQ.out _ (Hb3.out.trans (hbz.mono Hb3.out.size))).mono ?_
                rintro e wz ⟨rfl, hsz⟩
                replace hbz := hbz.trans (hsz.mono hbz.size)
                replace hcz := Hcz.out _ hbz
                clear hsz
                clear hHeld
                go_wp2_with fail
                refine hK.out _ _ (by exact hcz) (fun hHeld => ?_)
                clear hK K
                try simp only [Act.put, List.setIfInBounds_toArray, List.set_cons_zero, List.set_cons_succ]
                refine wpAnyH_take (i := 22) (v := ?_) rfl (by kernel_rfl) (by kernel_rfl) (by kernel_rfl) (fun _ _ _ h => h) (Or.inl ⟨by kernel_rfl, ?_⟩) (by assumption) ?_
                rotate_left
                · (intro w hSw; (try dsimp only at hSw); go_simp; try with_reducible rfl)
                try simp only [Act.put, List.setIfInBounds_toArray, List.set_cons_zero, List.set_cons_succ]
                refine wpAnyH_take (i := 23) (v := ?_) rfl (by kernel_rfl) (by kernel_rfl) (by kernel_rfl) (fun _ _ _ h => h) (Or.inl ⟨by kernel_rfl, ?_⟩) (by assumption) ?_
                rotate_left
                · (intro w hSw; (try dsimp only at hSw); go_simp; try with_reducible rfl)
                try simp only [Act.put, List.setIfInBounds_toArray, List.set_cons_zero, List.set_cons_succ]
                refine wpAnyH_take (i := 24) (v := ?_) rfl (by kernel_rfl) (by kernel_rfl) (by kernel_rfl) (fun _ _ _ h => h) (Or.inl ⟨by kernel_rfl, ?_⟩) (by assumption) ?_
                rotate_left
                · (intro w hSw; (try dsimp only at hSw); go_simp; try with_reducible rfl)
                try simp only [Act.put, List.setIfInBounds_toArray, List.set_cons_zero, List.set_cons_succ]
                refine wpAnyH_take (i := 25) (v := ?_) rfl (by kernel_rfl) (by kernel_rfl) (by kernel_rfl) (fun _ _ _ h => h) (Or.inl ⟨by kernel_rfl, ?_⟩) (by assumption) ?_
                rotate_left
                · (intro w hSw; (try dsimp only at hSw); go_simp; try with_reducible rfl)
                try simp only [Act.put, List.setIfInBounds_toArray, List.set_cons_zero, List.set_cons_succ]
                refine wpAnyH_take (i := 26) (v := ?_) rfl (by kernel_rfl) (by kernel_rfl) (by kernel_rfl) (fun _ _ _ h => h) (Or.inl ⟨by kernel_rfl, ?_⟩) (by assumption) ?_
                rotate_left
                · (intro w hSw; (try dsimp only at hSw); go_simp; try with_reducible rfl)
                try simp only [Act.put, List.setIfInBounds_toArray, List.set_cons_zero, List.set_cons_succ]
                refine wpAnyH_take (i := 28) (v := ?_) rfl (by kernel_rfl) (by kernel_rfl) (by kernel_rfl) (fun _ _ _ h => h) (Or.inl ⟨by kernel_rfl, ?_⟩) (by assumption) ?_
                rotate_left
                · (intro w hSw; (try dsimp only at hSw); go_simp; try with_reducible rfl)
                try simp only [Act.put, List.setIfInBounds_toArray, List.set_cons_zero, List.set_cons_succ]
                refine wpAnyH_take (i := 29) (v := ?_) rfl (by kernel_rfl) (by kernel_rfl) (by kernel_rfl) (fun _ _ _ h => h) (Or.inl ⟨by kernel_rfl, ?_⟩) (by assumption) ?_
                rotate_left
                · (intro w hSw; (try dsimp only at hSw); go_simp; try with_reducible rfl)
                try simp only [Act.put, List.setIfInBounds_toArray, List.set_cons_zero, List.set_cons_succ]
                refine wpAnyH_ready (rs := [27]) (by kernel_rfl) (by simp) ?_
                refine AllReadyH.cons rfl (fun K hK => ?_) AllReadyH.nil
                go_simp
                refine (HT.out _ (Hb3.out.trans (hbz.mono Hb3.out.size))).mono ?_
                rintro e wz ⟨rfl, hsz⟩
                replace hbz := hbz.trans (hsz.mono hbz.size)
                replace hcz := Hcz.out _ hbz
                clear hsz
                clear hHeld
                go_wp2_with fail
                refine hK.out _ _ (by exact hcz) (fun hHeld => ?_)
                clear hK K
                try simp only [Act.put, List.setIfInBounds_toArray, List.set_cons_zero, List.set_cons_succ]
                refine wpAnyH_ready (rs := [30]) (by kernel_rfl) (by simp) ?_
                refine AllReadyH.cons rfl (fun K hK => ?_) AllReadyH.nil
                go_simp
                refine (HU.out _ (Hb3.out.trans (hbz.mono Hb3.out.size))).mono ?_
                rintro e wz ⟨rfl, hsz⟩
                replace hbz := hbz.trans (hsz.mono hbz.size)
                replace hcz := Hcz.out _ hbz
                clear hsz
                clear hHeld
                go_wp2_with fail
                refine hK.out _ _ (by exact hcz) (fun hHeld => ?_)
                clear hK K
                try simp only [Act.put, List.setIfInBounds_toArray, List.set_cons_zero, List.set_cons_succ]
                refine wpAnyH_take (i := 31) (v := ?_) rfl (by kernel_rfl) (by kernel_rfl) (by kernel_rfl) (fun _ _ _ h => h) (Or.inl ⟨by kernel_rfl, ?_⟩) (by assumption) ?_
                rotate_left
                · (intro w hSw; (try dsimp only at hSw); go_simp; try with_reducible rfl)
                try simp only [Act.put, List.setIfInBounds_toArray, List.set_cons_zero, List.set_cons_succ]
                refine wpAnyH_take (i := 32) (v := ?_) rfl (by kernel_rfl) (by kernel_rfl) (by kernel_rfl) (fun _ _ _ h => h) (Or.inl ⟨by kernel_rfl, ?_⟩) (by assumption) ?_
                rotate_left
                · (intro w hSw; (try dsimp only at hSw); go_simp; try with_reducible rfl)
                try simp only [Act.put, List.setIfInBounds_toArray, List.set_cons_zero, List.set_cons_succ]
                refine wpAnyH_done (by kernel_rfl) ?_ _
                go_simp
                go_wp2_with fail
                go_meet
                exact ⟨by first | rfl | simp, hbz⟩
          case rest =>
            obtain ⟨rfl, hs⟩ := hcut
            have hb4 := Hb3.out.trans (hs.mono Hb3.out.size)
            have ha := heap_below hs Ha.out
            clear Ha a0 a1 a2 a3
            obtain ⟨a0, a1, a2, a3⟩ := pair_cells ha
            have hb := heap_below hs Hb.out
            clear Hb b0 b1 b2 b3
            obtain ⟨b0, b1, b2, b3⟩ := pair_cells hb
            have Hs := Lib.hid hs; have Hb4 := Lib.hid hb4; have Ha := Lib.hid ha; have Hb := Lib.hid hb; clear hs hb4 ha hb
            go_wp2_with fail
            refine (HF.out _ Hb4.out).mono ?_
            rintro e w5 ⟨rfl, hs⟩
            have hb5 := Hb4.out.trans (hs.mono Hb4.out.size)
            have ha := heap_below hs Ha.out
            clear Ha a0 a1 a2 a3
            obtain ⟨a0, a1, a2, a3⟩ := pair_cells ha
            have hb := heap_below hs Hb.out
            clear Hb b0 b1 b2 b3
            obtain ⟨b0, b1, b2, b3⟩ := pair_cells hb
            have Hs := Lib.hid hs; have Hb5 := Lib.hid hb5; have Ha := Lib.hid ha; have Hb := Lib.hid hb; clear hs hb5 ha hb
            go_wp2_with fail
            refine (HI.out _ Hb5.out).mono ?_
            rintro e w6 ⟨rfl, hs⟩
            have hb6 := Hb5.out.trans (hs.mono Hb5.out.size)
            have ha := heap_below hs Ha.out
            clear Ha a0 a1 a2 a3
            obtain ⟨a0, a1, a2, a3⟩ := pair_cells ha
            have hb := heap_below hs Hb.out
            clear Hb b0 b1 b2 b3
            obtain ⟨b0, b1, b2, b3⟩ := pair_cells hb
            have Hs := Lib.hid hs; have Hb6 := Lib.hid hb6; have Ha := Lib.hid ha; have Hb := Lib.hid hb; clear hs hb6 ha hb
            cases u1 with
            | false =>
              go_wp2_with fail
              refine (HM.out _ Hb6.out).mono ?_
              rintro e w7 ⟨rfl, hs⟩
              have hb7 := Hb6.out.trans (hs.mono Hb6.out.size)
              have ha := heap_below hs Ha.out
              clear Ha a0 a1 a2 a3
              obtain ⟨a0, a1, a2, a3⟩ := pair_cells ha
              have hb := heap_below hs Hb.out
              clear Hb b0 b1 b2 b3
              obtain ⟨b0, b1, b2, b3⟩ := pair_cells hb
              have Hs := Lib.hid hs; have Hb7 := Lib.hid hb7; have Ha := Lib.hid ha; have Hb := Lib.hid hb; clear hs hb7 ha hb
              cases ma with
              | false =>
                go_wp2_with fail
                go_ret
                exact ⟨by first | rfl | simp, below_on Hw.out Hb7.out⟩
              | true =>
                obtain ⟨rfl, rfl⟩ := Hall.out (by first | rfl | trivial)
                go_wp2_with fail
                refine (HN.out _ Hb7.out).mono ?_
                rintro e w8 ⟨rfl, hs⟩
                have hb8 := Hb7.out.trans (hs.mono Hb7.out.size)
                have ha := heap_below hs Ha.out
                clear Ha a0 a1 a2 a3
                obtain ⟨a0, a1, a2, a3⟩ := pair_cells ha
                have hb := heap_below hs Hb.out
                clear Hb b0 b1 b2 b3
                obtain ⟨b0, b1, b2, b3⟩ := pair_cells hb
                have Hs := Lib.hid hs; have Hb8 := Lib.hid hb8; have Ha := Lib.hid ha; have Hb := Lib.hid hb; clear hs hb8 ha hb
                go_wp2_with fail
                refine (HO.out _ Hb8.out).mono ?_
                rintro e w9 ⟨rfl, hs⟩
                have hb9 := Hb8.out.trans (hs.mono Hb8.out.size)
                have ha := heap_below hs Ha.out
                clear Ha a0 a1 a2 a3
                obtain ⟨a0, a1, a2, a3⟩ := pair_cells ha
                have hb := heap_below hs Hb.out
                clear Hb b0 b1 b2 b3
                obtain ⟨b0, b1, b2, b3⟩ := pair_cells hb
                have Hs := Lib.hid hs; have Hb9 := Lib.hid hb9; have Ha := Lib.hid ha; have Hb := Lib.hid hb; clear hs hb9 ha hb
                go_wp2_with fail
                go_ret
                exact ⟨by first | rfl | simp, below_on Hw.out Hb9.out⟩
            | true =>
              go_wp2_with fail
              refine (HX.out _ Hb6.out).mono ?_
              rintro e w7 ⟨rfl, hs⟩
              have hb7 := Hb6.out.trans (hs.mono Hb6.out.size)
              have ha := heap_below hs Ha.out
              clear Ha a0 a1 a2 a3
              obtain ⟨a0, a1, a2, a3⟩ := pair_cells ha
              have hb := heap_below hs Hb.out
              clear Hb b0 b1 b2 b3
              obtain ⟨b0, b1, b2, b3⟩ := pair_cells hb
              have Hs := Lib.hid hs; have Hb7 := Lib.hid hb7; have Ha := Lib.hid ha; have Hb := Lib.hid hb; clear hs hb7 ha hb
              cases i1 with
              | false =>
                go_wp2_with fail
                refine (HM.out _ Hb7.out).mono ?_
                rintro e w8 ⟨rfl, hs⟩
                have hb8 := Hb7.out.trans (hs.mono Hb7.out.size)
                have ha := heap_below hs Ha.out
                clear Ha a0 a1 a2 a3
                obtain ⟨a0, a1, a2, a3⟩ := pair_cells ha
                have hb := heap_below hs Hb.out
                clear Hb b0 b1 b2 b3
                obtain ⟨b0, b1, b2, b3⟩ := pair_cells hb
                have Hs := Lib.hid hs; have Hb8 := Lib.hid hb8; have Ha := Lib.hid ha; have Hb := Lib.hid hb; clear hs hb8 ha hb
                cases ma with
                | false =>
                  go_wp2_with fail
                  go_ret
                  exact ⟨by first | rfl | simp, below_on Hw.out Hb8.out⟩
                | true =>
                  obtain ⟨rfl, rfl⟩ := Hall.out (by first | rfl | trivial)
                  go_wp2_with fail
                  refine (HN.out _ Hb8.out).mono ?_
                  rintro e w9 ⟨rfl, hs⟩
                  have hb9 := Hb8.out.trans (hs.mono Hb8.out.size)
                  have ha := heap_below hs Ha.out
                  clear Ha a0 a1 a2 a3
                  obtain ⟨a0, a1, a2, a3⟩ := pair_cells ha
                  have hb := heap_below hs Hb.out
                  clear Hb b0 b1 b2 b3
                  obtain ⟨b0, b1, b2, b3⟩ := pair_cells hb
                  have Hs := Lib.hid hs; have Hb9 := Lib.hid hb9; have Ha := Lib.hid ha; have Hb := Lib.hid hb; clear hs hb9 ha hb
                  go_wp2_with fail
                  refine (HO.out _ Hb9.out).mono ?_
                  rintro e w10 ⟨rfl, hs⟩
                  have hb10 := Hb9.out.trans (hs.mono Hb9.out.size)
                  have ha := heap_below hs Ha.out
                  clear Ha a0 a1 a2 a3
                  obtain ⟨a0, a1, a2, a3⟩ := pair_cells ha
                  have hb := heap_below hs Hb.out
                  clear Hb b0 b1 b2 b3
                  obtain ⟨b0, b1, b2, b3⟩ := pair_cells hb
                  have Hs := Lib.hid hs; have Hb10 := Lib.hid hb10; have Ha := Lib.hid ha; have Hb := Lib.hid hb; clear hs hb10 ha hb
                  go_wp2_with fail
                  go_ret
                  exact ⟨by first | rfl | simp, below_on Hw.out Hb10.out⟩
              | true =>
                obtain rfl := Hmore.out (by first | rfl | trivial) (by first | rfl | trivial)
                go_wp2_with fail
                refine (HY.out _ Hb7.out).mono ?_
                rintro e w8 ⟨rfl, hs⟩
                have hb8 := Hb7.out.trans (hs.mono Hb7.out.size)
                have ha := heap_below hs Ha.out
                clear Ha a0 a1 a2 a3
                obtain ⟨a0, a1, a2, a3⟩ := pair_cells ha
                have hb := heap_below hs Hb.out
                clear Hb b0 b1 b2 b3
                obtain ⟨b0, b1, b2, b3⟩ := pair_cells hb
                have Hs := Lib.hid hs; have Hb8 := Lib.hid hb8; have Ha := Lib.hid ha; have Hb := Lib.hid hb; clear hs hb8 ha hb
                go_wp2_with fail
                refine (HM.out _ Hb8.out).mono ?_
                rintro e w9 ⟨rfl, hs⟩
                have hb9 := Hb8.out.trans (hs.mono Hb8.out.size)
                have ha := heap_below hs Ha.out
                clear Ha a0 a1 a2 a3
                obtain ⟨a0, a1, a2, a3⟩ := pair_cells ha
                have hb := heap_below hs Hb.out
                clear Hb b0 b1 b2 b3
                obtain ⟨b0, b1, b2, b3⟩ := pair_cells hb
                have Hs := Lib.hid hs; have Hb9 := Lib.hid hb9; have Ha := Lib.hid ha; have Hb := Lib.hid hb; clear hs hb9 ha hb
                cases ma with
                | false =>
                  go_wp2_with fail
                  go_ret
                  exact ⟨by first | rfl | simp, below_on Hw.out Hb9.out⟩
                | true =>
                  obtain ⟨rfl, rfl⟩ := Hall.out (by first | rfl | trivial)
                  go_wp2_with fail
                  refine (HN.out _ Hb9.out).mono ?_
                  rintro e w10 ⟨rfl, hs⟩
                  have hb10 := Hb9.out.trans (hs.mono Hb9.out.size)
                  have ha := heap_below hs Ha.out
                  clear Ha a0 a1 a2 a3
                  obtain ⟨a0, a1, a2, a3⟩ := pair_cells ha
                  have hb := heap_below hs Hb.out
                  clear Hb b0 b1 b2 b3
                  obtain ⟨b0, b1, b2, b3⟩ := pair_cells hb
                  have Hs := Lib.hid hs; have Hb10 := Lib.hid hb10; have Ha := Lib.hid ha; have Hb := Lib.hid hb; clear hs hb10 ha hb
                  go_wp2_with fail
                  refine (HO.out _ Hb10.out).mono ?_
                  rintro e w11 ⟨rfl, hs⟩
                  have hb11 := Hb10.out.trans (hs.mono Hb10.out.size)
                  have ha := heap_below hs Ha.out
                  clear Ha a0 a1 a2 a3
                  obtain ⟨a0, a1, a2, a3⟩ := pair_cells ha
                  have hb := heap_below hs Hb.out
                  clear Hb b0 b1 b2 b3
                  obtain ⟨b0, b1, b2, b3⟩ := pair_cells hb
                  have Hs := Lib.hid hs; have Hb11 := Lib.hid hb11; have Ha := Lib.hid ha; have Hb := Lib.hid hb; clear hs hb11 ha hb
                  go_wp2_with fail
                  go_ret
                  exact ⟨by first | rfl | simp, below_on Hw.out Hb11.out⟩
        | true =>
          go_wp2_with fail
          refine (HF.out _ Hb2.out).mono ?_
          rintro e w3 ⟨rfl, hs⟩
          have hb3 := Hb2.out.trans (hs.mono Hb2.out.size)
          have ha := heap_below hs Ha.out
          clear Ha a0 a1 a2 a3
          obtain ⟨a0, a1, a2, a3⟩ := pair_cells ha
          have hb := heap_below hs Hb.out
          clear Hb b0 b1 b2 b3
          obtain ⟨b0, b1, b2, b3⟩ := pair_cells hb
          have Hs := Lib.hid hs; have Hb3 := Lib.hid hb3; have Ha := Lib.hid ha; have Hb := Lib.hid hb; clear hs hb3 ha hb
          go_wp2_with fail
          go_ret
          exact ⟨by first | rfl | simp, below_on Hw.out Hb3.out⟩
      | true =>
        go_wp2_with fail
        refine (HF.out _ Hb1.out).mono ?_
        rintro e w2 ⟨rfl, hs⟩
        have hb2 := Hb1.out.trans (hs.mono Hb1.out.size)
        have ha := heap_below hs Ha.out
        clear Ha a0 a1 a2 a3
        obtain ⟨a0, a1, a2, a3⟩ := pair_cells ha
        have hb := heap_below hs Hb.out
        clear Hb b0 b1 b2 b3
        obtain ⟨b0, b1, b2, b3⟩ := pair_cells hb
        have Hs := Lib.hid hs; have Hb2 := Lib.hid hb2; have Ha := Lib.hid ha; have Hb := Lib.hid hb; clear hs hb2 ha hb
        go_wp2_with fail
        go_ret
        exact ⟨by first | rfl | simp, below_on Hw.out Hb2.out⟩
    | true =>
      go_wp2_with fail
      refine (HF.out _ Hb0.out).mono ?_
      rintro e w1 ⟨rfl, hs⟩
      have hb1 := Hb0.out.trans (hs.mono Hb0.out.size)
      have ha := heap_below hs Ha.out
      clear Ha a0 a1 a2 a3
      obtain ⟨a0, a1, a2, a3⟩ := pair_cells ha
      have hb := heap_below hs Hb.out
      clear Hb b0 b1 b2 b3
      obtain ⟨b0, b1, b2, b3⟩ := pair_cells hb
      have Hs := Lib.hid hs; have Hb1 := Lib.hid hb1; have Ha := Lib.hid ha; have Hb := Lib.hid hb; clear hs hb1 ha hb
      go_wp2_with fail
      go_ret
      exact ⟨by first | rfl | simp, below_on Hw.out Hb1.out⟩
  | true =>
    go_wp2_with fail
    refine (HF.out _ Hb0.out).mono ?_
    rintro e w1 ⟨rfl, hs⟩
    have hb1 := Hb0.out.trans (hs.mono Hb0.out.size)
    have ha := heap_below hs Ha.out
    clear Ha a0 a1 a2 a3
    obtain ⟨a0, a1, a2, a3⟩ := pair_cells ha
    have hb := heap_below hs Hb.out
    clear Hb b0 b1 b2 b3
    obtain ⟨b0, b1, b2, b3⟩ := pair_cells hb
    have Hs := Lib.hid hs; have Hb1 := Lib.hid hb1; have Ha := Lib.hid ha; have Hb := Lib.hid hb; clear hs hb1 ha hb
    go_wp2_with fail
    go_ret
    exact ⟨by first | rfl | simp, below_on Hw.out Hb1.out⟩
end Go.Proofs.YtblkdcapampniaaDoor
