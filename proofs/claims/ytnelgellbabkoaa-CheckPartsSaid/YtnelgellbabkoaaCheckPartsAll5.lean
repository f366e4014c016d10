/- Walks and plain facts. Texts merged: ChkO, IdxPref, ChkR, ChkS, ChkU, ChkY, PrtM, PrtR, PrtQ. Condition: none beyond what each says. -/
import Derived.Test.YtnelgellbabkoaaRows
import Derived.Test.YtnelgellbabkoaaCheckPartsAll1
import Derived.Test.YtnelgellbabkoaaCheckPartsAll2
import Derived.Test.YtnelgellbabkoaaCheckPartsAll3
import Derived.Test.YtnelgellbabkoaaCheckPartsAll4
/- The walk of cooperref09.rules. Condition: few packages. -/
namespace Go.Proofs.Ytnelgellbabkoaa
open Go.RowKit Go.Shelf
attribute [local go_sem ↓] Go.wp_at_zero Go.wp_at_succ

set_option maxRecDepth 10000 in
set_option maxHeartbeats 16000000 in
theorem rulesRef_any {w : World} {v pw q0 q1 q2 q4 q7 u3 u5 u6 : Value} {l : List Pkg} {vs : List Var} {ds cs : List Dpd} (h : RSlice 8 RPkg w [v] l) (hl : l.length ≤ 1000000) (hvs : RVars w [u3] vs) (hds : RSlice 7 RDpd w [u5] ds) (hcs : RSlice 7 RDpd w [u6] cs) (r : Int × Int) (hr : r = (firstBad (depX l vs) dLine ds).getD ((firstBad (cftX l vs) dLine cs).getD (0, 0))) : Calls Try.prog 85 #[.agg #[v, pw], .agg #[q0, q1, q2, u3, q4, u5, u6, q7]] w fun e w' => e = .returned (.agg #[.int .u8 r.1, .int .i64 r.2]) ∧ Below w.heap.size w w' := by
  have hWs := fun (W : World) (hb : Below w.heap.size w W) (s : ByteArray) (u1 u2 : Value) (sp : List Spn) (st : List Setg) (h1 : RSlice 2 RSpn W [u1] sp) (h2 : RSets W [u2] st) => wishRef_any9 (pw := pw) (nm := s) (stays_slice stays_pkg _ _ _ _ h hb) hl h1 h2
  have hOf := fun (W : World) (hb : Below w.heap.size w W) (u : Value) (st : List Setg) (h1 : RSets W [u] st) => settingsRef_any (v0 := q0) (v1 := q1) (v2 := q2) (v4 := q4) (v5 := u5) (v6 := u6) (v7 := q7) (stays_slice stays_var _ _ _ _ hvs hb) h1
  have hFi := fun (W : World) (hb : Below w.heap.size w W) (s : ByteArray) => findRef_any (pv := pw) (stays_slice stays_pkg _ _ _ _ h hb) s
  obtain ⟨a5, p5, rfl, z5, g5⟩ := dpds_open hds
  obtain ⟨a6, p6, rfl, z6, g6⟩ := dpds_open hcs
  obtain ⟨a, cap, rfl, hz, _⟩ := pkgs_open h
  obtain ⟨a3, m3, p3, rfl⟩ := slice_any_shape hvs
  obtain ⟨n, hn⟩ : ∃ n, n = l.length := ⟨_, rfl⟩
  obtain ⟨n5, hn5⟩ : ∃ n, n = ds.length := ⟨_, rfl⟩
  obtain ⟨n6, hn6⟩ : ∃ n, n = cs.length := ⟨_, rfl⟩
  rw [← hn] at hz h hl hWs hFi
  rw [← hn5] at z5 hds hOf
  rw [← hn6] at z6 hcs hOf
  rw [← hn, ← hn5, ← hn6]
  obtain ⟨nb, hnb⟩ : ∃ nb, nb = w.heap.size := ⟨_, rfl⟩
  obtain ⟨W0, hW0⟩ : ∃ W0, W0 = ((w.alloc (.cells #[.slice a n cap, pw] 52)).alloc (.cells #[q0, q1, q2, .slice a3 m3 p3, q4, .slice a5 n5 p5, .slice a6 n6 p6, q7] 68)).alloc (.cells #[.int .u8 0, .int .i64 0] 55) := ⟨_, rfl⟩
  have hb0 : Below w.heap.size w W0 := by rw [hW0]; exact ((below_alloc1 _ _).alloc (below_alloc1 _ _).size _).alloc ((below_alloc1 _ _).alloc (below_alloc1 _ _).size _).size _
  have hbx : RlBox nb (.slice a n cap) pw #[q0, q1, q2, .slice a3 m3 p3, q4, .slice a5 n5 p5, .slice a6 n6 p6, q7] W0 := by rw [hW0, hnb]; exact rlbox_new _ _ _ _
  obtain ⟨c0, c1, d0, d1, d2, d3, d4, d5, d6, d7⟩ := hbx.pk.cells
  have nb0 : w.heap.size ≤ nb := by omega
  have Hh := Lib.hid h; have Hvs := Lib.hid hvs; have Hds := Lib.hid hds; have Hcs := Lib.hid hcs; have Hr := Lib.hid hr; have HWs := Lib.hid hWs; have HOf := Lib.hid hOf; have HFi := Lib.hid hFi; have Hg5 := Lib.hid g5; have Hg6 := Lib.hid g6; have Hn := Lib.hid hn; have Hn5 := Lib.hid hn5; have Hn6 := Lib.hid hn6; have Hb0 := Lib.hid hb0; have Hbx := Lib.hid hbx; have Hnb0 := Lib.hid nb0; clear h hvs hds hcs hr hWs hOf hFi g5 g6 hn hn5 hn6 hb0 hbx nb0
  go_enter Try.func85, Try.ntmps85
  go_upto_region 1 with (fail)
  rw [← hW0, ← hnb]
  have HW0 := Lib.hid hW0; have Hnb := Lib.hid hnb; clear hW0 hnb
  go_wp2_with fail
  clear c0 c1 d0 d1 d2 d3 d4 d5 d6 d7
  go_loopw [14] (fun i wr => ∃ k : Nat, k ≤ n5 ∧ i = .int .i64 k ∧ (∀ j (hj : j < ds.length), j < k → depX l vs ds[j] = 0) ∧ Below W0.heap.size W0 wr) (fun i _ => n5 - (intOf i).toNat)
  case atStart => exact ⟨0, Nat.zero_le _, rfl, fun _ _ h => by omega, Below.refl _ _⟩
  case round =>
    obtain ⟨k, hk, rfl, hno, hb⟩ := hrel
    have hbw := Hb0.out.trans (hb.mono Hb0.out.size)
    have hbx1 := Hbx.out.below hb
    obtain ⟨x0, x1, x2, x3, x4, x5, x6, x7, x8, x9⟩ := hbx1.pk.cells
    by_cases hlt : k < n5
    · have hkl : k < ds.length := by have := Hn5.out; omega
      obtain ⟨b, off, u1, u2, u4, u5, rfl, hp⟩ := Hg5.out k _ (List.getElem?_eq_getElem hkl)
      have hbad := fun h => firstBad_at (ln := dLine) hkl hno h
      have hnx := fun (h : depX l vs ds[k] = 0) => zero_succ (k := k) hno (fun _ => h)
      have hdx : depX l vs ds[k] = if wishOf l ds[k].1.1 ds[k].1.2.1 ds[k].1.2.2.1 = 0 then (if ofOf vs ds[k].2.1.2.2.1 then 0 else 8) else wishOf l ds[k].1.1 ds[k].1.2.1 ds[k].1.2.2.1 := rfl

      obtain ⟨y, hy⟩ : ∃ y, y = ds[k] := ⟨_, rfl⟩
      rw [← hy] at hp hdx hbad hnx
      obtain ⟨b1, m1, p1, rfl⟩ := slice_any_shape hp.r1
      obtain ⟨b2, m2, p2, rfl⟩ := slice_any_shape hp.r2
      obtain ⟨b4, m4, p4, rfl⟩ := slice_any_shape hp.r4
      obtain ⟨b5, m5, p5, rfl⟩ := slice_any_shape hp.r5
      have e0 := cell_later hbw hp.c0
      have e1 := cell_later hbw hp.c1
      have e2 := cell_later hbw hp.c2
      have e3 := cell_later hbw hp.c3
      have e4 := cell_later hbw hp.c4
      have e5 := cell_later hbw hp.c5
      have e6 := cell_later hbw hp.c6
      obtain ⟨s0, hs0⟩ : ∃ s, s = y.1.1 := ⟨_, rfl⟩
      obtain ⟨s3, hs3⟩ : ∃ s, s = y.2.1.1 := ⟨_, rfl⟩
      obtain ⟨ln, hln⟩ : ∃ s, s = y.2.2.1 := ⟨_, rfl⟩
      rw [← hs0] at e0
      rw [← hs3] at e3
      rw [← hln] at e6
      obtain ⟨W1, hW1⟩ : ∃ W1, W1 = wr.alloc (.cells #[.string s0, .slice b1 m1 p1, .slice b2 m2 p2, .string s3, .slice b4 m4 p4, .slice b5 m5 p5, .int .i64 ln] 127) := ⟨_, rfl⟩
      have hbn : Below wr.heap.size wr W1 := by rw [hW1]; exact below_alloc1 _ _
      have hb1 := hbw.trans (hbn.mono hbw.size)
      have hbr1 := hb.trans (hbn.mono hb.size)
      have hbx1 := hbx1.below hbn
      obtain ⟨D, hD⟩ : ∃ D, D = wr.heap.size := ⟨_, rfl⟩
      have hdb1 : W1.heap[D]? = some (.cells #[.string s0, .slice b1 m1 p1, .slice b2 m2 p2, .string s3, .slice b4 m4 p4, .slice b5 m5 p5, .int .i64 ln] 127 (0, 0)) := by rw [hW1, hD]; exact heap_alloc_new _ _
      obtain ⟨f0, f1, f2, f3, f4, f5, f6⟩ := dbox_cells hdb1
      obtain ⟨c0, c1, d0, d1, d2, d3, d4, d5, d6, d7⟩ := hbx1.pk.cells
      have hR1 := fun (W : World) (hb : Below w.heap.size w W) => stays_slice stays_spn _ _ _ _ hp.r1 hb
      have hR2 := fun (W : World) (hb : Below w.heap.size w W) => stays_slice stays_set _ _ _ _ hp.r2 hb
      have hR4 := fun (W : World) (hb : Below w.heap.size w W) => stays_slice stays_spn _ _ _ _ hp.r4 hb
      have hR5 := fun (W : World) (hb : Below w.heap.size w W) => stays_slice stays_set _ _ _ _ hp.r5 hb
      have k5 : (0 : Int) ≤ (k : Int) := by omega
      have k6 : (k : Int) < (n5 : Int) := by omega
      have hC := HWs.out W1 hb1 s0 _ _ y.1.2.1 y.1.2.2.1 (hR1 _ hb1) (hR2 _ hb1)
      have hO := fun (W : World) (hb : Below w.heap.size w W) => HOf.out W hb _ y.2.1.2.2.1 (hR5 _ hb)
      obtain ⟨c, hc⟩ : ∃ c, c = wishOf l s0 y.1.2.1 y.1.2.2.1 := ⟨_, rfl⟩
      obtain ⟨ob, hob⟩ : ∃ c, c = ofOf vs y.2.1.2.2.1 := ⟨_, rfl⟩
      rw [← hc] at hC
      rw [← hob] at hO hdx
      rw [← hs0, ← hc] at hdx
      have Hno := Lib.hid hno; have Hb := Lib.hid hb; have Hbw := Lib.hid hbw; have Hp := Lib.hid hp; have Hbad := Lib.hid hbad; have Hnx := Lib.hid hnx; have Hdx := Lib.hid hdx; have Hy := Lib.hid hy; have Hs0 := Lib.hid hs0; have Hs3 := Lib.hid hs3; have Hln := Lib.hid hln; have Hbn := Lib.hid hbn; have Hb1 := Lib.hid hb1; have Hbr1 := Lib.hid hbr1; have Hbx1 := Lib.hid hbx1; have Hdb1 := Lib.hid hdb1; have HC := Lib.hid hC; have HO := Lib.hid hO; have Hc := Lib.hid hc; have Hob := Lib.hid hob; have HR1 := Lib.hid hR1; have HR2 := Lib.hid hR2; have HR4 := Lib.hid hR4; have HR5 := Lib.hid hR5; clear hno hb hbw hp hbad hnx hdx hy hs0 hs3 hln hbn hb1 hbr1 hbx1 hdb1 hC hO hc hob hR1 hR2 hR4 hR5
      go_upto_region 5 with (fail)
      rw [← hW1, ← hD]
      have HW1 := Lib.hid hW1; have HD := Lib.hid hD; clear hW1 hD
      clear e0 e1 e2 e3 e4 e5 e6 x0 x1 x2 x3 x4 x5 x6 x7 x8 x9
      by_cases hc0 : c = 0
      · have k7 : (c != 0) = false := by simp [hc0]
        have k8 : (c == 0) = true := by simp [hc0]
        go_wp2_with fail
        refine HC.out.mono ?_
        rintro e w3 ⟨rfl, hbm⟩
        have hb2 := Hb1.out.trans (hbm.mono Hb1.out.size)
        have hbr2 := Hbr1.out.trans (hbm.mono Hbr1.out.size)
        have hbx2 := Hbx1.out.below hbm
        have hdb2 := heap_below hbm Hdb1.out
        clear c0 c1 d0 d1 d2 d3 d4 d5 d6 d7 f0 f1 f2 f3 f4 f5 f6
        obtain ⟨c0, c1, d0, d1, d2, d3, d4, d5, d6, d7⟩ := hbx2.pk.cells
        obtain ⟨f0, f1, f2, f3, f4, f5, f6⟩ := dbox_cells hdb2
        have Hbm := Lib.hid hbm; have Hb2 := Lib.hid hb2; have Hbr2 := Lib.hid hbr2; have Hbx2 := Lib.hid hbx2; have Hdb2 := Lib.hid hdb2; clear hbm hb2 hbr2 hbx2 hdb2
        have hO3 := HO.out w3 Hb2.out
        have HO3 := Lib.hid hO3; clear hO3
        go_wp2_with fail
        refine HO3.out.mono ?_
        rintro e w4 ⟨rfl, hbm⟩
        have hb3 := Hb2.out.trans (hbm.mono Hb2.out.size)
        have hbr3 := Hbr2.out.trans (hbm.mono Hbr2.out.size)
        have hbx3 := Hbx2.out.below hbm
        have hdb3 := heap_below hbm Hdb2.out
        clear c0 c1 d0 d1 d2 d3 d4 d5 d6 d7 f0 f1 f2 f3 f4 f5 f6
        obtain ⟨c0, c1, d0, d1, d2, d3, d4, d5, d6, d7⟩ := hbx3.pk.cells
        obtain ⟨f0, f1, f2, f3, f4, f5, f6⟩ := dbox_cells hdb3
        have Hbm := Lib.hid hbm; have Hb3 := Lib.hid hb3; have Hbr3 := Lib.hid hbr3; have Hbx3 := Lib.hid hbx3; have Hdb3 := Lib.hid hdb3; clear hbm hb3 hbr3 hbx3 hdb3
        cases ob with
        | false =>
          have hdv : depX l vs y = 8 := by rw [Hdx.out, if_pos hc0]; rfl
          have hf : r = (8, ln) := by rw [Hr.out, Hbad.out (by rw [hdv]; decide), hdv, Hln.out]; rfl
          clear hdv
          have hres := Hbx3.out.res
          obtain ⟨y0, y1, y2, y3⟩ := prob_cells hres
          have Hres := Lib.hid hres; have Hf := Lib.hid hf; clear hres hf
          go_wp2_with fail
          (try simp only [Exit.inBlock, Exit.then])
          refine bodyPost_prob (g := nb + 1 + 1) rfl (by simp) (prob_set _ _ Hres.out) rfl ?_
          exact ⟨by rw [Hf.out], prob_bel _ _ Hb3.out (by have := Hnb0.out; omega)⟩
        | true =>
          have hnz := Hnx.out (by rw [Hdx.out, if_pos hc0]; rfl)
          have Hnz := Lib.hid hnz; clear hnz
          go_wp2_with fail
          go_roundw
          case rel => exact ⟨k + 1, by omega, by go_num, Hnz.out, Hbr3.out⟩
          case measure => simp [intOf]; omega
      · have k7 : (c != 0) = true := by simp [hc0]
        have k8 : (c == 0) = false := by simp [hc0]
        go_wp2_with fail
        refine HC.out.mono ?_
        rintro e w3 ⟨rfl, hbm⟩
        have hb2 := Hb1.out.trans (hbm.mono Hb1.out.size)
        have hbr2 := Hbr1.out.trans (hbm.mono Hbr1.out.size)
        have hbx2 := Hbx1.out.below hbm
        have hdb2 := heap_below hbm Hdb1.out
        clear c0 c1 d0 d1 d2 d3 d4 d5 d6 d7 f0 f1 f2 f3 f4 f5 f6
        obtain ⟨c0, c1, d0, d1, d2, d3, d4, d5, d6, d7⟩ := hbx2.pk.cells
        obtain ⟨f0, f1, f2, f3, f4, f5, f6⟩ := dbox_cells hdb2
        have Hbm := Lib.hid hbm; have Hb2 := Lib.hid hb2; have Hbr2 := Lib.hid hbr2; have Hbx2 := Lib.hid hbx2; have Hdb2 := Lib.hid hdb2; clear hbm hb2 hbr2 hbx2 hdb2
        have hf : r = (c, ln) := by rw [Hr.out, Hbad.out (by rw [Hdx.out, if_neg hc0]; exact hc0), Hdx.out, if_neg hc0, Hln.out]; rfl
        have hres := Hbx2.out.res
        obtain ⟨y0, y1, y2, y3⟩ := prob_cells hres
        have Hres := Lib.hid hres; have Hf := Lib.hid hf; clear hres hf
        go_wp2_with fail
        (try simp only [Exit.inBlock, Exit.then])
        refine bodyPost_prob (g := nb + 1 + 1) rfl (by simp) (prob_set _ _ Hres.out) rfl ?_
        exact ⟨by rw [Hf.out], prob_bel _ _ Hb2.out (by have := Hnb0.out; omega)⟩
    · obtain rfl : n5 = k := by omega
      have hfir : firstBad (depX l vs) dLine ds = none := firstBad_none (fun j hj => hno j hj (by have := Hn5.out; omega))
      have Hfir := Lib.hid hfir; have Hno := Lib.hid hno; have Hb := Lib.hid hb; have Hbw := Lib.hid hbw; have Hbx1 := Lib.hid hbx1; clear hfir hno hb hbw hbx1
      go_wp2_with fail
      clear x0 x1 x2 x3 x4 x5 x6 x7 x8 x9
      go_loopw [46] (fun i wr => ∃ k : Nat, k ≤ n6 ∧ i = .int .i64 k ∧ (∀ j (hj : j < cs.length), j < k → cftX l vs cs[j] = 0) ∧ Below W0.heap.size W0 wr) (fun i _ => n6 - (intOf i).toNat)
      case atStart => exact ⟨0, Nat.zero_le _, rfl, fun _ _ h => by omega, Hb.out⟩
      case round =>
        obtain ⟨k, hk, rfl, hno, hb⟩ := hrel
        have hbw := Hb0.out.trans (hb.mono Hb0.out.size)
        have hbx1 := Hbx.out.below hb
        obtain ⟨x0, x1, x2, x3, x4, x5, x6, x7, x8, x9⟩ := hbx1.pk.cells
        by_cases hlt : k < n6
        · have hkl : k < cs.length := by have := Hn6.out; omega
          obtain ⟨b, off, u1, u2, u4, u5, rfl, hp⟩ := Hg6.out k _ (List.getElem?_eq_getElem hkl)
          have hbad := fun h => firstBad_at (ln := dLine) hkl hno h
          have hnx := fun (h : cftX l vs cs[k] = 0) => zero_succ (k := k) hno (fun _ => h)
          have hdx : cftX l vs cs[k] = if ofOf vs cs[k].1.2.2.1 then (if cs[k].2.1.1 = noText then 0 else if idxOf (named cs[k].2.1.1) l < 0 then 7 else wishOf l cs[k].2.1.1 cs[k].2.1.2.1 cs[k].2.1.2.2.1) else 8 := rfl

          obtain ⟨y, hy⟩ : ∃ y, y = cs[k] := ⟨_, rfl⟩
          rw [← hy] at hp hdx hbad hnx
          obtain ⟨b1, m1, p1, rfl⟩ := slice_any_shape hp.r1
          obtain ⟨b2, m2, p2, rfl⟩ := slice_any_shape hp.r2
          obtain ⟨b4, m4, p4, rfl⟩ := slice_any_shape hp.r4
          obtain ⟨b5, m5, p5, rfl⟩ := slice_any_shape hp.r5
          have e0 := cell_later hbw hp.c0
          have e1 := cell_later hbw hp.c1
          have e2 := cell_later hbw hp.c2
          have e3 := cell_later hbw hp.c3
          have e4 := cell_later hbw hp.c4
          have e5 := cell_later hbw hp.c5
          have e6 := cell_later hbw hp.c6
          obtain ⟨s0, hs0⟩ : ∃ s, s = y.1.1 := ⟨_, rfl⟩
          obtain ⟨s3, hs3⟩ : ∃ s, s = y.2.1.1 := ⟨_, rfl⟩
          obtain ⟨ln, hln⟩ : ∃ s, s = y.2.2.1 := ⟨_, rfl⟩
          rw [← hs0] at e0
          rw [← hs3] at e3
          rw [← hln] at e6
          obtain ⟨W1, hW1⟩ : ∃ W1, W1 = wr.alloc (.cells #[.string s0, .slice b1 m1 p1, .slice b2 m2 p2, .string s3, .slice b4 m4 p4, .slice b5 m5 p5, .int .i64 ln] 129) := ⟨_, rfl⟩
          have hbn : Below wr.heap.size wr W1 := by rw [hW1]; exact below_alloc1 _ _
          have hb1 := hbw.trans (hbn.mono hbw.size)
          have hbr1 := hb.trans (hbn.mono hb.size)
          have hbx1 := hbx1.below hbn
          obtain ⟨D, hD⟩ : ∃ D, D = wr.heap.size := ⟨_, rfl⟩
          have hdb1 : W1.heap[D]? = some (.cells #[.string s0, .slice b1 m1 p1, .slice b2 m2 p2, .string s3, .slice b4 m4 p4, .slice b5 m5 p5, .int .i64 ln] 129 (0, 0)) := by rw [hW1, hD]; exact heap_alloc_new _ _
          obtain ⟨f0, f1, f2, f3, f4, f5, f6⟩ := dbox_cells hdb1
          obtain ⟨c0, c1, d0, d1, d2, d3, d4, d5, d6, d7⟩ := hbx1.pk.cells
          have hR1 := fun (W : World) (hb : Below w.heap.size w W) => stays_slice stays_spn _ _ _ _ hp.r1 hb
          have hR2 := fun (W : World) (hb : Below w.heap.size w W) => stays_slice stays_set _ _ _ _ hp.r2 hb
          have hR4 := fun (W : World) (hb : Below w.heap.size w W) => stays_slice stays_spn _ _ _ _ hp.r4 hb
          have hR5 := fun (W : World) (hb : Below w.heap.size w W) => stays_slice stays_set _ _ _ _ hp.r5 hb
          have k5 : (0 : Int) ≤ (k : Int) := by omega
          have k6 : (k : Int) < (n6 : Int) := by omega
          have hO := fun (W : World) (hb : Below w.heap.size w W) => HOf.out W hb _ y.1.2.2.1 (hR2 _ hb)
          have hC := fun (W : World) (hb : Below w.heap.size w W) => HWs.out W hb s3 _ _ y.2.1.2.1 y.2.1.2.2.1 (hR4 _ hb) (hR5 _ hb)
          have hI := fun (W : World) (hb : Below w.heap.size w W) => HFi.out W hb s3
          obtain ⟨c, hc⟩ : ∃ c, c = wishOf l s3 y.2.1.2.1 y.2.1.2.2.1 := ⟨_, rfl⟩
          obtain ⟨ob, hob⟩ : ∃ c, c = ofOf vs y.1.2.2.1 := ⟨_, rfl⟩
          obtain ⟨i, hi⟩ : ∃ i, i = idxOf (named s3) l := ⟨_, rfl⟩
          rw [← hc] at hC
          rw [← hob] at hO
          rw [← hi] at hI
          rw [← hob, ← hs3, ← hc, ← hi] at hdx
          have em := empty_dec s3
          have Hno := Lib.hid hno; have Hb := Lib.hid hb; have Hbw := Lib.hid hbw; have Hp := Lib.hid hp; have Hbad := Lib.hid hbad; have Hnx := Lib.hid hnx; have Hdx := Lib.hid hdx; have Hy := Lib.hid hy; have Hs0 := Lib.hid hs0; have Hs3 := Lib.hid hs3; have Hln := Lib.hid hln; have Hbn := Lib.hid hbn; have Hb1 := Lib.hid hb1; have Hbr1 := Lib.hid hbr1; have Hbx1 := Lib.hid hbx1; have Hdb1 := Lib.hid hdb1; have HC := Lib.hid hC; have HO := Lib.hid hO; have Hc := Lib.hid hc; have Hob := Lib.hid hob; have HR1 := Lib.hid hR1; have HR2 := Lib.hid hR2; have HR4 := Lib.hid hR4; have HR5 := Lib.hid hR5; have HI := Lib.hid hI; have Hi := Lib.hid hi; have Hem := Lib.hid em; clear hno hb hbw hp hbad hnx hdx hy hs0 hs3 hln hbn hb1 hbr1 hbx1 hdb1 hC hO hc hob hR1 hR2 hR4 hR5 hI hi em
          go_upto_region 15 with (fail)
          rw [← hW1, ← hD]
          have HW1 := Lib.hid hW1; have HD := Lib.hid hD; clear hW1 hD
          clear e0 e1 e2 e3 e4 e5 e6 x0 x1 x2 x3 x4 x5 x6 x7 x8 x9
          by_cases hs3e : s3 = noText
          · have k7 : s3.toList.isEmpty = true := by rw [Hem.out, decide_eq_true hs3e]
            have Hs3e := Lib.hid hs3e; clear hs3e
            have hO1 := HO.out _ Hb1.out
            have HO1 := Lib.hid hO1; clear hO1
            cases ob with
            | false =>
              have hdv : cftX l vs y = 8 := by rw [Hdx.out]; rfl
              have Hdv := Lib.hid hdv; clear hdv
              go_wp2_with fail
              refine HO1.out.mono ?_
              rintro e w9 ⟨rfl, hbm⟩
              have hb9 := Hb1.out.trans (hbm.mono Hb1.out.size)
              have hbr9 := Hbr1.out.trans (hbm.mono Hbr1.out.size)
              have hbx9 := Hbx1.out.below hbm
              have hdb9 := heap_below hbm Hdb1.out
              clear c0 c1 d0 d1 d2 d3 d4 d5 d6 d7 f0 f1 f2 f3 f4 f5 f6
              obtain ⟨c0, c1, d0, d1, d2, d3, d4, d5, d6, d7⟩ := hbx9.pk.cells
              obtain ⟨f0, f1, f2, f3, f4, f5, f6⟩ := dbox_cells hdb9
              have Hbm := Lib.hid hbm; have Hb9 := Lib.hid hb9; have Hbr9 := Lib.hid hbr9; have Hbx9 := Lib.hid hbx9; have Hdb9 := Lib.hid hdb9; clear hbm hb9 hbr9 hbx9 hdb9
              have hdv := Hdv.out
              have hf : r = (8, ln) := by rw [Hr.out, Hfir.out, Hbad.out (by rw [hdv]; decide), hdv, Hln.out]; rfl
              clear hdv
              have hres := Hbx9.out.res
              obtain ⟨y0, y1, y2, y3⟩ := prob_cells hres
              have Hres := Lib.hid hres; have Hf := Lib.hid hf; clear hres hf
              go_wp2_with fail
              (try simp only [Exit.inBlock, Exit.then])
              refine bodyPost_prob (g := nb + 1 + 1) rfl (by simp) (prob_set _ _ Hres.out) rfl ?_
              exact ⟨by rw [Hf.out], prob_bel _ _ Hb9.out (by have := Hnb0.out; omega)⟩
            | true =>
              have hdx2 := Hdx.out
              rw [if_pos rfl] at hdx2
              have hdv : cftX l vs y = 0 := by rw [hdx2, if_pos Hs3e.out]
              have Hdv := Lib.hid hdv; have Hdx2 := Lib.hid hdx2; clear hdv hdx2
              go_wp2_with fail
              refine HO1.out.mono ?_
              rintro e w9 ⟨rfl, hbm⟩
              have hb9 := Hb1.out.trans (hbm.mono Hb1.out.size)
              have hbr9 := Hbr1.out.trans (hbm.mono Hbr1.out.size)
              have hbx9 := Hbx1.out.below hbm
              have hdb9 := heap_below hbm Hdb1.out
              clear c0 c1 d0 d1 d2 d3 d4 d5 d6 d7 f0 f1 f2 f3 f4 f5 f6
              obtain ⟨c0, c1, d0, d1, d2, d3, d4, d5, d6, d7⟩ := hbx9.pk.cells
              obtain ⟨f0, f1, f2, f3, f4, f5, f6⟩ := dbox_cells hdb9
              have Hbm := Lib.hid hbm; have Hb9 := Lib.hid hb9; have Hbr9 := Lib.hid hbr9; have Hbx9 := Lib.hid hbx9; have Hdb9 := Lib.hid hdb9; clear hbm hb9 hbr9 hbx9 hdb9
              have hdv := Hdv.out
              have hnz := Hnx.out hdv
              have Hnz := Lib.hid hnz; have Hdv := Lib.hid hdv; clear hnz hdv
              go_wp2_with fail
              go_roundw
              case rel => exact ⟨k + 1, by omega, by go_num, Hnz.out, Hbr9.out⟩
              case measure => simp [intOf]; omega
          · have k7 : s3.toList.isEmpty = false := by rw [Hem.out, decide_eq_false hs3e]
            have hC1 := HC.out _ Hb1.out
            have Hs3e := Lib.hid hs3e; have HC1 := Lib.hid hC1; clear hs3e hC1
            go_wp2_with fail
            refine HC1.out.mono ?_
            rintro e w3 ⟨rfl, hbm⟩
            have hb2 := Hb1.out.trans (hbm.mono Hb1.out.size)
            have hbr2 := Hbr1.out.trans (hbm.mono Hbr1.out.size)
            have hbx2 := Hbx1.out.below hbm
            have hdb2 := heap_below hbm Hdb1.out
            clear c0 c1 d0 d1 d2 d3 d4 d5 d6 d7 f0 f1 f2 f3 f4 f5 f6
            obtain ⟨c0, c1, d0, d1, d2, d3, d4, d5, d6, d7⟩ := hbx2.pk.cells
            obtain ⟨f0, f1, f2, f3, f4, f5, f6⟩ := dbox_cells hdb2
            have Hbm := Lib.hid hbm; have Hb2 := Lib.hid hb2; have Hbr2 := Lib.hid hbr2; have Hbx2 := Lib.hid hbx2; have Hdb2 := Lib.hid hdb2; clear hbm hb2 hbr2 hbx2 hdb2
            have hI2 := HI.out w3 Hb2.out
            have HI2 := Lib.hid hI2; clear hI2
            by_cases hneg : i < 0
            · have k8 : decide (i < 0) = true := decide_eq_true hneg
              go_wp2_with fail
              refine HI2.out.mono ?_
              rintro e w4 ⟨rfl, hbm⟩
              have hb3 := Hb2.out.trans (hbm.mono Hb2.out.size)
              have hbr3 := Hbr2.out.trans (hbm.mono Hbr2.out.size)
              have hbx3 := Hbx2.out.below hbm
              have hdb3 := heap_below hbm Hdb2.out
              clear c0 c1 d0 d1 d2 d3 d4 d5 d6 d7 f0 f1 f2 f3 f4 f5 f6
              obtain ⟨c0, c1, d0, d1, d2, d3, d4, d5, d6, d7⟩ := hbx3.pk.cells
              obtain ⟨f0, f1, f2, f3, f4, f5, f6⟩ := dbox_cells hdb3
              have Hbm := Lib.hid hbm; have Hb3 := Lib.hid hb3; have Hbr3 := Lib.hid hbr3; have Hbx3 := Lib.hid hbx3; have Hdb3 := Lib.hid hdb3; clear hbm hb3 hbr3 hbx3 hdb3
              have hO1 := HO.out _ Hb3.out
              have HO1 := Lib.hid hO1; clear hO1
              cases ob with
              | false =>
                have hdv : cftX l vs y = 8 := by rw [Hdx.out]; rfl
                have Hdv := Lib.hid hdv; clear hdv
                go_wp2_with fail
                refine HO1.out.mono ?_
                rintro e w9 ⟨rfl, hbm⟩
                have hb9 := Hb3.out.trans (hbm.mono Hb3.out.size)
                have hbr9 := Hbr3.out.trans (hbm.mono Hbr3.out.size)
                have hbx9 := Hbx3.out.below hbm
                have hdb9 := heap_below hbm Hdb3.out
                clear c0 c1 d0 d1 d2 d3 d4 d5 d6 d7 f0 f1 f2 f3 f4 f5 f6
                obtain ⟨c0, c1, d0, d1, d2, d3, d4, d5, d6, d7⟩ := hbx9.pk.cells
                obtain ⟨f0, f1, f2, f3, f4, f5, f6⟩ := dbox_cells hdb9
                have Hbm := Lib.hid hbm; have Hb9 := Lib.hid hb9; have Hbr9 := Lib.hid hbr9; have Hbx9 := Lib.hid hbx9; have Hdb9 := Lib.hid hdb9; clear hbm hb9 hbr9 hbx9 hdb9
                have hdv := Hdv.out
                have hf : r = (8, ln) := by rw [Hr.out, Hfir.out, Hbad.out (by rw [hdv]; decide), hdv, Hln.out]; rfl
                clear hdv
                have hres := Hbx9.out.res
                obtain ⟨y0, y1, y2, y3⟩ := prob_cells hres
                have Hres := Lib.hid hres; have Hf := Lib.hid hf; clear hres hf
                go_wp2_with fail
                (try simp only [Exit.inBlock, Exit.then])
                refine bodyPost_prob (g := nb + 1 + 1) rfl (by simp) (prob_set _ _ Hres.out) rfl ?_
                exact ⟨by rw [Hf.out], prob_bel _ _ Hb9.out (by have := Hnb0.out; omega)⟩
              | true =>
                have hdx2 := Hdx.out
                rw [if_pos rfl] at hdx2
                have hdv : cftX l vs y = 7 := by rw [hdx2, if_neg Hs3e.out, if_pos hneg]
                have Hdv := Lib.hid hdv; have Hdx2 := Lib.hid hdx2; clear hdv hdx2
                go_wp2_with fail
                refine HO1.out.mono ?_
                rintro e w9 ⟨rfl, hbm⟩
                have hb9 := Hb3.out.trans (hbm.mono Hb3.out.size)
                have hbr9 := Hbr3.out.trans (hbm.mono Hbr3.out.size)
                have hbx9 := Hbx3.out.below hbm
                have hdb9 := heap_below hbm Hdb3.out
                clear c0 c1 d0 d1 d2 d3 d4 d5 d6 d7 f0 f1 f2 f3 f4 f5 f6
                obtain ⟨c0, c1, d0, d1, d2, d3, d4, d5, d6, d7⟩ := hbx9.pk.cells
                obtain ⟨f0, f1, f2, f3, f4, f5, f6⟩ := dbox_cells hdb9
                have Hbm := Lib.hid hbm; have Hb9 := Lib.hid hb9; have Hbr9 := Lib.hid hbr9; have Hbx9 := Lib.hid hbx9; have Hdb9 := Lib.hid hdb9; clear hbm hb9 hbr9 hbx9 hdb9
                have hdv := Hdv.out
                have hf : r = (7, ln) := by rw [Hr.out, Hfir.out, Hbad.out (by rw [hdv]; decide), hdv, Hln.out]; rfl
                clear hdv
                have hres := Hbx9.out.res
                obtain ⟨y0, y1, y2, y3⟩ := prob_cells hres
                have Hres := Lib.hid hres; have Hf := Lib.hid hf; clear hres hf
                go_wp2_with fail
                (try simp only [Exit.inBlock, Exit.then])
                refine bodyPost_prob (g := nb + 1 + 1) rfl (by simp) (prob_set _ _ Hres.out) rfl ?_
                exact ⟨by rw [Hf.out], prob_bel _ _ Hb9.out (by have := Hnb0.out; omega)⟩
            · have k8 : decide (i < 0) = false := decide_eq_false hneg
              go_wp2_with fail
              refine HI2.out.mono ?_
              rintro e w4 ⟨rfl, hbm⟩
              have hb3 := Hb2.out.trans (hbm.mono Hb2.out.size)
              have hbr3 := Hbr2.out.trans (hbm.mono Hbr2.out.size)
              have hbx3 := Hbx2.out.below hbm
              have hdb3 := heap_below hbm Hdb2.out
              clear c0 c1 d0 d1 d2 d3 d4 d5 d6 d7 f0 f1 f2 f3 f4 f5 f6
              obtain ⟨c0, c1, d0, d1, d2, d3, d4, d5, d6, d7⟩ := hbx3.pk.cells
              obtain ⟨f0, f1, f2, f3, f4, f5, f6⟩ := dbox_cells hdb3
              have Hbm := Lib.hid hbm; have Hb3 := Lib.hid hb3; have Hbr3 := Lib.hid hbr3; have Hbx3 := Lib.hid hbx3; have Hdb3 := Lib.hid hdb3; clear hbm hb3 hbr3 hbx3 hdb3
              have hO1 := HO.out _ Hb3.out
              have HO1 := Lib.hid hO1; clear hO1
              cases ob with
              | false =>
                have hdv : cftX l vs y = 8 := by rw [Hdx.out]; rfl
                have Hdv := Lib.hid hdv; clear hdv
                go_wp2_with fail
                refine HO1.out.mono ?_
                rintro e w9 ⟨rfl, hbm⟩
                have hb9 := Hb3.out.trans (hbm.mono Hb3.out.size)
                have hbr9 := Hbr3.out.trans (hbm.mono Hbr3.out.size)
                have hbx9 := Hbx3.out.below hbm
                have hdb9 := heap_below hbm Hdb3.out
                clear c0 c1 d0 d1 d2 d3 d4 d5 d6 d7 f0 f1 f2 f3 f4 f5 f6
                obtain ⟨c0, c1, d0, d1, d2, d3, d4, d5, d6, d7⟩ := hbx9.pk.cells
                obtain ⟨f0, f1, f2, f3, f4, f5, f6⟩ := dbox_cells hdb9
                have Hbm := Lib.hid hbm; have Hb9 := Lib.hid hb9; have Hbr9 := Lib.hid hbr9; have Hbx9 := Lib.hid hbx9; have Hdb9 := Lib.hid hdb9; clear hbm hb9 hbr9 hbx9 hdb9
                have hdv := Hdv.out
                have hf : r = (8, ln) := by rw [Hr.out, Hfir.out, Hbad.out (by rw [hdv]; decide), hdv, Hln.out]; rfl
                clear hdv
                have hres := Hbx9.out.res
                obtain ⟨y0, y1, y2, y3⟩ := prob_cells hres
                have Hres := Lib.hid hres; have Hf := Lib.hid hf; clear hres hf
                go_wp2_with fail
                (try simp only [Exit.inBlock, Exit.then])
                refine bodyPost_prob (g := nb + 1 + 1) rfl (by simp) (prob_set _ _ Hres.out) rfl ?_
                exact ⟨by rw [Hf.out], prob_bel _ _ Hb9.out (by have := Hnb0.out; omega)⟩
              | true =>
                have hdx2 := Hdx.out
                rw [if_pos rfl] at hdx2
                have hdv : cftX l vs y = c := by rw [hdx2, if_neg Hs3e.out, if_neg (by omega : ¬ i < 0)]
                clear hdx2
                by_cases hc0 : c = 0
                · have k9 : (c != 0) = false := by simp [hc0]
                  rw [hc0] at hdv
                  have Hdv := Lib.hid hdv; clear hdv
                  go_wp2_with fail
                  refine HO1.out.mono ?_
                  rintro e w9 ⟨rfl, hbm⟩
                  have hb9 := Hb3.out.trans (hbm.mono Hb3.out.size)
                  have hbr9 := Hbr3.out.trans (hbm.mono Hbr3.out.size)
                  have hbx9 := Hbx3.out.below hbm
                  have hdb9 := heap_below hbm Hdb3.out
                  clear c0 c1 d0 d1 d2 d3 d4 d5 d6 d7 f0 f1 f2 f3 f4 f5 f6
                  obtain ⟨c0, c1, d0, d1, d2, d3, d4, d5, d6, d7⟩ := hbx9.pk.cells
                  obtain ⟨f0, f1, f2, f3, f4, f5, f6⟩ := dbox_cells hdb9
                  have Hbm := Lib.hid hbm; have Hb9 := Lib.hid hb9; have Hbr9 := Lib.hid hbr9; have Hbx9 := Lib.hid hbx9; have Hdb9 := Lib.hid hdb9; clear hbm hb9 hbr9 hbx9 hdb9
                  have hdv := Hdv.out
                  have hnz := Hnx.out hdv
                  have Hnz := Lib.hid hnz; have Hdv := Lib.hid hdv; clear hnz hdv
                  go_wp2_with fail
                  go_roundw
                  case rel => exact ⟨k + 1, by omega, by go_num, Hnz.out, Hbr9.out⟩
                  case measure => simp [intOf]; omega
                · have k9 : (c != 0) = true := by simp [hc0]
                  have Hdv := Lib.hid hdv; clear hdv
                  go_wp2_with fail
                  refine HO1.out.mono ?_
                  rintro e w9 ⟨rfl, hbm⟩
                  have hb9 := Hb3.out.trans (hbm.mono Hb3.out.size)
                  have hbr9 := Hbr3.out.trans (hbm.mono Hbr3.out.size)
                  have hbx9 := Hbx3.out.below hbm
                  have hdb9 := heap_below hbm Hdb3.out
                  clear c0 c1 d0 d1 d2 d3 d4 d5 d6 d7 f0 f1 f2 f3 f4 f5 f6
                  obtain ⟨c0, c1, d0, d1, d2, d3, d4, d5, d6, d7⟩ := hbx9.pk.cells
                  obtain ⟨f0, f1, f2, f3, f4, f5, f6⟩ := dbox_cells hdb9
                  have Hbm := Lib.hid hbm; have Hb9 := Lib.hid hb9; have Hbr9 := Lib.hid hbr9; have Hbx9 := Lib.hid hbx9; have Hdb9 := Lib.hid hdb9; clear hbm hb9 hbr9 hbx9 hdb9
                  have hdv := Hdv.out
                  have hf : r = (c, ln) := by rw [Hr.out, Hfir.out, Hbad.out (by rw [hdv]; exact hc0), hdv, Hln.out]; rfl
                  clear hdv
                  have hres := Hbx9.out.res
                  obtain ⟨y0, y1, y2, y3⟩ := prob_cells hres
                  have Hres := Lib.hid hres; have Hf := Lib.hid hf; clear hres hf
                  go_wp2_with fail
                  (try simp only [Exit.inBlock, Exit.then])
                  refine bodyPost_prob (g := nb + 1 + 1) rfl (by simp) (prob_set _ _ Hres.out) rfl ?_
                  exact ⟨by rw [Hf.out], prob_bel _ _ Hb9.out (by have := Hnb0.out; omega)⟩
        · obtain rfl : n6 = k := by omega
          have hfi2 : firstBad (cftX l vs) dLine cs = none := firstBad_none (fun j hj => hno j hj (by have := Hn6.out; omega))
          have hf : r = (0, 0) := by rw [Hr.out, Hfir.out, hfi2]; rfl
          have Hno := Lib.hid hno; have Hb := Lib.hid hb; have Hbw := Lib.hid hbw; have Hfi2 := Lib.hid hfi2; clear hno hb hbw hfi2
          have hres := hbx1.res
          obtain ⟨y0, y1, y2, y3⟩ := prob_cells hres
          have Hres := Lib.hid hres; have Hf := Lib.hid hf; clear hres hf
          go_wp2_with fail
          (try simp only [Exit.inBlock, Exit.then])
          refine bodyPost_prob (g := nb + 1 + 1) rfl (by simp) (prob_set _ _ Hres.out) rfl ?_
          exact ⟨by rw [Hf.out], prob_bel _ _ Hbw.out (by have := Hnb0.out; omega)⟩
end Go.Proofs.Ytnelgellbabkoaa

/- The walks of slices.IndexFunc and slices.ContainsFunc at Pref: the first element of which a predicate holds; whether it holds of one. Condition: what the predicate gives is read off its contract. -/
namespace Go.Proofs.Ytnelgellbabkoaa
open Go.RowKit
namespace IdxPref
theorem cells_3 {ecs : List Value} (h : ecs.length = 3) : ∃ u0 u1 u2, ecs = [u0, u1, u2] := by
  match ecs, h with
  | [u0, u1, u2], _ => exact ⟨u0, u1, u2, rfl⟩

/-- what the predicate is -/
def Pred {α : Type} (R : Rd α) (p : α → Bool) (g : Nat) (cb : Array Value) (l : List α) (w : World) : Prop :=
  ∀ W u0 u1 u2 x, Below w.heap.size w W → x ∈ l → R W [u0, u1, u2] x → Calls Try.prog g (#[.agg #[u0, u1, u2]] ++ cb) W fun e w' => e = .returned (.bool (p x)) ∧ Below W.heap.size W w'
set_option maxRecDepth 10000 in
set_option maxHeartbeats 400000 in
theorem idx_any {α : Type} {R : Rd α} (hR : Stays R) (p : α → Bool) (g : Nat) (cb : Array Value) (eg : ∀ args w, (callFunc g args).run Try.prog w = .ok (.enter g args) w) {w : World} {v : Value} {l : List α} (hl : RSlice 3 R w [v] l) (hp : Pred R p g cb l w) :
    Calls Try.prog 142 #[v, .func (.func g) #[] cb] w fun e w' => e = .returned (.int .i64 (idxOf p l)) ∧ Below w.heap.size w w' := by
  obtain ⟨a, cap, hv, hcap, hmax, hel⟩ := hl
  simp only [List.cons.injEq, and_true] at hv
  subst hv
  unfold maxLen at hmax
  obtain ⟨n, hn⟩ : ∃ n, n = l.length := ⟨_, rfl⟩
  rw [← hn] at hcap ⊢
  have hn63 : n ≤ 9223372036854775807 := by omega
  have Hn := Lib.hid hn; have Hel := Lib.hid hel; have Hp := Lib.hid hp; clear hn hel hp
  go_enter Try.func142, Try.ntmps142
  go_wp2_with fail
  go_loopw [8] (fun i wr => ∃ k : Nat, k ≤ n ∧ i = .int .i64 k ∧ NoneIn p l k ∧ Below w.heap.size w wr) (fun i _ => n - (intOf i).toNat)
  case atStart => exact ⟨0, Nat.zero_le _, rfl, noneIn_zero p l, Below.refl _ _⟩
  case round =>
    obtain ⟨k, hk, rfl, hno, hb⟩ := hrel
    by_cases hlt : k < n
    · have hkl : k < l.length := by have := Hn.out; omega
      obtain ⟨x, hx⟩ : ∃ x, x = l[k]'hkl := ⟨_, rfl⟩
      obtain ⟨b, off, ecs, rfl, h4, h5, h6⟩ := Hel.out k x (by rw [hx]; exact List.getElem?_eq_getElem hkl)
      obtain ⟨u0, u1, u2, rfl⟩ : ∃ u0 u1 u2, ecs = [u0, u1, u2] := cells_3 h4
      have hxl : x ∈ l := by rw [hx]; exact List.getElem_mem hkl
      have c0 : wr.cell? ⟨b, off + k * 3, none⟩ = some u0 := cell_later hb (by simpa using h5 0 u0 rfl)
      have c1 : wr.cell? ⟨b, off + k * 3 + 1, none⟩ = some u1 := cell_later hb (by simpa using h5 1 u1 rfl)
      have c2 : wr.cell? ⟨b, off + k * 3 + 2, none⟩ = some u2 := cell_later hb (by simpa using h5 2 u2 rfl)
      have hcall := Hp.out wr u0 u1 u2 x hb hxl (hR _ _ _ _ h6 hb)
      have q0 : (0 : Int) ≤ (k : Int) := by omega
      have q1 : (k : Int) < (n : Int) := by omega
      by_cases hpx : p x = true
      · rw [hpx] at hcall
        have hi : idxOf p l = k := idxOf_at hkl hno (by rw [← hx]; exact hpx)
        have Hx := Lib.hid hx; have Hno := Lib.hid hno; have Hcall := Lib.hid hcall; have H5 := Lib.hid h5; have H6 := Lib.hid h6; have Hpx := Lib.hid hpx; have Hi := Lib.hid hi; have Hb := Lib.hid hb; have Hxl := Lib.hid hxl; clear hx hno hcall h5 h6 hpx hi hb hxl
        clear h4
        go_wp2_with fail
        refine Hcall.out.mono ?_
        rintro e w2 ⟨rfl, hb2⟩
        have hb3 := Hb.out.trans (hb2.mono Hb.out.size)
        have Hb2 := Lib.hid hb2; have Hb3 := Lib.hid hb3; clear hb2 hb3
        go_wp2_with fail
        go_ret
        exact ⟨ret_int Hi.out.symm, Hb3.out⟩
      · have hpx' : p x = false := by simpa using hpx
        rw [hpx'] at hcall
        have hno2 := noneIn_succ hkl hno (by rw [← hx]; exact hpx')
        have Hx := Lib.hid hx; have Hno := Lib.hid hno; have Hcall := Lib.hid hcall; have H5 := Lib.hid h5; have H6 := Lib.hid h6; have Hpx := Lib.hid hpx; have Hpx' := Lib.hid hpx'; have Hno2 := Lib.hid hno2; have Hb := Lib.hid hb; have Hxl := Lib.hid hxl; clear hx hno hcall h5 h6 hpx hpx' hno2 hb hxl
        clear h4
        go_wp2_with fail
        refine Hcall.out.mono ?_
        rintro e w2 ⟨rfl, hb2⟩
        have hb3 := Hb.out.trans (hb2.mono Hb.out.size)
        have Hb2 := Lib.hid hb2; have Hb3 := Lib.hid hb3; clear hb2 hb3
        go_wp2_with fail
        go_roundw
        case rel => exact ⟨k + 1, by omega, by go_num, Hno2.out, Hb3.out⟩
        case measure => simp [intOf]; omega
    · have hi : idxOf p l = -1 := idxOf_none (by have := Hn.out; omega) hno
      have Hno := Lib.hid hno; have Hi := Lib.hid hi; have Hb := Lib.hid hb; clear hno hi hb
      go_wp2_with fail
      go_ret
      exact ⟨ret_int Hi.out.symm, Hb.out⟩
set_option maxRecDepth 10000 in
set_option maxHeartbeats 400000 in
theorem has_any {α : Type} {R : Rd α} (hR : Stays R) (p : α → Bool) (g : Nat) (cb : Array Value) (eg : ∀ args w, (callFunc g args).run Try.prog w = .ok (.enter g args) w) {w : World} {v : Value} {l : List α} (hl : RSlice 3 R w [v] l) (hp : Pred R p g cb l w) :
    Calls Try.prog 113 #[v, .func (.func g) #[] cb] w fun e w' => e = .returned (.bool (l.any p)) ∧ Below w.heap.size w w' := by
  have hI := idx_any hR p g cb eg hl hp
  have hab := idxOf_any p l
  obtain ⟨i, hi⟩ : ∃ i, i = idxOf p l := ⟨_, rfl⟩
  rw [← hi] at hI hab
  have Hl := Lib.hid hl; have Hp := Lib.hid hp; have HI := Lib.hid hI; have Hi := Lib.hid hi; have HR := Lib.hid hR; clear hl hp hI hi hR
  cases hq : l.any p with
  | true =>
    have hpos : 0 ≤ i := hab.1 hq
    have Hq := Lib.hid hq; have Hab := Lib.hid hab; clear hq hab
    go_enter Try.func113, Try.ntmps113
    go_wp2_with fail
    refine HI.out.mono ?_
    rintro e w2 ⟨rfl, hb2⟩
    have Hb2 := Lib.hid hb2; clear hb2
    go_wp2_with fail
    go_ret
    exact ⟨rfl, Hb2.out⟩
  | false =>
    have hneg : i < 0 := by
      rcases Int.lt_or_le i 0 with h | h
      · exact h
      · have := hab.2 h; rw [hq] at this; cases this
    have Hq := Lib.hid hq; have Hab := Lib.hid hab; clear hq hab
    go_enter Try.func113, Try.ntmps113
    go_wp2_with fail
    refine HI.out.mono ?_
    rintro e w2 ⟨rfl, hb2⟩
    have Hb2 := Lib.hid hb2; clear hb2
    go_wp2_with fail
    go_ret
    exact ⟨ret_bool (by simpa using hneg), Hb2.out⟩
end IdxPref
end Go.Proofs.Ytnelgellbabkoaa

/- The walk of check.prefer: whether what is preferred is right. Condition: few packages. -/
namespace Go.Proofs.Ytnelgellbabkoaa
open Go.RowKit Go.Shelf
attribute [local go_sem ↓] Go.wp_at_zero Go.wp_at_succ

theorem quiet_add0 {P : Program} {f : FuncId} {args : Array Value} {w : World} {n : Nat} {v : Value}
    (h : Calls P f args (w.drewN n) fun e w' => e = .returned v ∧ ∃ m, w' = (w.drewN n).drewN m) :
    Calls P f args (w.drewN n) fun e w'' => e = .returned v ∧ ∃ m, w'' = w.drewN m :=
  h.mono fun _ _ ⟨he, m, hm⟩ => ⟨he, n + m, by rw [hm, World.drewN_drewN]⟩
def provAt (l : List Pkg) (i : Nat) : List ByteArray := match l[i]? with
  | some x => x.2.2.2.2.1
  | none => []
def badName (l : List Pkg) (vt n : ByteArray) : Bool := decide (idxOf (named n) l < 0) || !(hasT (provAt l (idxOf (named n) l).toNat) vt)
def sameVirt (s : ByteArray) (g : Prf) : Bool := decide (g.1 = s)
def preferOf (l : List Pkg) (pf : List Prf) (i : Nat) : Bool := match pf[i]? with
  | none => false
  | some f => virtOf f.1 l && !((pf.take i).any (sameVirt f.1)) && !(twiceT f.2.1) && !(f.2.1.any (badName l f.1))
theorem preferOf_at {l : List Pkg} {pf : List Prf} {i : Nat} (h : i < pf.length) : preferOf l pf i = (virtOf pf[i].1 l && !((pf.take i).any (sameVirt pf[i].1)) && !(twiceT pf[i].2.1) && !(pf[i].2.1.any (badName l pf[i].1))) := by
  unfold preferOf
  rw [List.getElem?_eq_getElem h]
theorem prf_cells {w : World} {cs : List Value} {x : Prf} (h : RPrf w cs x) : ∃ u, cs = [.string x.1, u, .int .i64 x.2.2.1] ∧ RSs w [u] x.2.1 := by
  obtain ⟨a0, t0, rfl, _, ⟨rfl, _⟩, a1, t1, rfl, l1, h1, a2, t2, rfl, _, ⟨rfl, _⟩, h3⟩ := h
  obtain rfl : t2 = [] := h3
  match a1, l1 with
  | [u], _ => exact ⟨u, rfl, h1⟩
theorem prfs_open3 {w : World} {v : Value} {l : List Prf} (h : RSlice 3 RPrf w [v] l) : ∃ a cap, v = .slice a l.length cap ∧ l.length ≤ 9223372036854775807 ∧ l.length ≤ cap ∧ ∀ i x, l[i]? = some x → ∃ b off u, a = some ⟨b, off, none⟩ ∧ w.cell? ⟨b, off + i * 3, none⟩ = some (.string x.1) ∧ w.cell? ⟨b, off + i * 3 + 1, none⟩ = some u ∧ w.cell? ⟨b, off + i * 3 + 2, none⟩ = some (.int .i64 x.2.2.1) ∧ RSs w [u] x.2.1 := by
  obtain ⟨a, cap, hv, hcap, hmax, hel⟩ := h
  simp only [List.cons.injEq, and_true] at hv
  unfold maxLen at hmax
  refine ⟨a, cap, hv, by omega, by omega, fun i x hi => ?_⟩
  obtain ⟨b, off, ecs, h1, h2, h3, h4⟩ := hel i x hi
  obtain ⟨u, rfl, h5⟩ := prf_cells h4
  exact ⟨b, off, u, h1, by simpa using h3 0 _ rfl, by simpa using h3 1 _ rfl, by simpa using h3 2 _ rfl, h5⟩
/-- the boxes of a recipe and what is preferred -/
structure PfBox (B : Nat) (v u : Value) (s : ByteArray) (n : Value) (ln : Int) (w : World) : Prop where
  r : w.heap[B]? = some (.cells #[v, u] 52 (0, 0))
  p : w.heap[B + 1]? = some (.cells #[.string s, n, .int .i64 ln] 98 (0, 0))
theorem PfBox.below {B : Nat} {v u : Value} {s : ByteArray} {n : Value} {ln : Int} {w w' : World} (h : PfBox B v u s n ln w) (hb : Below w.heap.size w w') : PfBox B v u s n ln w' := ⟨heap_below hb h.r, heap_below hb h.p⟩
theorem pfbox_new (w : World) (v u : Value) (s : ByteArray) (n : Value) (ln : Int) : PfBox w.heap.size v u s n ln ((w.alloc (.cells #[v, u] 52)).alloc (.cells #[.string s, n, .int .i64 ln] 98)) :=
  ⟨heap_below (below_alloc1 _ _) (heap_alloc_new _ _), heap_new_at (by simp)⟩
theorem PfBox.cells {B : Nat} {v u : Value} {s : ByteArray} {n : Value} {ln : Int} {w : World} (h : PfBox B v u s n ln w) :
    w.cell? ⟨B, 0, none⟩ = some v ∧ w.cell? ⟨B, 1, none⟩ = some u ∧ w.cell? ⟨B + 1, 0, none⟩ = some (.string s) ∧ w.cell? ⟨B + 1, 1, none⟩ = some n ∧ w.cell? ⟨B + 1, 2, none⟩ = some (.int .i64 ln) := by
  have a0 := cells_at h.r 0
  have a1 := cells_at h.r 1
  have b0 := cells_at h.p 0
  have b1 := cells_at h.p 1
  have b2 := cells_at h.p 2
  simp only [List.getElem?_toArray, List.getElem?_cons_zero, List.getElem?_cons_succ] at a0 a1 b0 b1 b2
  exact ⟨a0, a1, b0, b1, b2⟩
set_option maxRecDepth 10000 in
set_option maxHeartbeats 1000000 in
theorem preferIn1_any {w : World} {B : Nat} {v u n u1 : Value} {s x : ByteArray} {ln li : Int} (hB : PfBox B v u s n ln w) (hu : ∃ a m c, u1 = .slice a m c) : Calls Try.prog 114 #[.agg #[.string x, u1, .int .i64 li], .pointer (some ⟨B + 1, 0, none⟩)] w fun e w' => e = .returned (.bool (decide (x = s))) ∧ Below w.heap.size w w' := by
  obtain ⟨ua, um, uc, rfl⟩ := hu
  have hb0 : Below w.heap.size w (w.alloc (.cells #[.string x, .slice ua um uc, .int .i64 li] 98)) := below_alloc1 _ _
  obtain ⟨c0, c1, d0, d1, d2⟩ := (hB.below hb0).cells
  have q1 := bytes_dec x s
  obtain ⟨r, hr⟩ : ∃ r, r = decide (x = s) := ⟨_, rfl⟩
  rw [← hr] at q1 ⊢
  have HB := Lib.hid hB; have Hb0 := Lib.hid hb0; have Hr := Lib.hid hr; clear hB hb0 hr
  go_enter Try.func114, Try.ntmps114
  go_wp2_with fail
  go_ret
  exact ⟨by first | rfl | rw [q1] | simp [q1], Hb0.out⟩
theorem enters_pref1 : ∀ args w, (callFunc 114 args).run Try.prog w = .ok (.enter 114 args) w := enters_of Try.func114 (by kernel_rfl) rfl
theorem pref1_pred {w : World} {B : Nat} {v u n : Value} {s : ByteArray} {ln : Int} (hB : PfBox B v u s n ln w) (l : List Prf) : IdxPref.Pred RPrf (sameVirt s) 114 #[.pointer (some ⟨B + 1, 0, none⟩)] l w := by
  intro W u0 u1 u2 x hb _ hx
  obtain ⟨u', hc, h3⟩ := prf_cells hx
  simp only [List.cons.injEq, and_true] at hc
  obtain ⟨rfl, rfl, rfl⟩ := hc
  exact preferIn1_any (hB.below hb) (slice_any_shape h3)
set_option maxRecDepth 10000 in
set_option maxHeartbeats 2000000 in
theorem preferIn2_any {w : World} {B : Nat} {v u n : Value} {s x : ByteArray} {ln : Int} {l : List Pkg} (h : RSlice 8 RPkg w [v] l) (hB : PfBox B v u s n ln w) : Calls Try.prog 116 #[.string x, .pointer (some ⟨B, 0, none⟩), .pointer (some ⟨B + 1, 0, none⟩)] w fun e w' => e = .returned (.bool (badName l s x)) ∧ Below w.heap.size w w' := by
  have hI := find_any (pv := u) h x
  obtain ⟨c0, c1, d0, d1, d2⟩ := hB.cells
  obtain ⟨a, cap, rfl, hz, g⟩ := pkgs_open h
  obtain ⟨m, hn⟩ : ∃ n, n = l.length := ⟨_, rfl⟩
  obtain ⟨i, hi⟩ : ∃ i, i = idxOf (named x) l := ⟨_, rfl⟩
  obtain ⟨r, hr⟩ : ∃ r, r = badName l s x := ⟨_, rfl⟩
  have hrr : r = (decide (i < 0) || !(hasT (provAt l i.toNat) s)) := by rw [hr, hi]; rfl
  have hil : 0 ≤ i → i.toNat < l.length := fun h0 => by rw [hi] at h0 ⊢; exact idxOf_lt h0
  rw [← hi] at hI
  rw [← hr]
  rw [← hn] at hz h hI hil c0 hB
  have Hh := Lib.hid h; have HB := Lib.hid hB; have HI := Lib.hid hI; have Hg := Lib.hid g; have Hn := Lib.hid hn; have Hi := Lib.hid hi; have Hr := Lib.hid hr; have Hrr := Lib.hid hrr; have Hil := Lib.hid hil; clear h hB hI g hn hi hr hrr hil
  go_enter Try.func116, Try.ntmps116
  go_wp2_with fail
  refine HI.out.mono ?_
  rintro e w1 ⟨rfl, hb1⟩
  obtain ⟨c0, c1, d0, d1, d2⟩ := (HB.out.below hb1).cells
  by_cases hneg : i < 0
  · have k1 : decide (i < 0) = true := decide_eq_true hneg
    have hf : r = true := by rw [Hrr.out, k1]; rfl
    have Hb1 := Lib.hid hb1; have Hf := Lib.hid hf; have Hneg := Lib.hid hneg; clear hb1 hf hneg
    go_wp2_with fail
    go_quiet (fail)
    go_wp2_with fail
    go_ret
    exact ⟨ret_bool Hf.out.symm, bel_drewN Hb1.out _⟩
  · have k1 : decide (i < 0) = false := decide_eq_false hneg
    have hkl : i.toNat < l.length := by have := Hil.out (by omega); have := Hn.out; omega
    obtain ⟨b, off, w2, w3, w4, w5, w6, w7, rfl, hp⟩ := Hg.out i.toNat _ (List.getElem?_eq_getElem hkl)
    have hpa : provAt l i.toNat = l[i.toNat].2.2.2.2.1 := by unfold provAt; rw [List.getElem?_eq_getElem hkl]
    obtain ⟨y, hy⟩ : ∃ x, x = l[i.toNat] := ⟨_, rfl⟩
    rw [← hy] at hp hpa
    have hC := fun (q : Nat) => (contains_any (stays_slice stays_str _ _ _ _ hp.r4 (bel_drewN hb1 q)) s).mono (fun e w' (⟨he, hw⟩ : _ ∧ w1.drewN q = w') => (⟨he, 0, hw.symm⟩ : e = _ ∧ ∃ m, w' = (w1.drewN q).drewN m))
    have hr2 := Hrr.out
    rw [hpa, k1] at hr2
    obtain ⟨p, hpp⟩ : ∃ p, p = hasT y.2.2.2.2.1 s := ⟨_, rfl⟩
    rw [← hpp] at hC hr2
    obtain ⟨b4, m4, p4, rfl⟩ := slice_any_shape hp.r4
    have g4 := cell_later hb1 hp.c4
    obtain ⟨k, rfl⟩ : ∃ k : Nat, i = (k : Int) := ⟨i.toNat, by omega⟩
    simp only [Int.toNat_natCast] at g4
    have k5 : (0 : Int) ≤ (k : Int) := by omega
    have k6 : (k : Int) < (m : Int) := by have := Hn.out; simp at hkl; omega
    clear hneg
    have hf : r = !p := by rw [hr2]; rfl
    have Hy := Lib.hid hy; have Hpa := Lib.hid hpa; have Hp := Lib.hid hp; have HC := Lib.hid hC; have Hpp := Lib.hid hpp; have Hr2 := Lib.hid hr2; have Hf := Lib.hid hf; have Hb1 := Lib.hid hb1; clear hy hpa hp hC hpp hr2 hf hb1
    go_wp2_with fail
    go_quiet ((go_at_call 87; exact quiet_add0 (HC.out _)))
    go_wp2_with fail
    go_ret
    exact ⟨ret_bool Hf.out.symm, bel_drewN Hb1.out _⟩
end Go.Proofs.Ytnelgellbabkoaa

/- The walk of check.prefer: whether what is preferred is right. Condition: few packages. -/
namespace Go.Proofs.Ytnelgellbabkoaa
open Go.RowKit Go.Shelf
attribute [local go_sem ↓] Go.wp_at_zero Go.wp_at_succ

theorem enters_pref2 : ∀ args w, (callFunc 116 args).run Try.prog w = .ok (.enter 116 args) w := enters_of Try.func116 (by kernel_rfl) rfl
theorem pref2_pred {w : World} {B : Nat} {v u n : Value} {s : ByteArray} {ln : Int} {l : List Pkg} (h : RSlice 8 RPkg w [v] l) (hB : PfBox B v u s n ln w) (ns : List ByteArray) : IdxStr.Pred RStr (badName l s) 116 #[.pointer (some ⟨B, 0, none⟩), .pointer (some ⟨B + 1, 0, none⟩)] ns w := by
  intro W u0 x hb _ hx
  obtain ⟨h1, _⟩ := hx
  simp only [List.cons.injEq, and_true] at h1
  subst h1
  exact preferIn2_any (stays_slice stays_pkg _ _ _ _ h hb) (hB.below hb)
set_option maxRecDepth 10000 in
set_option maxHeartbeats 4000000 in
theorem prefer_any {w : World} {v u : Value} {l : List Pkg} {pf : List Prf} {k : Nat} (h : RSlice 8 RPkg w [v] l) (hl : l.length ≤ 1000000) (hpf : RSlice 3 RPrf w [u] pf) (hk : k < pf.length) : Calls Try.prog 83 #[.agg #[v, u], .int .i64 k] w fun e w' => e = .returned (.bool (preferOf l pf k)) ∧ Below w.heap.size w w' := by
  have hpr := preferOf_at (l := l) hk
  obtain ⟨a2, cap2, rfl, hz2, hcap2, g2⟩ := prfs_open3 hpf
  obtain ⟨b, off, nv, rfl, e0, e1, e2, hnv⟩ := g2 k _ (List.getElem?_eq_getElem hk)
  obtain ⟨f, hf⟩ : ∃ x, x = pf[k] := ⟨_, rfl⟩
  rw [← hf] at e0 e2 hnv hpr
  obtain ⟨s, hs⟩ : ∃ s, s = f.1 := ⟨_, rfl⟩
  obtain ⟨ln, hln⟩ : ∃ s, s = f.2.2.1 := ⟨_, rfl⟩
  rw [← hs] at e0 hpr
  rw [← hln] at e2
  obtain ⟨a, cap, rfl, hz, _⟩ := pkgs_open h
  obtain ⟨na, nn, nc, rfl⟩ := slice_any_shape hnv
  have hV := fun (W : World) (hb : Below w.heap.size w W) => virtual_any (pw := .slice (some ⟨b, off, none⟩) pf.length cap2) (stays_slice stays_pkg _ _ _ _ h hb) hl s
  have hT := fun (W : World) (hb : Below w.heap.size w W) => twice_any9 (stays_slice stays_str _ _ _ _ hnv hb)
  obtain ⟨nb, hnb⟩ : ∃ nb, nb = w.heap.size := ⟨_, rfl⟩
  obtain ⟨W0, hW0⟩ : ∃ W0, W0 = w.alloc (.cells #[.slice a l.length cap, .slice (some ⟨b, off, none⟩) pf.length cap2] 52) := ⟨_, rfl⟩
  obtain ⟨W1, hW1⟩ : ∃ W1, W1 = W0.alloc (.cells #[.string s, .slice na nn nc, .int .i64 ln] 98) := ⟨_, rfl⟩
  have hb0 : Below w.heap.size w W0 := by rw [hW0]; exact below_alloc1 _ _
  have hb1 : Below w.heap.size w W1 := by rw [hW1]; exact hb0.alloc hb0.size _
  have hbx : PfBox nb (.slice a l.length cap) (.slice (some ⟨b, off, none⟩) pf.length cap2) s (.slice na nn nc) ln W1 := by rw [hW1, hW0, hnb]; exact pfbox_new _ _ _ _ _ _
  have hs0 : nb + 1 = W0.heap.size := by rw [hW0, hnb]; simp
  have hbx0 : W0.heap[nb]? = some (.cells #[.slice a l.length cap, .slice (some ⟨b, off, none⟩) pf.length cap2] 52 (0, 0)) := by rw [hW0, hnb]; exact heap_alloc_new _ _
  have hA := IdxPref.has_any stays_prf (sameVirt s) 114 #[.pointer (some ⟨nb + 1, 0, none⟩)] enters_pref1 (rslice_take (stays_slice stays_prf _ _ _ _ hpf hb1) (Nat.le_of_lt hk)) (pref1_pred hbx (pf.take k))
  have hN := fun (W : World) (hb : Below w.heap.size w W) (hx : PfBox nb (.slice a l.length cap) (.slice (some ⟨b, off, none⟩) pf.length cap2) s (.slice na nn nc) ln W) => IdxStr.has_any stays_str (badName l s) 116 #[.pointer (some ⟨nb, 0, none⟩), .pointer (some ⟨nb + 1, 0, none⟩)] enters_pref2 (stays_slice stays_str _ _ _ _ hnv hb) (pref2_pred (stays_slice stays_pkg _ _ _ _ h hb) hx f.2.1)
  obtain ⟨n, hn⟩ : ∃ n, n = l.length := ⟨_, rfl⟩
  obtain ⟨n2, hn2⟩ : ∃ n, n = pf.length := ⟨_, rfl⟩
  obtain ⟨r, hr⟩ : ∃ r, r = preferOf l pf k := ⟨_, rfl⟩
  obtain ⟨vt, hvt⟩ : ∃ r, r = virtOf s l := ⟨_, rfl⟩
  obtain ⟨ah, hah⟩ : ∃ r, r = (pf.take k).any (sameVirt s) := ⟨_, rfl⟩
  obtain ⟨tw, htw⟩ : ∃ r, r = twiceT f.2.1 := ⟨_, rfl⟩
  obtain ⟨bn, hbn⟩ : ∃ r, r = f.2.1.any (badName l s) := ⟨_, rfl⟩
  rw [← hr, ← hvt, ← hah, ← htw, ← hbn] at hpr
  rw [← hr]
  rw [← hvt] at hV
  rw [← htw] at hT
  rw [← hah] at hA
  rw [← hbn] at hN
  rw [← hn] at hz h hl hV hbx hbx0 hN hW0
  rw [← hn2] at hz2 hcap2 hpf hk hV hbx hbx0 hN hW0
  rw [← hn, ← hn2]
  have k5 : (0 : Int) ≤ (k : Int) := by omega
  have k6 : (k : Int) < (n2 : Int) := by omega
  have k7 : (k : Int) ≤ (cap2 : Int) := by omega
  have y0 := cell_later hb0 e0
  have y1 := cell_later hb0 e1
  have y2 := cell_later hb0 e2
  have c1 := cells_at hbx0 1
  simp only [List.getElem?_toArray, List.getElem?_cons_zero, List.getElem?_cons_succ] at c1
  clear e0 e1 e2 hbx0
  have Hh := Lib.hid h; have Hpf := Lib.hid hpf; have Hpr := Lib.hid hpr; have Hg2 := Lib.hid g2; have Hnv := Lib.hid hnv; have Hf := Lib.hid hf; have Hs := Lib.hid hs; have Hln := Lib.hid hln; have HV := Lib.hid hV; have HT := Lib.hid hT; have Hb0 := Lib.hid hb0; have Hb1 := Lib.hid hb1; have Hbx := Lib.hid hbx; have HA := Lib.hid hA; have HN := Lib.hid hN; have Hn := Lib.hid hn; have Hn2 := Lib.hid hn2; have Hr := Lib.hid hr; have Hvt := Lib.hid hvt; have Hah := Lib.hid hah; have Htw := Lib.hid htw; have Hbn := Lib.hid hbn; clear h hpf hpr g2 hnv hf hs hln hV hT hb0 hb1 hbx hA hN hn hn2 hr hvt hah htw hbn
  go_enter Try.func83, Try.ntmps83
  go_upto_region 1 with (fail)
  rw [← hW0, ← hnb]
  have HW0 := Lib.hid hW0; have Hnb := Lib.hid hnb; clear hW0 hnb
  go_upto_region 2 with (fail)
  rw [← hs0, ← hW1]
  have HW1 := Lib.hid hW1; have Hs0 := Lib.hid hs0; clear hW1 hs0
  clear y0 y1 y2 c1
  obtain ⟨c0, c1, d0, d1, d2⟩ := Hbx.out.cells
  go_wp2_with fail
  refine HA.out.mono ?_
  rintro e w1 ⟨rfl, hbm⟩
  have hb2 := Hb1.out.trans (hbm.mono Hb1.out.size)
  have hbx2 := Hbx.out.below hbm
  have hV2 := HV.out w1 hb2
  clear c0 c1 d0 d1 d2
  obtain ⟨c0, c1, d0, d1, d2⟩ := hbx2.cells
  have Hbm := Lib.hid hbm; have Hb2 := Lib.hid hb2; have Hbx2 := Lib.hid hbx2; have HV2 := Lib.hid hV2; clear hbm hb2 hbx2 hV2
  go_wp2_with fail
  refine HV2.out.mono ?_
  rintro e w2 ⟨rfl, hbm⟩
  have hb3 := Hb2.out.trans (hbm.mono Hb2.out.size)
  have hbx3 := Hbx2.out.below hbm
  have hT3 := HT.out w2 hb3
  have hN3 := HN.out w2 hb3 hbx3
  clear c0 c1 d0 d1 d2
  obtain ⟨c0, c1, d0, d1, d2⟩ := hbx3.cells
  have Hbm := Lib.hid hbm; have Hb3 := Lib.hid hb3; have Hbx3 := Lib.hid hbx3; have HT3 := Lib.hid hT3; have HN3 := Lib.hid hN3; clear hbm hb3 hbx3 hT3 hN3
  cases vt with
  | false =>
    have hf : r = false := by rw [Hpr.out]; rfl
    have Hf := Lib.hid hf; clear hf
    go_wp2_with fail
    go_ret
    exact ⟨ret_bool Hf.out.symm, Hb3.out⟩
  | true =>
    cases ah with
    | true =>
      have hf : r = false := by rw [Hpr.out]; rfl
      have Hf := Lib.hid hf; clear hf
      go_wp2_with fail
      go_ret
      exact ⟨ret_bool Hf.out.symm, Hb3.out⟩
    | false =>
      go_wp2_with fail
      refine HT3.out.mono ?_
      rintro e w3 ⟨rfl, rfl⟩
      cases tw with
      | true =>
        have hf : r = false := by rw [Hpr.out]; rfl
        have Hf := Lib.hid hf; clear hf
        go_wp2_with fail
        go_ret
        exact ⟨ret_bool Hf.out.symm, Hb3.out⟩
      | false =>
        have hf : r = !bn := by rw [Hpr.out]; rfl
        have Hf := Lib.hid hf; clear hf
        go_wp2_with fail
        refine HN3.out.mono ?_
        rintro e w4 ⟨rfl, hbm⟩
        have hb4 := Hb3.out.trans (hbm.mono Hb3.out.size)
        have Hbm := Lib.hid hbm; have Hb4 := Lib.hid hb4; clear hbm hb4
        go_wp2_with fail
        go_ret
        exact ⟨ret_bool Hf.out.symm, Hb4.out⟩
end Go.Proofs.Ytnelgellbabkoaa

/- The walk of cooperref09.prefer: whether what is preferred is right. Condition: few packages. -/
namespace Go.Proofs.Ytnelgellbabkoaa
open Go.RowKit Go.Shelf
attribute [local go_sem ↓] Go.wp_at_zero Go.wp_at_succ

set_option maxRecDepth 10000 in
set_option maxHeartbeats 4000000 in
theorem preferRef_any {w : World} {v u : Value} {l : List Pkg} {pf : List Prf} {k : Nat} (h : RSlice 8 RPkg w [v] l) (hl : l.length ≤ 1000000) (hpf : RSlice 3 RPrf w [u] pf) (hk : k < pf.length) : Calls Try.prog 86 #[.agg #[v, u], .int .i64 k] w fun e w' => e = .returned (.bool (preferOf l pf k)) ∧ Below w.heap.size w w' := by
  have hpr := preferOf_at (l := l) hk
  obtain ⟨a2, cap2, rfl, hz2, hcap2, g2⟩ := prfs_open3 hpf
  obtain ⟨b, off, nv, rfl, e0, e1, e2, hnv⟩ := g2 k _ (List.getElem?_eq_getElem hk)
  obtain ⟨f, hf⟩ : ∃ x, x = pf[k] := ⟨_, rfl⟩
  rw [← hf] at e0 e2 hnv hpr
  obtain ⟨s, hs⟩ : ∃ s, s = f.1 := ⟨_, rfl⟩
  obtain ⟨ln, hln⟩ : ∃ s, s = f.2.2.1 := ⟨_, rfl⟩
  rw [← hs] at e0 hpr
  rw [← hln] at e2
  obtain ⟨a, cap, rfl, hz, g⟩ := pkgs_open h
  obtain ⟨na, nc, rfl, hnz, gn⟩ := strs_open hnv
  obtain ⟨nn, hnn⟩ : ∃ n, n = f.2.1.length := ⟨_, rfl⟩
  have hg := And.intro g gn
  clear g gn
  rw [← hnn] at hnv e1 hnz
  have hV := fun (W : World) (hb : Below w.heap.size w W) => virtualRef_any (pw := .slice (some ⟨b, off, none⟩) pf.length cap2) (stays_slice stays_pkg _ _ _ _ h hb) hl s
  have hT := fun (W : World) (hb : Below w.heap.size w W) => twiceRef_any (stays_slice stays_str _ _ _ _ hnv hb)
  obtain ⟨nb, hnb⟩ : ∃ nb, nb = w.heap.size := ⟨_, rfl⟩
  obtain ⟨W0, hW0⟩ : ∃ W0, W0 = w.alloc (.cells #[.slice a l.length cap, .slice (some ⟨b, off, none⟩) pf.length cap2] 52) := ⟨_, rfl⟩
  obtain ⟨W1, hW1⟩ : ∃ W1, W1 = W0.alloc (.cells #[.string s, .slice na nn nc, .int .i64 ln] 98) := ⟨_, rfl⟩
  have hb0 : Below w.heap.size w W0 := by rw [hW0]; exact below_alloc1 _ _
  have hb1 : Below w.heap.size w W1 := by rw [hW1]; exact hb0.alloc hb0.size _
  have hbx : PfBox nb (.slice a l.length cap) (.slice (some ⟨b, off, none⟩) pf.length cap2) s (.slice na nn nc) ln W1 := by rw [hW1, hW0, hnb]; exact pfbox_new _ _ _ _ _ _
  have hs0 : nb + 1 = W0.heap.size := by rw [hW0, hnb]; simp
  have hbx0 : W0.heap[nb]? = some (.cells #[.slice a l.length cap, .slice (some ⟨b, off, none⟩) pf.length cap2] 52 (0, 0)) := by rw [hW0, hnb]; exact heap_alloc_new _ _
  have hFi := fun (W : World) (hb : Below w.heap.size w W) (x : ByteArray) => findRef_any (pv := .slice (some ⟨b, off, none⟩) pf.length cap2) (stays_slice stays_pkg _ _ _ _ h hb) x
  obtain ⟨n, hn⟩ : ∃ n, n = l.length := ⟨_, rfl⟩
  obtain ⟨n2, hn2⟩ : ∃ n, n = pf.length := ⟨_, rfl⟩
  obtain ⟨r, hr⟩ : ∃ r, r = preferOf l pf k := ⟨_, rfl⟩
  obtain ⟨vt, hvt⟩ : ∃ r, r = virtOf s l := ⟨_, rfl⟩
  obtain ⟨ah, hah⟩ : ∃ r, r = (pf.take k).any (sameVirt s) := ⟨_, rfl⟩
  obtain ⟨tw, htw⟩ : ∃ r, r = twiceT f.2.1 := ⟨_, rfl⟩
  obtain ⟨bn, hbn⟩ : ∃ r, r = f.2.1.any (badName l s) := ⟨_, rfl⟩
  rw [← hr, ← hvt, ← hah, ← htw, ← hbn] at hpr
  rw [← hr]
  rw [← hvt] at hV
  rw [← htw] at hT
  rw [← hn] at hz h hl hV hbx hbx0 hFi hW0
  rw [← hn2] at hz2 hcap2 hpf hk hV hbx hbx0 hFi hW0
  rw [← hn, ← hn2]
  have k5 : (0 : Int) ≤ (k : Int) := by omega
  have k6 : (k : Int) < (n2 : Int) := by omega
  have k7 : (k : Int) ≤ (cap2 : Int) := by omega
  have y0 := cell_later hb0 e0
  have y1 := cell_later hb0 e1
  have y2 := cell_later hb0 e2
  have c1 := cells_at hbx0 1
  simp only [List.getElem?_toArray, List.getElem?_cons_zero, List.getElem?_cons_succ] at c1
  clear e0 e1 e2 hbx0
  have Hh := Lib.hid h; have Hpf := Lib.hid hpf; have Hpr := Lib.hid hpr; have Hg2 := Lib.hid g2; have Hnv := Lib.hid hnv; have Hf := Lib.hid hf; have Hs := Lib.hid hs; have Hln := Lib.hid hln; have HV := Lib.hid hV; have HT := Lib.hid hT; have Hb0 := Lib.hid hb0; have Hb1 := Lib.hid hb1; have Hbx := Lib.hid hbx; have HFi := Lib.hid hFi; have Hn := Lib.hid hn; have Hn2 := Lib.hid hn2; have Hnn := Lib.hid hnn; have Hg := Lib.hid hg; have Hr := Lib.hid hr; have Hvt := Lib.hid hvt; have Hah := Lib.hid hah; have Htw := Lib.hid htw; have Hbn := Lib.hid hbn; clear h hpf hpr g2 hnv hf hs hln hV hT hb0 hb1 hbx hFi hn hn2 hnn hg hr hvt hah htw hbn
  go_enter Try.func86, Try.ntmps86
  go_upto_region 1 with (fail)
  rw [← hW0, ← hnb]
  have HW0 := Lib.hid hW0; have Hnb := Lib.hid hnb; clear hW0 hnb
  go_upto_region 2 with (fail)
  rw [← hs0, ← hW1]
  have HW1 := Lib.hid hW1; have Hs0 := Lib.hid hs0; clear hW1 hs0
  clear y0 y1 y2 c1
  obtain ⟨c0, c1, d0, d1, d2⟩ := Hbx.out.cells
  go_wp2_with fail
  go_loopw [6] (fun i wr => ∃ j : Nat, j ≤ k ∧ i = .int .i64 j ∧ NoneIn (sameVirt s) pf j ∧ ∃ q, wr = W1.drewN q) (fun i _ => k - (intOf i).toNat)
  case atStart => exact ⟨0, Nat.zero_le _, rfl, noneIn_zero _ _, 0, rfl⟩
  case round =>
    obtain ⟨j, hj, rfl, hno, q, rfl⟩ := hrel
    by_cases hlt : j < k
    · have hjl : j < pf.length := by have := Hn2.out; omega
      obtain ⟨b3, off3, u3, hab, e0, _, _, _⟩ := Hg2.out j _ (List.getElem?_eq_getElem hjl)
      injection hab with hab
      injection hab with hab1 hab2
      subst hab1 hab2
      have hyy := fun h => take_yes (p := sameVirt s) hjl hlt h
      have hnx := fun h => noneIn_succ hjl hno h
      obtain ⟨y, hy⟩ : ∃ y, y = pf[j] := ⟨_, rfl⟩
      rw [← hy] at e0 hyy hnx
      obtain ⟨z, hz3⟩ : ∃ z, z = y.1 := ⟨_, rfl⟩
      rw [← hz3] at e0
      have hone : sameVirt s y = decide (z = s) := by rw [hz3]; rfl
      have y0 := cell_later Hb1.out e0
      have q1 := bytes_dec z s
      have k8 : (0 : Int) ≤ (j : Int) := by omega
      have k9 : (j : Int) < (n2 : Int) := by omega
      have k10 : (j : Int) < (k : Int) := by omega
      clear e0 hy
      by_cases e : z = s
      · have hf : r = false := by rw [Hpr.out, Hah.out, hyy (by rw [hone]; exact decide_eq_true e)]; simp
        rw [decide_eq_true e] at q1
        clear e
        have Hno := Lib.hid hno; have Hyy := Lib.hid hyy; have Hnx := Lib.hid hnx; have Hf := Lib.hid hf; have Hone := Lib.hid hone; have Hz3 := Lib.hid hz3; clear hno hyy hnx hf hone hz3
        go_wp2_with fail
        go_region
        go_wp2_with fail
        go_ret
        exact ⟨ret_bool Hf.out.symm, bel_drewN Hb1.out _⟩
      · have hq := hnx (by rw [hone]; exact decide_eq_false e)
        rw [decide_eq_false e] at q1
        clear e
        have Hno := Lib.hid hno; have Hyy := Lib.hid hyy; have Hnx := Lib.hid hnx; have Hq := Lib.hid hq; have Hone := Lib.hid hone; have Hz3 := Lib.hid hz3; clear hno hyy hnx hq hone hz3
        go_wp2_with fail
        go_region
        go_wp2_with fail
        go_roundw
        case rel => exact ⟨j + 1, by omega, by go_num, Hq.out, _, rfl⟩
        case measure => simp [intOf]; omega
    · obtain rfl : k = j := by omega
      have hahf : ah = false := by rw [Hah.out]; exact take_no hno
      have hbq := bel_drewN Hb1.out q
      have hbxq := Hbx.out.below (bel_drewN (Below.refl W1.heap.size W1) q)
      have Hno := Lib.hid hno; have Hahf := Lib.hid hahf; have Hbq := Lib.hid hbq; have Hbxq := Lib.hid hbxq; clear hno hahf hbq hbxq
      go_wp2_with fail
      clear c0 c1 d0 d1 d2
      obtain ⟨Wq, hWq⟩ : ∃ W, W = W1.drewN q := ⟨_, rfl⟩
      have hbq := Hbq.out
      have hbxq := Hbxq.out
      rw [← hWq] at hbq hbxq ⊢
      clear Hbq Hbxq
      have Hbq := Lib.hid hbq; have Hbxq := Lib.hid hbxq; have HWq := Lib.hid hWq; clear hbq hbxq hWq
      go_loopw [31] (fun i wr => ∃ j : Nat, j ≤ nn ∧ i = .int .i64 j ∧ NoneIn (badName l s) f.2.1 j ∧ Below Wq.heap.size Wq wr) (fun i _ => nn - (intOf i).toNat)
      case atStart => exact ⟨0, Nat.zero_le _, rfl, noneIn_zero _ _, Below.refl _ _⟩
      case round =>
        obtain ⟨j, hj, rfl, hno, hb⟩ := hrel
        have hbw := Hbq.out.trans (hb.mono Hbq.out.size)
        have hbxw := Hbxq.out.below hb
        obtain ⟨c0, c1, d0, d1, d2⟩ := hbxw.cells
        by_cases hlt : j < nn
        · have hjl : j < f.2.1.length := by have := Hnn.out; omega
          obtain ⟨b3, off3, rfl, e0, _⟩ := Hg.out.2 j hjl
          have hyy := fun h => any_yes (p := badName l s) hjl h
          have hnx := fun h => noneIn_succ hjl hno h
          obtain ⟨x, hx⟩ : ∃ y, y = f.2.1[j] := ⟨_, rfl⟩
          rw [← hx] at e0 hyy hnx
          have y0 := cell_later hbw e0
          have hI := fun (W : World) (hb : Below w.heap.size w W) => HFi.out W hb x
          obtain ⟨i, hi⟩ : ∃ i, i = idxOf (named x) l := ⟨_, rfl⟩
          rw [← hi] at hI
          have hbd : badName l s x = (decide (i < 0) || !(hasT (provAt l i.toNat) s)) := by rw [hi]; rfl
          have hil : 0 ≤ i → i.toNat < l.length := fun h0 => by rw [hi] at h0 ⊢; exact idxOf_lt h0
          have k8 : (0 : Int) ≤ (j : Int) := by omega
          have k9 : (j : Int) < (nn : Int) := by omega
          have hbz := bel_drewN hbw 1
          have hbr := bel_drewN hb 1
          have hcz : (wr.drewN 1).cell? ⟨nb, 0, none⟩ = some (.slice a n cap) ∧ (wr.drewN 1).cell? ⟨nb, 1, none⟩ = some (.slice (some ⟨b, off, none⟩) n2 cap2) ∧ (wr.drewN 1).cell? ⟨nb + 1, 1, none⟩ = some (.slice (some ⟨b3, off3, none⟩) nn nc) ∧ (wr.drewN 1).cell? ⟨b3, off3 + j, none⟩ = some (.string x) := ⟨by simpa using c0, by simpa using c1, by simpa using d1, by simpa using y0⟩
          have hbxz := hbxw.below (bel_drewN (Below.refl wr.heap.size wr) 1)
          clear e0
          have Hno := Lib.hid hno; have Hb := Lib.hid hb; have Hbw := Lib.hid hbw; have Hbxw := Lib.hid hbxw; have Hyy := Lib.hid hyy; have Hnx := Lib.hid hnx; have Hx := Lib.hid hx; have HI := Lib.hid hI; have Hi := Lib.hid hi; have Hbd := Lib.hid hbd; have Hil := Lib.hid hil; clear hno hb hbw hbxw hyy hnx hx hI hi hbd hil
          go_wp2_with fail
          go_region_held3? (fun w' => w'.cell? ⟨nb, 0, none⟩ = some (.slice a n cap) ∧ w'.cell? ⟨nb, 1, none⟩ = some (.slice (some ⟨b, off, none⟩) n2 cap2) ∧ w'.cell? ⟨nb + 1, 1, none⟩ = some (.slice (some ⟨b3, off3, none⟩) nn nc) ∧ w'.cell? ⟨b3, off3 + j, none⟩ = some (.string x)) (first | exact hcz | go_keep) ((go_at_call 40; refine (HI.out _ (by exact hbz)).mono ?_; rintro e wA ⟨rfl, hbA⟩; replace hbz := hbz.trans (hbA.mono hbz.size); replace hbr := hbr.trans (hbA.mono hbr.size); replace hbxz := hbxz.below hbA; replace hcz : wA.cell? ⟨nb, 0, none⟩ = some (.slice a n cap) ∧ wA.cell? ⟨nb, 1, none⟩ = some (.slice (some ⟨b, off, none⟩) n2 cap2) ∧ wA.cell? ⟨nb + 1, 1, none⟩ = some (.slice (some ⟨b3, off3, none⟩) nn nc) ∧ wA.cell? ⟨b3, off3 + j, none⟩ = some (.string x) := ⟨cell_later hbA hcz.1, cell_later hbA hcz.2.1, cell_later hbA hcz.2.2.1, cell_later hbA hcz.2.2.2⟩))
          clear c0 c1 d0 d1 d2 y0 hcz
          obtain ⟨c0, c1, d0, d1, d2⟩ := hbxz.cells
          by_cases hneg : i < 0
          · have k1 : decide (i < 0) = true := decide_eq_true hneg
            have hf : r = false := by rw [Hpr.out, Hbn.out, Hyy.out (by rw [Hbd.out, k1]; rfl)]; simp
            have HbA := Lib.hid hbA; have Hbz := Lib.hid hbz; have Hbr := Lib.hid hbr; have Hbxz := Lib.hid hbxz; have Hf := Lib.hid hf; have Hneg := Lib.hid hneg; clear hbA hbz hbr hbxz hf hneg
            go_wp2_with fail
            go_quiet (fail)
            go_wp2_with fail
            go_ret
            exact ⟨ret_bool Hf.out.symm, bel_drewN Hbz.out _⟩
          · have k1 : decide (i < 0) = false := decide_eq_false hneg
            have hkl : i.toNat < l.length := by have := Hil.out (by omega); have := Hn.out; omega
            obtain ⟨b4, off4, w2, w3, w4, w5, w6, w7, rfl, hp⟩ := Hg.out.1 i.toNat _ (List.getElem?_eq_getElem hkl)
            have hpa : provAt l i.toNat = l[i.toNat].2.2.2.2.1 := by unfold provAt; rw [List.getElem?_eq_getElem hkl]
            obtain ⟨y, hy⟩ : ∃ x, x = l[i.toNat] := ⟨_, rfl⟩
            rw [← hy] at hp hpa
            have hC := fun (q : Nat) => hasRef_any (stays_slice stays_str _ _ _ _ hp.r4 (bel_drewN hbz q)) s
            have hbd2 := Hbd.out
            rw [hpa, k1] at hbd2
            obtain ⟨p, hpp⟩ : ∃ p, p = hasT y.2.2.2.2.1 s := ⟨_, rfl⟩
            rw [← hpp] at hC hbd2
            obtain ⟨a4, m4, p4, rfl⟩ := slice_any_shape hp.r4
            have g4 := cell_later hbz hp.c4
            obtain ⟨ki, rfl⟩ : ∃ k : Nat, i = (k : Int) := ⟨i.toNat, by omega⟩
            simp only [Int.toNat_natCast] at g4
            have k11 : (0 : Int) ≤ (ki : Int) := by omega
            have k12 : (ki : Int) < (n : Int) := by have := Hn.out; simp at hkl; omega
            clear hneg
            cases p with
            | false =>
              have hf : r = false := by rw [Hpr.out, Hbn.out, Hyy.out (by rw [hbd2]; rfl)]; simp
              have Hy := Lib.hid hy; have Hpa := Lib.hid hpa; have Hp := Lib.hid hp; have HC := Lib.hid hC; have Hpp := Lib.hid hpp; have Hbd2 := Lib.hid hbd2; have HbA := Lib.hid hbA; have Hbz := Lib.hid hbz; have Hbr := Lib.hid hbr; have Hbxz := Lib.hid hbxz; have Hf := Lib.hid hf; clear hy hpa hp hC hpp hbd2 hbA hbz hbr hbxz hf
              go_wp2_with fail
              go_quiet ((go_at_call 88; exact quiet_add0 (HC.out _)))
              go_wp2_with fail
              go_ret
              exact ⟨ret_bool Hf.out.symm, bel_drewN Hbz.out _⟩
            | true =>
              have hq := Hnx.out (by rw [hbd2]; rfl)
              have Hy := Lib.hid hy; have Hpa := Lib.hid hpa; have Hp := Lib.hid hp; have HC := Lib.hid hC; have Hpp := Lib.hid hpp; have Hbd2 := Lib.hid hbd2; have HbA := Lib.hid hbA; have Hbz := Lib.hid hbz; have Hbr := Lib.hid hbr; have Hbxz := Lib.hid hbxz; have Hq := Lib.hid hq; clear hy hpa hp hC hpp hbd2 hbA hbz hbr hbxz hq
              go_wp2_with fail
              go_quiet ((go_at_call 88; exact quiet_add0 (HC.out _)))
              go_wp2_with fail
              go_roundw
              case rel => exact ⟨j + 1, by omega, by go_num, Hq.out, bel_drewN Hbr.out _⟩
              case measure => simp [intOf]; omega
        · obtain rfl : nn = j := by omega
          have hbnf : bn = false := by rw [Hbn.out]; exact any_no (by rw [← Hnn.out]; exact hno)
          have hV2 := HV.out wr hbw
          have Hno := Lib.hid hno; have Hbnf := Lib.hid hbnf; have HV2 := Lib.hid hV2; have Hb := Lib.hid hb; have Hbw := Lib.hid hbw; have Hbxw := Lib.hid hbxw; clear hno hbnf hV2 hb hbw hbxw
          go_wp2_with fail
          refine HV2.out.mono ?_
          rintro e w2 ⟨rfl, hbm⟩
          have hb3 := Hbw.out.trans (hbm.mono Hbw.out.size)
          have hbx3 := Hbxw.out.below hbm
          have hT3 := HT.out w2 hb3
          clear c0 c1 d0 d1 d2
          obtain ⟨c0, c1, d0, d1, d2⟩ := hbx3.cells
          have Hbm := Lib.hid hbm; have Hb3 := Lib.hid hb3; have Hbx3 := Lib.hid hbx3; have HT3 := Lib.hid hT3; clear hbm hb3 hbx3 hT3
          cases vt with
          | false =>
            have hf : r = false := by rw [Hpr.out]; rfl
            have Hf := Lib.hid hf; clear hf
            go_wp2_with fail
            go_ret
            exact ⟨ret_bool Hf.out.symm, Hb3.out⟩
          | true =>
            have hf : r = !tw := by rw [Hpr.out, Hahf.out, Hbnf.out]; cases tw <;> rfl
            have Hf := Lib.hid hf; clear hf
            go_wp2_with fail
            refine HT3.out.mono ?_
            rintro e w3 ⟨rfl, q3, rfl⟩
            go_wp2_with fail
            go_ret
            exact ⟨ret_bool Hf.out.symm, bel_drewN Hb3.out _⟩
end Go.Proofs.Ytnelgellbabkoaa

/- A recipe's first problem; boxes. No condition. -/
namespace Go.Proofs.Ytnelgellbabkoaa
open Go.RowKit Go.Shelf

def lineAt (l : List Pkg) (i : Nat) : Int := match l[i]? with
  | some x => x.2.1
  | none => 0
def plineAt (l : List Prf) (i : Nat) : Int := match l[i]? with
  | some x => x.2.2.1
  | none => 0
def firstI (f ln : Nat → Int) (n : Nat) : Option (Int × Int) := firstBad f ln (List.range n)
theorem firstI_at {f ln : Nat → Int} {n k : Nat} (h : k < n) (hno : ∀ j, j < k → f j = 0) (hk : f k ≠ 0) : firstI f ln n = some (f k, ln k) := by
  unfold firstI
  have := firstBad_at (f := f) (ln := ln) (l := List.range n) (k := k) (by simpa using h) (fun j hj hjk => by rw [List.getElem_range]; exact hno j hjk) (by rw [List.getElem_range]; exact hk)
  rw [this, List.getElem_range]
theorem firstI_none {f ln : Nat → Int} {n : Nat} (hno : ∀ j, j < n → f j = 0) : firstI f ln n = none :=
  firstBad_none fun j hj => by rw [List.getElem_range]; exact hno j (by simpa using hj)
def rul1 (l : List Pkg) (x : Pkg) : Int := (rulesOf l x).1
def rul2 (l : List Pkg) (x : Pkg) : Int := (rulesOf l x).2
def prefX (l : List Pkg) (pf : List Prf) (i : Nat) : Int := if preferOf l pf i then 0 else 10
/-- a recipe's first problem -/
def rcpOf (l : List Pkg) (pf : List Prf) : Int × Int :=
  if 24 < l.length then (1, lineAt l 24) else if 8 < pf.length then (1, plineAt pf 8)
  else (firstI (packOf l) (lineAt l) l.length).getD ((firstBad (rul1 l) (rul2 l) l).getD ((firstI (prefX l pf) (plineAt pf) pf.length).getD (0, 0)))
structure RcBox (B : Nat) (v u : Value) (w : World) : Prop where
  r : w.heap[B]? = some (.cells #[v, u] 52 (0, 0))
  res : w.heap[B + 1]? = some (.cells #[.int .u8 0, .int .i64 0] 55 (0, 0))
theorem RcBox.below {B : Nat} {v u : Value} {w w' : World} (h : RcBox B v u w) (hb : Below w.heap.size w w') : RcBox B v u w' := ⟨heap_below hb h.r, heap_below hb h.res⟩
theorem rcbox_new (w : World) (v u : Value) : RcBox w.heap.size v u ((w.alloc (.cells #[v, u] 52)).alloc (.cells #[.int .u8 0, .int .i64 0] 55)) :=
  ⟨heap_below (below_alloc1 _ _) (heap_alloc_new _ _), heap_new_at (by simp)⟩
theorem RcBox.cells {B : Nat} {v u : Value} {w : World} (h : RcBox B v u w) : w.cell? ⟨B, 0, none⟩ = some v ∧ w.cell? ⟨B, 1, none⟩ = some u := by
  have a0 := cells_at h.r 0
  have a1 := cells_at h.r 1
  simp only [List.getElem?_toArray, List.getElem?_cons_zero, List.getElem?_cons_succ] at a0 a1
  exact ⟨a0, a1⟩
theorem cz10_later {w w' : World} (hb : Below w.heap.size w w') {a0 a1 a2 a3 a4 a5 a6 a7 a8 a9 : Addr} {v0 v1 v2 v3 v4 v5 v6 v7 v8 v9 : Value}
    (h : w.cell? a0 = some v0 ∧ w.cell? a1 = some v1 ∧ w.cell? a2 = some v2 ∧ w.cell? a3 = some v3 ∧ w.cell? a4 = some v4 ∧ w.cell? a5 = some v5 ∧ w.cell? a6 = some v6 ∧ w.cell? a7 = some v7 ∧ w.cell? a8 = some v8 ∧ w.cell? a9 = some v9) :
    w'.cell? a0 = some v0 ∧ w'.cell? a1 = some v1 ∧ w'.cell? a2 = some v2 ∧ w'.cell? a3 = some v3 ∧ w'.cell? a4 = some v4 ∧ w'.cell? a5 = some v5 ∧ w'.cell? a6 = some v6 ∧ w'.cell? a7 = some v7 ∧ w'.cell? a8 = some v8 ∧ w'.cell? a9 = some v9 := by
  obtain ⟨h0, h1, h2, h3, h4, h5, h6, h7, h8, h9⟩ := h
  exact ⟨cell_later hb h0, cell_later hb h1, cell_later hb h2, cell_later hb h3, cell_later hb h4, cell_later hb h5, cell_later hb h6, cell_later hb h7, cell_later hb h8, cell_later hb h9⟩
end Go.Proofs.Ytnelgellbabkoaa

/- Plain facts: a recipe without a problem has none with less in it; a request has none with a root left out. No condition. -/
namespace Go.Proofs.Ytnelgellbabkoaa
open Go.RowKit Go.Shelf

/-- what names, wishes and what is preferred read of a package -/
def keyOf (x : Pkg) : ByteArray × List Var × List ByteArray := (x.1, x.2.2.2.1, x.2.2.2.2.1)
def cutPkg (x : Pkg) : Pkg := (x.1, x.2.1, x.2.2.1, x.2.2.2.1, x.2.2.2.2.1, x.2.2.2.2.2.1, [], [], ())
theorem key_at {l l' : List Pkg} (h : l'.map keyOf = l.map keyOf) (i : Nat) : (l'[i]?).map keyOf = (l[i]?).map keyOf := by
  rw [← List.getElem?_map, ← List.getElem?_map, h]
theorem idx_map {α β : Type} (p : β → Bool) (f : α → β) (l : List α) : idxOf p (l.map f) = idxOf (fun x => p (f x)) l := by
  unfold idxOf
  rw [List.findIdx?_map]; rfl
theorem idx_key {l l' : List Pkg} (h : l'.map keyOf = l.map keyOf) (s : ByteArray) : idxOf (named s) l' = idxOf (named s) l := by
  have e : ∀ l : List Pkg, idxOf (named s) l = idxOf (fun k : ByteArray × List Var × List ByteArray => decide (k.1 = s)) (l.map keyOf) := fun l => by
    rw [idx_map]; rfl
  rw [e, e, h]
theorem len_key {l l' : List Pkg} (h : l'.map keyOf = l.map keyOf) : l'.length = l.length := by
  have := congrArg List.length h
  simpa using this
theorem pv_key {l l' : List Pkg} (h : l'.map keyOf = l.map keyOf) (s : ByteArray) (n : Nat) : pv s l' n = pv s l n := by
  unfold pv
  refine List.filter_congr fun i _ => ?_
  have := key_at h i
  cases e1 : l'[i]? with
  | none =>
    cases e2 : l[i]? with
    | none => rfl
    | some y => rw [e1, e2] at this; cases this
  | some x =>
    cases e2 : l[i]? with
    | none => rw [e1, e2] at this; cases this
    | some y =>
      rw [e1, e2] at this
      simp only [Option.map_some, Option.some.injEq, keyOf, Prod.mk.injEq] at this
      simp only [this.2.2]
theorem virt_key {l l' : List Pkg} (h : l'.map keyOf = l.map keyOf) (s : ByteArray) : virtOf s l' = virtOf s l := by
  unfold virtOf
  rw [idx_key h, len_key h, pv_key h]
theorem vars_key {l l' : List Pkg} (h : l'.map keyOf = l.map keyOf) (i : Nat) : varsAt l' i = varsAt l i := by
  unfold varsAt
  have := key_at h i
  cases e1 : l'[i]? with
  | none =>
    cases e2 : l[i]? with
    | none => rfl
    | some y => rw [e1, e2] at this; cases this
  | some x =>
    cases e2 : l[i]? with
    | none => rw [e1, e2] at this; cases this
    | some y =>
      rw [e1, e2] at this
      simp only [Option.map_some, Option.some.injEq, keyOf, Prod.mk.injEq] at this
      exact this.2.1
theorem prov_key {l l' : List Pkg} (h : l'.map keyOf = l.map keyOf) (i : Nat) : provAt l' i = provAt l i := by
  unfold provAt
  have := key_at h i
  cases e1 : l'[i]? with
  | none =>
    cases e2 : l[i]? with
    | none => rfl
    | some y => rw [e1, e2] at this; cases this
  | some x =>
    cases e2 : l[i]? with
    | none => rw [e1, e2] at this; cases this
    | some y =>
      rw [e1, e2] at this
      simp only [Option.map_some, Option.some.injEq, keyOf, Prod.mk.injEq] at this
      exact this.2.2
theorem wish_key {l l' : List Pkg} (h : l'.map keyOf = l.map keyOf) (nm : ByteArray) (sp : List Spn) (st : List Setg) : wishOf l' nm sp st = wishOf l nm sp st := by
  unfold wishOf
  rw [idx_key h, virt_key h, vars_key h]
theorem dep_key {l l' : List Pkg} (h : l'.map keyOf = l.map keyOf) (vs : List Var) (d : Dpd) : depX l' vs d = depX l vs d := by
  unfold depX
  rw [wish_key h]
theorem cft_key {l l' : List Pkg} (h : l'.map keyOf = l.map keyOf) (vs : List Var) (d : Dpd) : cftX l' vs d = cftX l vs d := by
  unfold cftX
  rw [wish_key h, idx_key h]
theorem bad_key {l l' : List Pkg} (h : l'.map keyOf = l.map keyOf) (vt n : ByteArray) : badName l' vt n = badName l vt n := by
  unfold badName
  rw [prov_key h, idx_key h]
/-- nothing is bad -/
theorem firstBad_zero {α : Type} {f ln : α → Int} {l : List α} {d : Int × Int} (h : (firstBad f ln l).getD d = (0, 0)) : (∀ x ∈ l, f x = 0) ∧ d = (0, 0) := by
  unfold firstBad at h
  cases e : l.find? (fun x => f x != 0) with
  | none =>
    rw [e] at h
    rw [List.find?_eq_none] at e
    exact ⟨fun x hx => by simpa using e x hx, h⟩
  | some x =>
    rw [e] at h
    have hx := List.find?_some e
    simp only [Option.map_some, Option.getD_some, Prod.mk.injEq] at h
    simp [h.1] at hx
theorem firstBad_one {α : Type} {f ln : α → Int} {l : List α} {d : Int × Int} (h : ((firstBad f ln l).getD d).1 = 0) : (∀ x ∈ l, f x = 0) ∧ d.1 = 0 := by
  unfold firstBad at h
  cases e : l.find? (fun x => f x != 0) with
  | none =>
    rw [e] at h
    rw [List.find?_eq_none] at e
    exact ⟨fun x hx => by simpa using e x hx, h⟩
  | some x =>
    rw [e] at h
    have hx := List.find?_some e
    simp only [Option.map_some, Option.getD_some] at h
    simp [h] at hx
theorem firstBad_all {α : Type} {f ln : α → Int} {l : List α} (d : Int × Int) (h : ∀ x ∈ l, f x = 0) : (firstBad f ln l).getD d = d := by
  rw [firstBad_none fun j hj => h _ (List.getElem_mem hj)]; rfl
theorem packX_zero {i k : Int} {m n2 n5 n6 n4 n7 : Nat} {tv my tp tf : Bool} : packX i k m n2 n5 n6 n4 n7 tv my tp tf = 0 ↔ i = k ∧ ¬ 0 < m ∧ n2 ≠ 0 ∧ ¬ 10 < n2 ∧ ¬ 16 < n5 ∧ ¬ 8 < n6 ∧ ¬ 4 < n4 ∧ ¬ 8 < n7 ∧ tv = false ∧ my = true ∧ tp = false ∧ tf = false := by
  unfold packX
  constructor
  · intro h
    by_cases e0 : i ≠ k
    · rw [if_pos e0] at h; exact absurd h (by decide)
    rw [if_neg e0] at h
    by_cases e1 : 0 < m
    · rw [if_pos e1] at h; exact absurd h (by decide)
    rw [if_neg e1] at h
    by_cases e2 : n2 = 0
    · rw [if_pos e2] at h; exact absurd h (by decide)
    rw [if_neg e2] at h
    by_cases e3 : 10 < n2
    · rw [if_pos e3] at h; exact absurd h (by decide)
    rw [if_neg e3] at h
    by_cases e4 : 16 < n5
    · rw [if_pos e4] at h; exact absurd h (by decide)
    rw [if_neg e4] at h
    by_cases e5 : 8 < n6
    · rw [if_pos e5] at h; exact absurd h (by decide)
    rw [if_neg e5] at h
    by_cases e6 : 4 < n4
    · rw [if_pos e6] at h; exact absurd h (by decide)
    rw [if_neg e6] at h
    by_cases e7 : 8 < n7
    · rw [if_pos e7] at h; exact absurd h (by decide)
    rw [if_neg e7] at h
    by_cases e8 : tv = true
    · rw [if_pos e8] at h; exact absurd h (by decide)
    rw [if_neg e8] at h
    by_cases e9 : my = false
    · rw [if_pos e9] at h; exact absurd h (by decide)
    rw [if_neg e9] at h
    by_cases e10 : tp = true
    · rw [if_pos e10] at h; exact absurd h (by decide)
    rw [if_neg e10] at h
    by_cases e11 : tf = true
    · rw [if_pos e11] at h; exact absurd h (by decide)
    rw [if_neg e11] at h
    exact ⟨Classical.not_not.1 e0, e1, e2, e3, e4, e5, e6, e7, by simpa using e8, by simpa using e9, by simpa using e10, by simpa using e11⟩
  · rintro ⟨h0, h1, h2, h3, h4, h5, h6, h7, rfl, rfl, rfl, rfl⟩
    rw [if_neg (fun h => h h0), if_neg h1, if_neg h2, if_neg h3, if_neg h4, if_neg h5, if_neg h6, if_neg h7]
    rfl
theorem pack_cut {l : List Pkg} {k : Nat} (hk : k < l.length) {j : Nat} (hj : j < l.length) (h : packOf l j = 0) : packOf (l.set k (cutPkg l[k])) j = 0 := by
  have hkey : (l.set k (cutPkg l[k])).map keyOf = l.map keyOf := by
    rw [List.map_set, show keyOf (cutPkg l[k]) = (l.map keyOf)[k]'(by simpa using hk) by rw [List.getElem_map]; rfl, List.set_getElem_self]
  have hj' : j < (l.set k (cutPkg l[k])).length := by rw [List.length_set]; exact hj
  rw [packOf_at hj] at h
  rw [packOf_at hj']
  by_cases e : k = j
  · subst e
    have hx : (l.set k (cutPkg l[k]))[k] = cutPkg l[k] := by rw [List.getElem_set_self]
    rw [hx]
    rw [packX_zero] at h ⊢
    obtain ⟨h1, h2, h3, h4, h5, h6, h7, h8, h9, h10, h11, h12⟩ := h
    refine ⟨?_, ?_, h3, h4, h5, by simp [cutPkg], h7, by simp [cutPkg], h9, h10, h11, rfl⟩
    · rw [idx_key hkey]; exact h1
    · rw [len_key hkey, pv_key hkey]; exact h2
  · have hx : (l.set k (cutPkg l[k]))[j] = l[j] := by rw [List.getElem_set_ne e]
    rw [hx, idx_key hkey, len_key hkey, pv_key hkey]
    exact h
theorem cut_key {l : List Pkg} {k : Nat} (hk : k < l.length) : (l.set k (cutPkg l[k])).map keyOf = l.map keyOf := by
  rw [List.map_set, show keyOf (cutPkg l[k]) = (l.map keyOf)[k]'(by simpa using hk) by rw [List.getElem_map]; rfl, List.set_getElem_self]
theorem rul_cut {l : List Pkg} {k : Nat} (hk : k < l.length) (h : ∀ x ∈ l, rul1 l x = 0) : ∀ x ∈ l.set k (cutPkg l[k]), rul1 (l.set k (cutPkg l[k])) x = 0 := by
  have hkey := cut_key hk
  have hre : ∀ x : Pkg, rul1 (l.set k (cutPkg l[k])) x = rul1 l x := fun x => by
    unfold rul1 rulesOf
    have e1 : depX (l.set k (cutPkg l[k])) x.2.2.2.1 = depX l x.2.2.2.1 := funext fun d => dep_key hkey _ _
    have e2 : cftX (l.set k (cutPkg l[k])) x.2.2.2.1 = cftX l x.2.2.2.1 := funext fun d => cft_key hkey _ _
    rw [e1, e2]
  intro x hx
  rw [hre]
  rcases List.mem_or_eq_of_mem_set hx with h1 | h1
  · exact h x h1
  · have h2 := h l[k] (List.getElem_mem hk)
    unfold rul1 rulesOf at h2 ⊢
    obtain ⟨h3, _⟩ := firstBad_one h2
    subst h1
    have e : (firstBad (depX l (cutPkg l[k]).2.2.2.1) dLine (cutPkg l[k]).2.2.2.2.2.1).getD ((firstBad (cftX l (cutPkg l[k]).2.2.2.1) dLine (cutPkg l[k]).2.2.2.2.2.2.1).getD (0, 0)) = (0, 0) := firstBad_all _ h3
    rw [e]
theorem pref_cut {l : List Pkg} {pf : List Prf} {k m j : Nat} (hk : k < l.length) (hj : j < (pf.take m).length) (h : prefX l pf j = 0) : prefX (l.set k (cutPkg l[k])) (pf.take m) j = 0 := by
  have hkey := cut_key hk
  have hjm : j < m ∧ j < pf.length := by rw [List.length_take] at hj; omega
  have e : preferOf (l.set k (cutPkg l[k])) (pf.take m) j = preferOf l pf j := by
    unfold preferOf
    rw [List.getElem?_take, if_pos hjm.1, List.take_take, Nat.min_eq_left (by omega)]
    cases pf[j]? with
    | none => rfl
    | some f =>
      have e2 : badName (l.set k (cutPkg l[k])) f.1 = badName l f.1 := funext fun n => bad_key hkey _ _
      simp only [virt_key hkey, e2]
  unfold prefX at h ⊢
  rw [e]; exact h
/-- a recipe without a problem has none with less in it -/
theorem rcp_cut {l : List Pkg} {pf : List Prf} {k m : Nat} (hk : k < l.length) (h : rcpOf l pf = (0, 0)) : rcpOf (l.set k (cutPkg l[k])) (pf.take m) = (0, 0) := by
  unfold rcpOf at h
  by_cases e1 : 24 < l.length
  · rw [if_pos e1] at h; simp at h
  rw [if_neg e1] at h
  by_cases e2 : 8 < pf.length
  · rw [if_pos e2] at h; simp at h
  rw [if_neg e2] at h
  unfold firstI at h
  obtain ⟨h1, h⟩ := firstBad_zero h
  obtain ⟨h2, h⟩ := firstBad_zero h
  obtain ⟨h3, _⟩ := firstBad_zero h
  unfold rcpOf
  rw [if_neg (by rw [List.length_set]; exact e1), if_neg (by rw [List.length_take]; omega)]
  unfold firstI
  rw [firstBad_all, firstBad_all, firstBad_all]
  · intro j hj
    rw [List.mem_range] at hj
    exact pref_cut hk hj (h3 j (by rw [List.mem_range]; rw [List.length_take] at hj; omega))
  · exact rul_cut hk h2
  · intro j hj
    rw [List.mem_range, List.length_set] at hj
    exact pack_cut hk hj (h1 j (List.mem_range.2 hj))
theorem rcp_few {l : List Pkg} {pf : List Prf} (h : rcpOf l pf = (0, 0)) : pf.length ≤ 8 := by
  unfold rcpOf at h
  by_cases e1 : 24 < l.length
  · rw [if_pos e1] at h; simp at h
  rw [if_neg e1] at h
  by_cases e2 : 8 < pf.length
  · rw [if_pos e2] at h; simp at h
  omega
abbrev Rot := Spc × Int × Unit
def rootX (l : List Pkg) (r : Rot) : Int := wishOf l r.1.1 r.1.2.1 r.1.2.2.1
def rotLine (r : Rot) : Int := r.2.1
def rlineAt (l : List Rot) (i : Nat) : Int := match l[i]? with
  | some x => x.2.1
  | none => 0
/-- a request's first problem -/
def rqOf (l : List Pkg) (rs : List Rot) : Int × Int :=
  if rs.length = 0 then (11, 0) else if 8 < rs.length then (1, rlineAt rs 8) else (firstBad (rootX l) rotLine rs).getD (0, 0)
theorem rq_cut {l : List Pkg} {rs : List Rot} {n : Nat} (h2 : 2 ≤ rs.length) (hn : n < rs.length) (h : rqOf l rs = (0, 0)) : rqOf l (rs.take n ++ rs.drop (n + 1)) = (0, 0) := by
  unfold rqOf at h
  rw [if_neg (by omega)] at h
  by_cases e2 : 8 < rs.length
  · rw [if_pos e2] at h; simp at h
  rw [if_neg e2] at h
  obtain ⟨h1, _⟩ := firstBad_zero h
  have hlen : (rs.take n ++ rs.drop (n + 1)).length = rs.length - 1 := by rw [List.length_append, List.length_take, List.length_drop]; omega
  unfold rqOf
  rw [if_neg (by rw [hlen]; omega), if_neg (by rw [hlen]; omega)]
  refine firstBad_all _ fun x hx => ?_
  rcases List.mem_append.1 hx with h3 | h3
  · exact h1 x (List.mem_of_mem_take h3)
  · exact h1 x (List.mem_of_mem_drop h3)
end Go.Proofs.Ytnelgellbabkoaa

/- Requests open as their value; cooperref08.Great at them. No condition. -/
namespace Go.Proofs.Ytnelgellbabkoaa
open Go.RowKit Go.Shelf
attribute [local go_sem ↓] Go.wp_at_zero Go.wp_at_succ

abbrev RRot : Rd Rot := RCons 3 RSpc (RCons 1 (RInt .i64) RNil)
abbrev RReq : Rd (List Rot × Unit) := RCons 1 (RSlice 4 RRot) RNil
theorem stays_rot : Stays RRot := stays_cons stays_spc (stays_cons (stays_int .i64) stays_nil)
theorem opens_rot : Opens Try.prog 109 RRot := by
  refine opens_struct Try.underlying109 ?_
  have hN : Try.prog.cellsOf 109 = 0 + 3 + 1 := by kernel_rfl
  rw [hN]
  exact fields_cons rfl cs_spc opens_spc (fields_cons rfl cs_int (opens_int Try.underlying3) fields_nil)
theorem opens_rots : Opens Try.prog 60 (RSlice 4 RRot) := opens_slice Try.underlying60 (by kernel_rfl) (by decide) opens_rot
theorem opens_req : Opens Try.prog 62 RReq := by
  refine opens_struct Try.underlying62 ?_
  have hN : Try.prog.cellsOf 62 = 0 + 1 := by kernel_rfl
  rw [hN]
  exact fields_cons rfl (by kernel_rfl) opens_rots fields_nil
theorem rot_cells {w : World} {cs : List Value} {x : Rot} (h : RRot w cs x) : ∃ u1 u2, cs = [.string x.1.1, u1, u2, .int .i64 x.2.1] ∧ RSlice 2 RSpn w [u1] x.1.2.1 ∧ RSets w [u2] x.1.2.2.1 := by
  obtain ⟨a0, t0, rfl, _, h0, a1, t1, rfl, _, ⟨rfl, _⟩, h2⟩ := h
  obtain rfl : t1 = [] := h2
  obtain ⟨u1, u2, rfl, k0, k1, k2⟩ := spc_cells h0
  exact ⟨u1, u2, rfl, k1, k2⟩
theorem rots_open {w : World} {v : Value} {l : List Rot} (h : RSlice 4 RRot w [v] l) : ∃ a cap, v = .slice a l.length cap ∧ l.length ≤ 9223372036854775807 ∧ ∀ i x, l[i]? = some x → ∃ b off u1 u2, a = some ⟨b, off, none⟩ ∧ w.cell? ⟨b, off + i * 4, none⟩ = some (.string x.1.1) ∧ w.cell? ⟨b, off + i * 4 + 1, none⟩ = some u1 ∧ w.cell? ⟨b, off + i * 4 + 2, none⟩ = some u2 ∧ w.cell? ⟨b, off + i * 4 + 3, none⟩ = some (.int .i64 x.2.1) ∧ RSlice 2 RSpn w [u1] x.1.2.1 ∧ RSets w [u2] x.1.2.2.1 := by
  obtain ⟨a, cap, hv, hcap, hmax, hel⟩ := h
  simp only [List.cons.injEq, and_true] at hv
  unfold maxLen at hmax
  refine ⟨a, cap, hv, by omega, fun i x hi => ?_⟩
  obtain ⟨b, off, ecs, h1, h2, h3, h4⟩ := hel i x hi
  obtain ⟨u1, u2, rfl, k1, k2⟩ := rot_cells h4
  exact ⟨b, off, u1, u2, h1, by simpa using h3 0 _ rfl, by simpa using h3 1 _ rfl, by simpa using h3 2 _ rfl, by simpa using h3 3 _ rfl, k1, k2⟩
theorem req_arg {w : World} {cs : Array Value} {x : List Rot × Unit} (h : RReq w cs.toList x) : ∃ v, cs = #[v] ∧ RSlice 4 RRot w [v] x.1 := by
  obtain ⟨a0, t0, hc, l0, h0, h1⟩ := h
  obtain rfl : t0 = [] := h1
  match a0, l0 with
  | [v], _ => exact ⟨v, by rw [← Array.toArray_toList (xs := cs), hc]; rfl, h0⟩
set_option maxRecDepth 10000 in
theorem greatSpc_any {w : World} {nm : ByteArray} {u v : Value} {sp : List Spn} {l : List Setg} (hsp : RSlice 2 RSpn w [u] sp) (h : RSets w [v] l) : Calls Try.prog 91 #[.agg #[.string nm, u, v]] w fun e w' => (∃ r, e = .returned (.bool r)) ∧ Below w.heap.size w w' := by
  have hb0 : Below w.heap.size w (w.alloc (.cells #[.string nm, u, v] 107)) := below_alloc1 _ _
  have hG := greatSpec_any (nm := nm) (stays_slice stays_spn _ _ _ _ hsp hb0) (stays_slice stays_set _ _ _ _ h hb0)
  obtain ⟨a1, n1, c1, rfl⟩ := slice_any_shape hsp
  obtain ⟨a2, n2, c2, rfl⟩ := slice_any_shape h
  have Hsp := Lib.hid hsp; have Hh := Lib.hid h; have Hb0 := Lib.hid hb0; have HG := Lib.hid hG; clear hsp h hb0 hG
  go_enter Try.func91, Try.ntmps91
  go_wp2_with fail
  refine HG.out.mono ?_
  rintro e w1 ⟨⟨r, rfl⟩, hb1⟩
  have hb2 := Hb0.out.trans (hb1.mono Hb0.out.size)
  have Hb1 := Lib.hid hb1; have Hb2 := Lib.hid hb2; clear hb1 hb2
  go_wp2_with fail
  go_ret
  exact ⟨⟨r, rfl⟩, Hb2.out⟩
set_option maxRecDepth 10000 in
set_option maxHeartbeats 1000000 in
theorem greatReq_any {w : World} {v : Value} {l : List Rot} (h : RSlice 4 RRot w [v] l) : Calls Try.prog 43 #[.agg #[v]] w fun e w' => (∃ r, e = .returned (.bool r) ∧ (r = false → l.length ≤ 40)) ∧ Below w.heap.size w w' := by
  obtain ⟨a, cap, rfl, hz, g⟩ := rots_open h
  obtain ⟨n, hn⟩ : ∃ n, n = l.length := ⟨_, rfl⟩
  rw [← hn] at hz h ⊢
  obtain ⟨W0, hW0⟩ : ∃ W0, W0 = w.alloc (.cells #[.slice a n cap] 62) := ⟨_, rfl⟩
  obtain ⟨nb, hnb⟩ : ∃ nb, nb = w.heap.size := ⟨_, rfl⟩
  have hb0 : Below w.heap.size w W0 := by rw [hW0]; exact below_alloc1 _ _
  have hbx : W0.heap[nb]? = some (.cells #[.slice a n cap] 62 (0, 0)) := by rw [hW0, hnb]; exact heap_alloc_new _ _
  have c0 := cells_at hbx 0
  simp only [List.getElem?_toArray, List.getElem?_cons_zero] at c0
  have Hh := Lib.hid h; have Hg := Lib.hid g; have Hn := Lib.hid hn; have Hb0 := Lib.hid hb0; have Hbx := Lib.hid hbx; clear h g hn hb0 hbx
  go_enter Try.func43, Try.ntmps43
  go_upto_region 1 with (fail)
  rw [← hW0, ← hnb]
  have HW0 := Lib.hid hW0; have Hnb := Lib.hid hnb; clear hW0 hnb
  by_cases e1 : 40 < n
  · have k1 : decide ((40 : Int) < (n : Int)) = true := by simp; omega
    go_wp2_with fail
    go_ret
    exact ⟨⟨true, rfl, fun h => by cases h⟩, Hb0.out⟩
  · have k1 : decide ((40 : Int) < (n : Int)) = false := by simp; omega
    have hn40 : n ≤ 40 := by omega
    go_wp2_with fail
    clear k1 e1
    go_loopw [11] (fun i wr => ∃ k : Nat, k ≤ n ∧ i = .int .i64 k ∧ Below W0.heap.size W0 wr) (fun i _ => n - (intOf i).toNat)
    case atStart => exact ⟨0, Nat.zero_le _, rfl, Below.refl _ _⟩
    case round =>
      obtain ⟨k, hk, rfl, hb⟩ := hrel
      have hbw := Hb0.out.trans (hb.mono Hb0.out.size)
      have f0 := cell_later hb c0
      by_cases hlt : k < n
      · have hkl : k < l.length := by have := Hn.out; omega
        obtain ⟨b, off, u1, u2, rfl, d0, d1, d2, d3, r1, r2⟩ := Hg.out k _ (List.getElem?_eq_getElem hkl)
        obtain ⟨s, hs⟩ : ∃ s, s = l[k].1.1 := ⟨_, rfl⟩
        rw [← hs] at d0
        have hS := greatSpc_any (nm := s) (stays_slice stays_spn _ _ _ _ r1 hbw) (stays_slice stays_set _ _ _ _ r2 hbw)
        obtain ⟨b1, m1, p1, rfl⟩ := slice_any_shape r1
        obtain ⟨b2, m2, p2, rfl⟩ := slice_any_shape r2
        have e0 := cell_later hbw d0
        have e1 := cell_later hbw d1
        have e2 := cell_later hbw d2
        have k5 : (0 : Int) ≤ (k : Int) := by omega
        have k6 : (k : Int) < (n : Int) := by omega
        clear d0 d1 d2 d3
        have Hr1 := Lib.hid r1; have Hr2 := Lib.hid r2; have HS := Lib.hid hS; have Hb := Lib.hid hb; have Hbw := Lib.hid hbw; have Hs := Lib.hid hs; clear r1 r2 hS hb hbw hs
        go_wp2_with fail
        refine HS.out.mono ?_
        rintro e w1 ⟨⟨r, rfl⟩, hb1⟩
        have hb2 := Hb.out.trans (hb1.mono Hb.out.size)
        have hbw2 := Hbw.out.trans (hb1.mono Hbw.out.size)
        have Hb1 := Lib.hid hb1; have Hb2 := Lib.hid hb2; have Hbw2 := Lib.hid hbw2; clear hb1 hb2 hbw2
        cases r with
        | true =>
          go_wp2_with fail
          go_ret
          exact ⟨⟨true, rfl, fun h => by cases h⟩, Hbw2.out⟩
        | false =>
          go_wp2_with fail
          go_roundw
          case rel => exact ⟨k + 1, by omega, by go_num, Hb2.out⟩
          case measure => simp [intOf]; omega
      · obtain rfl : n = k := by omega
        have Hb := Lib.hid hb; have Hbw := Lib.hid hbw; clear hb hbw
        go_wp2_with fail
        go_ret
        exact ⟨⟨false, rfl, fun _ => hn40⟩, Hbw.out⟩
end Go.Proofs.Ytnelgellbabkoaa

/- The walk of check.Request: a request's first problem. Condition: few packages. -/
namespace Go.Proofs.Ytnelgellbabkoaa
open Go.RowKit Go.Shelf
attribute [local go_sem ↓] Go.wp_at_zero Go.wp_at_succ

structure RqBox (B : Nat) (v u q : Value) (w : World) : Prop where
  r : w.heap[B]? = some (.cells #[v, u] 52 (0, 0))
  q : w.heap[B + 1]? = some (.cells #[q] 62 (0, 0))
  res : w.heap[B + 1 + 1]? = some (.cells #[.int .u8 0, .int .i64 0] 55 (0, 0))
theorem RqBox.below {B : Nat} {v u q : Value} {w w' : World} (h : RqBox B v u q w) (hb : Below w.heap.size w w') : RqBox B v u q w' := ⟨heap_below hb h.r, heap_below hb h.q, heap_below hb h.res⟩
theorem rqbox_new (w : World) (v u q : Value) : RqBox w.heap.size v u q (((w.alloc (.cells #[v, u] 52)).alloc (.cells #[q] 62)).alloc (.cells #[.int .u8 0, .int .i64 0] 55)) :=
  ⟨heap_below (below_alloc1 _ _) (heap_below (below_alloc1 _ _) (heap_alloc_new _ _)), heap_below (below_alloc1 _ _) (heap_new_at (by simp)), heap_new_at (by simp)⟩
theorem RqBox.cells {B : Nat} {v u q : Value} {w : World} (h : RqBox B v u q w) : w.cell? ⟨B, 0, none⟩ = some v ∧ w.cell? ⟨B, 1, none⟩ = some u ∧ w.cell? ⟨B + 1, 0, none⟩ = some q := by
  have a0 := cells_at h.r 0
  have a1 := cells_at h.r 1
  have b0 := cells_at h.q 0
  simp only [List.getElem?_toArray, List.getElem?_cons_zero, List.getElem?_cons_succ] at a0 a1 b0
  exact ⟨a0, a1, b0⟩
set_option maxRecDepth 10000 in
set_option maxHeartbeats 4000000 in
theorem request_any {w : World} {v u q : Value} {l : List Pkg} {rs : List Rot} (h : RSlice 8 RPkg w [v] l) (hl : l.length ≤ 1000000) (hu : ∃ a n c, u = .slice a n c) (hq : RSlice 4 RRot w [q] rs) : Calls Try.prog 44 #[.agg #[v, u], .agg #[q]] w fun e w' => e = .returned (.agg #[.int .u8 (rqOf l rs).1, .int .i64 (rqOf l rs).2]) ∧ Below w.heap.size w w' := by
  have hWs := fun (W : World) (hb : Below w.heap.size w W) (s : ByteArray) (u1 u2 : Value) (sp : List Spn) (st : List Setg) (h1 : RSlice 2 RSpn W [u1] sp) (h2 : RSets W [u2] st) => wish_any (pw := u) (nm := s) (stays_slice stays_pkg _ _ _ _ h hb) hl h1 h2
  obtain ⟨ua, un, uc, rfl⟩ := hu
  obtain ⟨a, cap, rfl, hz, _⟩ := pkgs_open h
  obtain ⟨a2, cap2, rfl, hz2, g⟩ := rots_open hq
  obtain ⟨n, hn⟩ : ∃ n, n = l.length := ⟨_, rfl⟩
  obtain ⟨m, hm⟩ : ∃ n, n = rs.length := ⟨_, rfl⟩
  obtain ⟨r, hr⟩ : ∃ r, r = rqOf l rs := ⟨_, rfl⟩
  have hrr : r = if m = 0 then (11, 0) else if 8 < m then (1, rlineAt rs 8) else (firstBad (rootX l) rotLine rs).getD (0, 0) := by rw [hr, hm]; rfl
  rw [← hr]
  rw [← hn] at hz h hl hWs
  rw [← hm] at hz2 hq
  rw [← hn, ← hm]
  obtain ⟨nb, hnb⟩ : ∃ nb, nb = w.heap.size := ⟨_, rfl⟩
  obtain ⟨W0, hW0⟩ : ∃ W0, W0 = ((w.alloc (.cells #[.slice a n cap, .slice ua un uc] 52)).alloc (.cells #[.slice a2 m cap2] 62)).alloc (.cells #[.int .u8 0, .int .i64 0] 55) := ⟨_, rfl⟩
  have hb0 : Below w.heap.size w W0 := by rw [hW0]; exact ((below_alloc1 _ _).alloc (below_alloc1 _ _).size _).alloc ((below_alloc1 _ _).alloc (below_alloc1 _ _).size _).size _
  have hbx : RqBox nb (.slice a n cap) (.slice ua un uc) (.slice a2 m cap2) W0 := by rw [hW0, hnb]; exact rqbox_new _ _ _ _
  obtain ⟨c0, c1, d0⟩ := hbx.cells
  have nb0 : w.heap.size ≤ nb := by omega
  have Hh := Lib.hid h; have Hq := Lib.hid hq; have HWs := Lib.hid hWs; have Hg := Lib.hid g; have Hn := Lib.hid hn; have Hm := Lib.hid hm; have Hr := Lib.hid hr; have Hrr := Lib.hid hrr; have Hb0 := Lib.hid hb0; have Hbx := Lib.hid hbx; have Hnb0 := Lib.hid nb0; clear h hq hWs g hn hm hr hrr hb0 hbx nb0
  go_enter Try.func44, Try.ntmps44
  go_upto_region 1 with (fail)
  rw [← hW0, ← hnb]
  have HW0 := Lib.hid hW0; have Hnb := Lib.hid hnb; clear hW0 hnb
  by_cases e1 : m = 0
  · have k1 : ((m : Int) == 0) = true := by rw [e1]; rfl
    have hf : r = (11, 0) := by rw [Hrr.out, if_pos e1]
    have hres := Hbx.out.res
    obtain ⟨y0, y1, y2, y3⟩ := prob_cells hres
    have Hres := Lib.hid hres; have Hf := Lib.hid hf; clear hres hf
    go_wp2_with fail
    (try simp only [Exit.inBlock, Exit.then])
    refine bodyPost_prob (g := nb + 1 + 1) rfl (by simp) (prob_set _ _ Hres.out) rfl ?_
    exact ⟨by rw [Hf.out], prob_bel _ _ Hb0.out (by have := Hnb0.out; omega)⟩
  have k1 : ((m : Int) == 0) = false := by simp; omega
  have hrr2 := Hrr.out
  rw [if_neg e1] at hrr2
  by_cases e2 : 8 < m
  · have k2 : decide ((8 : Int) < (m : Int)) = true := by simp; omega
    have hkl : 8 < rs.length := by have := Hm.out; omega
    obtain ⟨b, off, u1, u2, rfl, _, _, _, x3, _, _⟩ := Hg.out 8 _ (List.getElem?_eq_getElem hkl)
    have hla : rlineAt rs 8 = rs[8].2.1 := by unfold rlineAt; rw [List.getElem?_eq_getElem hkl]
    obtain ⟨ln, hln⟩ : ∃ s, s = rs[8].2.1 := ⟨_, rfl⟩
    rw [← hln] at x3
    have x3 := cell_later Hb0.out x3
    have hf : r = (1, ln) := by rw [hrr2, if_pos e2, hla, hln]
    have k3 : (8 : Int) < (m : Int) := by omega
    simp only [Nat.reduceMul] at x3
    have hres := Hbx.out.res
    obtain ⟨y0, y1, y2, y3⟩ := prob_cells hres
    have Hres := Lib.hid hres; have Hf := Lib.hid hf; have Hln := Lib.hid hln; have Hla := Lib.hid hla; have Hrr2 := Lib.hid hrr2; clear hres hf hln hla hrr2
    go_wp2_with fail
    (try simp only [Exit.inBlock, Exit.then])
    refine bodyPost_prob (g := nb + 1 + 1) rfl (by simp) (prob_set _ _ Hres.out) rfl ?_
    exact ⟨by rw [Hf.out], prob_bel _ _ Hb0.out (by have := Hnb0.out; omega)⟩
  have k2 : decide ((8 : Int) < (m : Int)) = false := by simp; omega
  rw [if_neg e2] at hrr2
  have Hrr2 := Lib.hid hrr2; clear hrr2
  go_wp2_with fail
  clear c0 c1 d0 k1 k2
  go_loopw [28] (fun i wr => ∃ k : Nat, k ≤ m ∧ i = .int .i64 k ∧ (∀ j (hj : j < rs.length), j < k → rootX l rs[j] = 0) ∧ Below W0.heap.size W0 wr) (fun i _ => m - (intOf i).toNat)
  case atStart => exact ⟨0, Nat.zero_le _, rfl, fun _ _ h => by omega, Below.refl _ _⟩
  case round =>
    obtain ⟨k, hk, rfl, hno, hb⟩ := hrel
    have hbw := Hb0.out.trans (hb.mono Hb0.out.size)
    have hbx1 := Hbx.out.below hb
    by_cases hlt : k < m
    · have hkl : k < rs.length := by have := Hm.out; omega
      obtain ⟨b, off, u1, u2, rfl, e0, e1, e2, e3, r1, r2⟩ := Hg.out k _ (List.getElem?_eq_getElem hkl)
      have hbad := fun h => firstBad_at (ln := rotLine) hkl hno h
      have hnx := fun (h : rootX l rs[k] = 0) => zero_succ (k := k) hno (fun _ => h)
      obtain ⟨x, hx⟩ : ∃ y, y = rs[k] := ⟨_, rfl⟩
      rw [← hx] at e0 e3 r1 r2 hbad hnx
      obtain ⟨s0, hs0⟩ : ∃ s, s = x.1.1 := ⟨_, rfl⟩
      obtain ⟨ln, hln⟩ : ∃ s, s = x.2.1 := ⟨_, rfl⟩
      rw [← hs0] at e0
      rw [← hln] at e3
      obtain ⟨b1, m1, p1, rfl⟩ := slice_any_shape r1
      obtain ⟨b2, m2, p2, rfl⟩ := slice_any_shape r2
      have e0 := cell_later hbw e0
      have e1 := cell_later hbw e1
      have e2 := cell_later hbw e2
      have e3 := cell_later hbw e3
      obtain ⟨c, hc⟩ : ∃ c, c = wishOf l s0 x.1.2.1 x.1.2.2.1 := ⟨_, rfl⟩
      have hrx : rootX l x = c := by rw [hc, hs0]; rfl
      have hlx : rotLine x = ln := by rw [hln]; rfl
      rw [hrx] at hnx
      rw [hrx, hlx] at hbad
      have k5 : (0 : Int) ≤ (k : Int) := by omega
      have k6 : (k : Int) < (m : Int) := by omega
      obtain ⟨W1, hW1⟩ : ∃ W1, W1 = wr.alloc (.cells #[.string s0, .slice b1 m1 p1, .slice b2 m2 p2, .int .i64 ln] 109) := ⟨_, rfl⟩
      have hbn : Below wr.heap.size wr W1 := by rw [hW1]; exact below_alloc1 _ _
      have hb1 := hbw.trans (hbn.mono hbw.size)
      have hbr1 := hb.trans (hbn.mono hb.size)
      have hbx2 := hbx1.below hbn
      obtain ⟨D, hD⟩ : ∃ D, D = wr.heap.size := ⟨_, rfl⟩
      have hdb : W1.heap[D]? = some (.cells #[.string s0, .slice b1 m1 p1, .slice b2 m2 p2, .int .i64 ln] 109 (0, 0)) := by rw [hW1, hD]; exact heap_alloc_new _ _
      obtain ⟨f0, f1, _⟩ := hbx2.cells
      have g0 := cells_at hdb 0
      have g1 := cells_at hdb 1
      have g2 := cells_at hdb 2
      simp only [List.getElem?_toArray, List.getElem?_cons_zero, List.getElem?_cons_succ] at g0 g1 g2
      have hP1 := HWs.out W1 hb1 s0 _ _ x.1.2.1 x.1.2.2.1 (stays_slice stays_spn _ _ _ _ r1 hb1) (stays_slice stays_set _ _ _ _ r2 hb1)
      rw [← hc] at hP1
      have Hno := Lib.hid hno; have Hb := Lib.hid hb; have Hbw := Lib.hid hbw; have Hbx1 := Lib.hid hbx1; have Hbad := Lib.hid hbad; have Hnx := Lib.hid hnx; have Hx := Lib.hid hx; have Hs0 := Lib.hid hs0; have Hln := Lib.hid hln; have Hc := Lib.hid hc; have Hrx := Lib.hid hrx; have Hlx := Lib.hid hlx; have Hr1 := Lib.hid r1; have Hr2 := Lib.hid r2; have Hbn := Lib.hid hbn; have Hb1 := Lib.hid hb1; have Hbr1 := Lib.hid hbr1; have Hbx2 := Lib.hid hbx2; have Hdb := Lib.hid hdb; have HP1 := Lib.hid hP1; clear hno hb hbw hbx1 hbad hnx hx hs0 hln hc hrx hlx r1 r2 hbn hb1 hbr1 hbx2 hdb hP1
      go_upto_region 8 with (fail)
      rw [← hW1, ← hD]
      have HW1 := Lib.hid hW1; have HD := Lib.hid hD; clear hW1 hD
      clear e0 e1 e2 e3
      go_wp2_with fail
      refine HP1.out.mono ?_
      rintro e w3 ⟨rfl, hbm⟩
      have hb2 := Hb1.out.trans (hbm.mono Hb1.out.size)
      have hbr2 := Hbr1.out.trans (hbm.mono Hbr1.out.size)
      have hbx3 := Hbx2.out.below hbm
      have d3 := cells_at (heap_below hbm Hdb.out) 3
      simp only [List.getElem?_toArray, List.getElem?_cons_zero, List.getElem?_cons_succ] at d3
      clear f0 f1 g0 g1 g2
      have Hbm := Lib.hid hbm; have Hb2 := Lib.hid hb2; have Hbr2 := Lib.hid hbr2; have Hbx3 := Lib.hid hbx3; clear hbm hb2 hbr2 hbx3
      by_cases hc0 : c = 0
      · have k7 : (c != 0) = false := by simp [hc0]
        have hnz := Hnx.out hc0
        have Hnz := Lib.hid hnz; clear hnz
        go_wp2_with fail
        go_roundw
        case rel => exact ⟨k + 1, by omega, by go_num, Hnz.out, Hbr2.out⟩
        case measure => simp [intOf]; omega
      · have k7 : (c != 0) = true := by simp [hc0]
        have hf : r = (c, ln) := by rw [Hrr2.out, Hbad.out hc0]; rfl
        have hres := Hbx3.out.res
        obtain ⟨y0, y1, y2, y3⟩ := prob_cells hres
        have Hres := Lib.hid hres; have Hf := Lib.hid hf; clear hres hf
        go_wp2_with fail
        (try simp only [Exit.inBlock, Exit.then])
        refine bodyPost_prob (g := nb + 1 + 1) rfl (by simp) (prob_set _ _ Hres.out) rfl ?_
        exact ⟨by rw [Hf.out], prob_bel _ _ Hb2.out (by have := Hnb0.out; omega)⟩
    · obtain rfl : m = k := by omega
      have hfir : firstBad (rootX l) rotLine rs = none := firstBad_none (fun j hj => hno j hj (by have := Hm.out; omega))
      have hf : r = (0, 0) := by rw [Hrr2.out, hfir]; rfl
      have hres := hbx1.res
      obtain ⟨y0, y1, y2, y3⟩ := prob_cells hres
      have Hno := Lib.hid hno; have Hb := Lib.hid hb; have Hbw := Lib.hid hbw; have Hfir := Lib.hid hfir; have Hf := Lib.hid hf; have Hres := Lib.hid hres; clear hno hb hbw hfir hf hres
      go_wp2_with fail
      (try simp only [Exit.inBlock, Exit.then])
      refine bodyPost_prob (g := nb + 1 + 1) rfl (by simp) (prob_set _ _ Hres.out) rfl ?_
      exact ⟨by rw [Hf.out], prob_bel _ _ Hbw.out (by have := Hnb0.out; omega)⟩
end Go.Proofs.Ytnelgellbabkoaa
