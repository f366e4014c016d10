/- The given statement, and what it needs. Texts merged: ChkW, ChkZ, ChkX, Cells, PrtL, PrtT, CheckPartsRow. Condition: none beyond what each says. -/
import Derived.Deep.RegionHeld3
import Derived.Test.YtnelgellbabkoaaRows
import Derived.OpenShut
import Derived.ShutString
import Derived.ChangeOld
import Derived.Test.YtnelgellbabkoaaCheckPartsAll1
import Derived.Test.YtnelgellbabkoaaCheckPartsAll2
import Derived.Test.YtnelgellbabkoaaCheckPartsAll3
import Derived.Test.YtnelgellbabkoaaCheckPartsAll4
import Derived.Test.YtnelgellbabkoaaCheckPartsAll5
/- The walk of check.Recipe: a recipe's first problem. Condition: few packages, few variants of few values. -/
namespace Go.Proofs.Ytnelgellbabkoaa
open Go.RowKit Go.Shelf
attribute [local go_sem ↓] Go.wp_at_zero Go.wp_at_succ

set_option maxRecDepth 10000 in
set_option maxHeartbeats 16000000 in
theorem rcp_any {w : World} {v u : Value} {l : List Pkg} {pf : List Prf} (h : RSlice 8 RPkg w [v] l) (hpf : RSlice 3 RPrf w [u] pf) (hl : l.length ≤ 1000000) (hsm : ∀ x ∈ l, PkgSmall x) : Calls Try.prog 35 #[.agg #[v, u]] w fun e w' => e = .returned (.agg #[.int .u8 (rcpOf l pf).1, .int .i64 (rcpOf l pf).2]) ∧ Below w.heap.size w w' := by
  have hP := fun (W : World) (hb : Below w.heap.size w W) (k : Nat) (hk : k < l.length) => pack_any (pw := u) (stays_slice stays_pkg _ _ _ _ h hb) hl hk (hsm _ (List.getElem_mem hk))
  have hR := fun (W : World) (hb : Below w.heap.size w W) (q0 q1 q2 q4 q7 u3 u5 u6 : Value) (x : Pkg) (h3 : RVars w [u3] x.2.2.2.1) (h5 : RSlice 7 RDpd w [u5] x.2.2.2.2.2.1) (h6 : RSlice 7 RDpd w [u6] x.2.2.2.2.2.2.1) => rules_any (q0 := q0) (q1 := q1) (q2 := q2) (q4 := q4) (q7 := q7) (pw := u) (stays_slice stays_pkg _ _ _ _ h hb) hl (stays_slice stays_var _ _ _ _ h3 hb) (stays_slice stays_dpd _ _ _ _ h5 hb) (stays_slice stays_dpd _ _ _ _ h6 hb) (rulesOf l x) rfl
  have hF := fun (W : World) (hb : Below w.heap.size w W) (k : Nat) (hk : k < pf.length) => prefer_any (stays_slice stays_pkg _ _ _ _ h hb) hl (stays_slice stays_prf _ _ _ _ hpf hb) hk
  obtain ⟨a, cap, rfl, hz, g⟩ := pkgs_open h
  obtain ⟨a2, cap2, rfl, hz2, _, g2⟩ := prfs_open3 hpf
  obtain ⟨n, hn⟩ : ∃ n, n = l.length := ⟨_, rfl⟩
  obtain ⟨n2, hn2⟩ : ∃ n, n = pf.length := ⟨_, rfl⟩
  obtain ⟨r, hr⟩ : ∃ r, r = rcpOf l pf := ⟨_, rfl⟩
  have hrr : r = if 24 < n then (1, lineAt l 24) else if 8 < n2 then (1, plineAt pf 8)
    else (firstI (packOf l) (lineAt l) n).getD ((firstBad (rul1 l) (rul2 l) l).getD ((firstI (prefX l pf) (plineAt pf) n2).getD (0, 0))) := by rw [hr, hn, hn2]; rfl
  rw [← hr]
  rw [← hn] at hz h hl hP hR hF
  rw [← hn2] at hz2 hpf hP hR hF
  rw [← hn, ← hn2]
  obtain ⟨nb, hnb⟩ : ∃ nb, nb = w.heap.size := ⟨_, rfl⟩
  obtain ⟨W0, hW0⟩ : ∃ W0, W0 = (w.alloc (.cells #[.slice a n cap, .slice a2 n2 cap2] 52)).alloc (.cells #[.int .u8 0, .int .i64 0] 55) := ⟨_, rfl⟩
  have hb0 : Below w.heap.size w W0 := by rw [hW0]; exact (below_alloc1 _ _).alloc (below_alloc1 _ _).size _
  have hbx : RcBox nb (.slice a n cap) (.slice a2 n2 cap2) W0 := by rw [hW0, hnb]; exact rcbox_new _ _ _
  obtain ⟨c0, c1⟩ := hbx.cells
  have nb0 : w.heap.size ≤ nb := by omega
  have Hh := Lib.hid h; have Hpf := Lib.hid hpf; have Hsm := Lib.hid hsm; have HP := Lib.hid hP; have HR := Lib.hid hR; have HF := Lib.hid hF; have Hg := Lib.hid g; have Hg2 := Lib.hid g2; have Hn := Lib.hid hn; have Hn2 := Lib.hid hn2; have Hr := Lib.hid hr; have Hrr := Lib.hid hrr; have Hb0 := Lib.hid hb0; have Hbx := Lib.hid hbx; have Hnb0 := Lib.hid nb0; clear h hpf hsm hP hR hF g g2 hn hn2 hr hrr hb0 hbx nb0
  go_enter Try.func35, Try.ntmps35
  go_upto_region 1 with (fail)
  rw [← hW0, ← hnb]
  have HW0 := Lib.hid hW0; have Hnb := Lib.hid hnb; clear hW0 hnb
  by_cases e1 : 24 < n
  · have k1 : decide ((24 : Int) < (n : Int)) = true := by simp; omega
    have hkl : 24 < l.length := by have := Hn.out; omega
    obtain ⟨b, off, u2, u3, u4, u5, u6, u7, rfl, hp⟩ := Hg.out 24 _ (List.getElem?_eq_getElem hkl)
    have hla : lineAt l 24 = l[24].2.1 := by unfold lineAt; rw [List.getElem?_eq_getElem hkl]
    obtain ⟨ln, hln⟩ : ∃ s, s = l[24].2.1 := ⟨_, rfl⟩
    have x1 := cell_later Hb0.out hp.c1
    rw [← hln] at x1
    have hf : r = (1, ln) := by rw [Hrr.out, if_pos e1, hla, hln]
    have k2 : (24 : Int) < (n : Int) := by omega
    simp only [Nat.reduceMul] at x1
    have Hp := Lib.hid hp; have Hln := Lib.hid hln; have Hla := Lib.hid hla; clear hp hln hla
    have hres := Hbx.out.res
    obtain ⟨y0, y1, y2, y3⟩ := prob_cells hres
    have Hres := Lib.hid hres; have Hf := Lib.hid hf; clear hres hf
    go_wp2_with fail
    (try simp only [Exit.inBlock, Exit.then])
    refine bodyPost_prob (g := nb + 1) rfl (by simp) (prob_set _ _ Hres.out) rfl ?_
    exact ⟨by rw [Hf.out], prob_bel _ _ Hb0.out (by have := Hnb0.out; omega)⟩
  have k1 : decide ((24 : Int) < (n : Int)) = false := by simp; omega
  have hrr2 := Hrr.out
  rw [if_neg e1] at hrr2
  by_cases e2 : 8 < n2
  · have k2 : decide ((8 : Int) < (n2 : Int)) = true := by simp; omega
    have hkl : 8 < pf.length := by have := Hn2.out; omega
    obtain ⟨b, off, u, rfl, _, _, x2, _⟩ := Hg2.out 8 _ (List.getElem?_eq_getElem hkl)
    have hla : plineAt pf 8 = pf[8].2.2.1 := by unfold plineAt; rw [List.getElem?_eq_getElem hkl]
    obtain ⟨ln, hln⟩ : ∃ s, s = pf[8].2.2.1 := ⟨_, rfl⟩
    rw [← hln] at x2
    have x2 := cell_later Hb0.out x2
    have hf : r = (1, ln) := by rw [hrr2, if_pos e2, hla, hln]
    have k3 : (8 : Int) < (n2 : Int) := by omega
    simp only [Nat.reduceMul] at x2
    have Hln := Lib.hid hln; have Hla := Lib.hid hla; have Hrr2 := Lib.hid hrr2; clear hln hla hrr2
    have hres := Hbx.out.res
    obtain ⟨y0, y1, y2, y3⟩ := prob_cells hres
    have Hres := Lib.hid hres; have Hf := Lib.hid hf; clear hres hf
    go_wp2_with fail
    (try simp only [Exit.inBlock, Exit.then])
    refine bodyPost_prob (g := nb + 1) rfl (by simp) (prob_set _ _ Hres.out) rfl ?_
    exact ⟨by rw [Hf.out], prob_bel _ _ Hb0.out (by have := Hnb0.out; omega)⟩
  have k2 : decide ((8 : Int) < (n2 : Int)) = false := by simp; omega
  rw [if_neg e2] at hrr2
  have Hrr2 := Lib.hid hrr2; clear hrr2
  go_wp2_with fail
  clear c0 c1 k1 k2
  go_loopw [34] (fun i wr => ∃ k : Nat, k ≤ n ∧ i = .int .i64 k ∧ (∀ j, j < k → packOf l j = 0) ∧ Below W0.heap.size W0 wr) (fun i _ => n - (intOf i).toNat)
  case atStart => exact ⟨0, Nat.zero_le _, rfl, fun _ h => by omega, Below.refl _ _⟩
  case round =>
    obtain ⟨k, hk, rfl, hno, hb⟩ := hrel
    have hbw := Hb0.out.trans (hb.mono Hb0.out.size)
    have hbx1 := Hbx.out.below hb
    obtain ⟨c0, c1⟩ := hbx1.cells
    by_cases hlt : k < n
    · have hkl : k < l.length := by have := Hn.out; omega
      obtain ⟨b, off, u2, u3, u4, u5, u6, u7, rfl, hp⟩ := Hg.out k _ (List.getElem?_eq_getElem hkl)
      have hbad := fun h => firstI_at (ln := lineAt l) hlt hno h
      have hnx : packOf l k = 0 → ∀ j, j < k + 1 → packOf l j = 0 := fun h j hj => by
        by_cases e : j = k
        · rw [e]; exact h
        · exact hno j (by omega)
      have hla : lineAt l k = l[k].2.1 := by unfold lineAt; rw [List.getElem?_eq_getElem hkl]
      obtain ⟨x, hx⟩ : ∃ y, y = l[k] := ⟨_, rfl⟩
      rw [← hx] at hp hla
      obtain ⟨b2, m2, p2, rfl⟩ := slice_any_shape hp.r2
      obtain ⟨b3, m3, p3, rfl⟩ := slice_any_shape hp.r3
      obtain ⟨b4, m4, p4, rfl⟩ := slice_any_shape hp.r4
      obtain ⟨b5, m5, p5, rfl⟩ := slice_any_shape hp.r5
      obtain ⟨b6, m6, p6, rfl⟩ := slice_any_shape hp.r6
      obtain ⟨b7, m7, p7, rfl⟩ := slice_any_shape hp.r7
      have e0 := cell_later hbw hp.c0
      have e1 := cell_later hbw hp.c1
      have e2 := cell_later hbw hp.c2
      have e3 := cell_later hbw hp.c3
      have e4 := cell_later hbw hp.c4
      have e5 := cell_later hbw hp.c5
      have e6 := cell_later hbw hp.c6
      have e7 := cell_later hbw hp.c7
      obtain ⟨s0, hs0⟩ : ∃ s, s = x.1 := ⟨_, rfl⟩
      obtain ⟨ln, hln⟩ : ∃ s, s = x.2.1 := ⟨_, rfl⟩
      rw [← hs0] at e0
      rw [← hln] at e1 hla
      obtain ⟨c, hc⟩ : ∃ c, c = packOf l k := ⟨_, rfl⟩
      rw [← hc] at hbad hnx
      have hPc := fun (W : World) (hb : Below w.heap.size w W) => HP.out W hb k hlt
      rw [← hc] at hPc
      have k5 : (0 : Int) ≤ (k : Int) := by omega
      have k6 : (k : Int) < (n : Int) := by omega
      obtain ⟨W1, hW1⟩ : ∃ W1, W1 = wr.alloc (.cells #[.string s0, .int .i64 ln, .slice b2 m2 p2, .slice b3 m3 p3, .slice b4 m4 p4, .slice b5 m5 p5, .slice b6 m6 p6, .slice b7 m7 p7] 68) := ⟨_, rfl⟩
      have hbn : Below wr.heap.size wr W1 := by rw [hW1]; exact below_alloc1 _ _
      have hb1 := hbw.trans (hbn.mono hbw.size)
      have hbr1 := hb.trans (hbn.mono hb.size)
      have hbx2 := hbx1.below hbn
      obtain ⟨D, hD⟩ : ∃ D, D = wr.heap.size := ⟨_, rfl⟩
      have hdb : W1.heap[D]? = some (.cells #[.string s0, .int .i64 ln, .slice b2 m2 p2, .slice b3 m3 p3, .slice b4 m4 p4, .slice b5 m5 p5, .slice b6 m6 p6, .slice b7 m7 p7] 68 (0, 0)) := by rw [hW1, hD]; exact heap_alloc_new _ _
      obtain ⟨f0, f1⟩ := hbx2.cells
      have hP1 := hPc W1 hb1
      have Hno := Lib.hid hno; have Hb := Lib.hid hb; have Hbw := Lib.hid hbw; have Hbx1 := Lib.hid hbx1; have Hp := Lib.hid hp; have Hbad := Lib.hid hbad; have Hnx := Lib.hid hnx; have Hla := Lib.hid hla; have Hx := Lib.hid hx; have Hs0 := Lib.hid hs0; have Hln := Lib.hid hln; have Hc := Lib.hid hc; have HPc := Lib.hid hPc; have Hbn := Lib.hid hbn; have Hb1 := Lib.hid hb1; have Hbr1 := Lib.hid hbr1; have Hbx2 := Lib.hid hbx2; have Hdb := Lib.hid hdb; have HP1 := Lib.hid hP1; clear hno hb hbw hbx1 hp hbad hnx hla hx hs0 hln hc hPc hbn hb1 hbr1 hbx2 hdb hP1
      go_upto_region 8 with (fail)
      rw [← hW1, ← hD]
      have HW1 := Lib.hid hW1; have HD := Lib.hid hD; clear hW1 hD
      clear e0 e1 e2 e3 e4 e5 e6 e7 c0 c1
      go_wp2_with fail
      refine HP1.out.mono ?_
      rintro e w3 ⟨rfl, hbm⟩
      have hb2 := Hb1.out.trans (hbm.mono Hb1.out.size)
      have hbr2 := Hbr1.out.trans (hbm.mono Hbr1.out.size)
      have hbx3 := Hbx2.out.below hbm
      have d1 := cells_at (heap_below hbm Hdb.out) 1
      simp only [List.getElem?_toArray, List.getElem?_cons_zero, List.getElem?_cons_succ] at d1
      clear f0 f1
      have Hbm := Lib.hid hbm; have Hb2 := Lib.hid hb2; have Hbr2 := Lib.hid hbr2; have Hbx3 := Lib.hid hbx3; clear hbm hb2 hbr2 hbx3
      by_cases hc0 : c = 0
      · have k7 : (c != 0) = false := by simp [hc0]
        have hnz := Hnx.out hc0
        have Hnz := Lib.hid hnz; clear hnz
        go_wp2_with fail
        go_roundw
        case rel => exact ⟨k + 1, by omega, by go_num, Hnz.out, Hbr2.out⟩
        case measure => simp [intOf]; omega
      · have k7 : (c != 0) = true := by simp [hc0]
        have hf : r = (c, ln) := by rw [Hrr2.out, Hbad.out hc0, Hla.out]; rfl
        have hres := Hbx3.out.res
        obtain ⟨y0, y1, y2, y3⟩ := prob_cells hres
        have Hres := Lib.hid hres; have Hf := Lib.hid hf; clear hres hf
        go_wp2_with fail
        (try simp only [Exit.inBlock, Exit.then])
        refine bodyPost_prob (g := nb + 1) rfl (by simp) (prob_set _ _ Hres.out) rfl ?_
        exact ⟨by rw [Hf.out], prob_bel _ _ Hb2.out (by have := Hnb0.out; omega)⟩
    · obtain rfl : n = k := by omega
      have hfir : firstI (packOf l) (lineAt l) n = none := firstI_none hno
      have hrr3 := Hrr2.out
      rw [hfir] at hrr3
      clear hfir
      have Hno := Lib.hid hno; have Hb := Lib.hid hb; have Hbw := Lib.hid hbw; have Hbx1 := Lib.hid hbx1; have Hrr3 := Lib.hid hrr3; clear hno hb hbw hbx1 hrr3
      go_wp2_with fail
      clear c0 c1
      go_loopw [52] (fun i wr => ∃ k : Nat, k ≤ n ∧ i = .int .i64 k ∧ (∀ j (hj : j < l.length), j < k → rul1 l l[j] = 0) ∧ Below W0.heap.size W0 wr) (fun i _ => n - (intOf i).toNat)
      case atStart => exact ⟨0, Nat.zero_le _, rfl, fun _ _ h => by omega, Hb.out⟩
      case round =>
        obtain ⟨k, hk, rfl, hno, hb⟩ := hrel
        have hbw := Hb0.out.trans (hb.mono Hb0.out.size)
        have hbx1 := Hbx.out.below hb
        obtain ⟨c0, c1⟩ := hbx1.cells
        by_cases hlt : k < n
        · have hkl : k < l.length := by have := Hn.out; omega
          obtain ⟨b, off, u2, u3, u4, u5, u6, u7, rfl, hp⟩ := Hg.out k _ (List.getElem?_eq_getElem hkl)
          have hbad := fun h => firstBad_at (ln := rul2 l) hkl hno h
          have hnx := fun (h : rul1 l l[k] = 0) => zero_succ (k := k) hno (fun _ => h)
          obtain ⟨x, hx⟩ : ∃ y, y = l[k] := ⟨_, rfl⟩
          rw [← hx] at hp hbad hnx
          have hRc := fun (W : World) (hb : Below w.heap.size w W) (q0 q1 : Value) => HR.out W hb q0 q1 u2 u4 u7 u3 u5 u6 x hp.r3 hp.r5 hp.r6
          obtain ⟨b2, m2, p2, rfl⟩ := slice_any_shape hp.r2
          obtain ⟨b3, m3, p3, rfl⟩ := slice_any_shape hp.r3
          obtain ⟨b4, m4, p4, rfl⟩ := slice_any_shape hp.r4
          obtain ⟨b5, m5, p5, rfl⟩ := slice_any_shape hp.r5
          obtain ⟨b6, m6, p6, rfl⟩ := slice_any_shape hp.r6
          obtain ⟨b7, m7, p7, rfl⟩ := slice_any_shape hp.r7
          have e0 := cell_later hbw hp.c0
          have e1 := cell_later hbw hp.c1
          have e2 := cell_later hbw hp.c2
          have e3 := cell_later hbw hp.c3
          have e4 := cell_later hbw hp.c4
          have e5 := cell_later hbw hp.c5
          have e6 := cell_later hbw hp.c6
          have e7 := cell_later hbw hp.c7
          obtain ⟨s0, hs0⟩ : ∃ s, s = x.1 := ⟨_, rfl⟩
          obtain ⟨x1, hx1⟩ : ∃ s, s = x.2.1 := ⟨_, rfl⟩
          rw [← hs0] at e0
          rw [← hx1] at e1
          obtain ⟨c, hc⟩ : ∃ c, c = rul1 l x := ⟨_, rfl⟩
          obtain ⟨ln, hln⟩ : ∃ c, c = rul2 l x := ⟨_, rfl⟩
          rw [← hc, ← hln] at hbad
          rw [← hc] at hnx
          have hRc := fun (W : World) (hb : Below w.heap.size w W) => hRc W hb (.string s0) (.int .i64 x1)
          rw [show (rulesOf l x).1 = c from hc.symm, show (rulesOf l x).2 = ln from hln.symm] at hRc
          have k5 : (0 : Int) ≤ (k : Int) := by omega
          have k6 : (k : Int) < (n : Int) := by omega
          obtain ⟨W1, hW1⟩ : ∃ W1, W1 = wr.alloc (.cells #[.string s0, .int .i64 x1, .slice b2 m2 p2, .slice b3 m3 p3, .slice b4 m4 p4, .slice b5 m5 p5, .slice b6 m6 p6, .slice b7 m7 p7] 68) := ⟨_, rfl⟩
          have hbn : Below wr.heap.size wr W1 := by rw [hW1]; exact below_alloc1 _ _
          have hb1 := hbw.trans (hbn.mono hbw.size)
          have hbr1 := hb.trans (hbn.mono hb.size)
          have hbx2 := hbx1.below hbn
          obtain ⟨D, hD⟩ : ∃ D, D = wr.heap.size := ⟨_, rfl⟩
          have hdb : W1.heap[D]? = some (.cells #[.string s0, .int .i64 x1, .slice b2 m2 p2, .slice b3 m3 p3, .slice b4 m4 p4, .slice b5 m5 p5, .slice b6 m6 p6, .slice b7 m7 p7] 68 (0, 0)) := by rw [hW1, hD]; exact heap_alloc_new _ _
          obtain ⟨f0, f1⟩ := hbx2.cells
          have g0 := cells_at hdb 0
          have g1 := cells_at hdb 1
          have g2 := cells_at hdb 2
          have g3 := cells_at hdb 3
          have g4 := cells_at hdb 4
          have g5 := cells_at hdb 5
          have g6 := cells_at hdb 6
          have g7 := cells_at hdb 7
          simp only [List.getElem?_toArray, List.getElem?_cons_zero, List.getElem?_cons_succ] at g0 g1 g2 g3 g4 g5 g6 g7
          have hP1 := hRc W1 hb1
          have Hno := Lib.hid hno; have Hb := Lib.hid hb; have Hbw := Lib.hid hbw; have Hbx1 := Lib.hid hbx1; have Hp := Lib.hid hp; have Hbad := Lib.hid hbad; have Hnx := Lib.hid hnx; have Hx := Lib.hid hx; have Hs0 := Lib.hid hs0; have Hln := Lib.hid hln; have Hc := Lib.hid hc; have Hx1 := Lib.hid hx1; have HRc := Lib.hid hRc; have Hbn := Lib.hid hbn; have Hb1 := Lib.hid hb1; have Hbr1 := Lib.hid hbr1; have Hbx2 := Lib.hid hbx2; have Hdb := Lib.hid hdb; have HP1 := Lib.hid hP1; clear hno hb hbw hbx1 hp hbad hnx hx hs0 hln hc hx1 hRc hbn hb1 hbr1 hbx2 hdb hP1
          go_upto_region 15 with (fail)
          rw [← hW1, ← hD]
          have HW1 := Lib.hid hW1; have HD := Lib.hid hD; clear hW1 hD
          clear e0 e1 e2 e3 e4 e5 e6 e7 c0 c1
          go_wp2_with fail
          refine HP1.out.mono ?_
          rintro e w3 ⟨rfl, hbm⟩
          have hb2 := Hb1.out.trans (hbm.mono Hb1.out.size)
          have hbr2 := Hbr1.out.trans (hbm.mono Hbr1.out.size)
          have hbx3 := Hbx2.out.below hbm
          clear f0 f1 g0 g1 g2 g3 g4 g5 g6 g7
          obtain ⟨W4, hW4⟩ : ∃ W, W = w3.alloc (.cells #[.int .u8 c, .int .i64 ln] 55) := ⟨_, rfl⟩
          have hbm2 : Below w3.heap.size w3 W4 := by rw [hW4]; exact below_alloc1 _ _
          have hb3 := hb2.trans (hbm2.mono hb2.size)
          have hbr3 := hbr2.trans (hbm2.mono hbr2.size)
          have hbx4 := hbx3.below hbm2
          obtain ⟨E, hE⟩ : ∃ D, D = w3.heap.size := ⟨_, rfl⟩
          have hpb : W4.heap[E]? = some (.cells #[.int .u8 c, .int .i64 ln] 55 (0, 0)) := by rw [hW4, hE]; exact heap_alloc_new _ _
          obtain ⟨t0, t1, _, _⟩ := prob_cells hpb
          have Hbm := Lib.hid hbm; have Hb2 := Lib.hid hb2; have Hbr2 := Lib.hid hbr2; have Hbx3 := Lib.hid hbx3; have Hbm2 := Lib.hid hbm2; have Hb3 := Lib.hid hb3; have Hbr3 := Lib.hid hbr3; have Hbx4 := Lib.hid hbx4; have Hpb := Lib.hid hpb; clear hbm hb2 hbr2 hbx3 hbm2 hb3 hbr3 hbx4 hpb
          go_upto_region 16 with (fail)
          rw [← hW4, ← hE]
          have HW4 := Lib.hid hW4; have HE := Lib.hid hE; clear hW4 hE
          by_cases hc0 : c = 0
          · have k7 : (c != 0) = false := by simp [hc0]
            have hnz := Hnx.out hc0
            have Hnz := Lib.hid hnz; clear hnz
            go_wp2_with fail
            go_roundw
            case rel => exact ⟨k + 1, by omega, by go_num, Hnz.out, Hbr3.out⟩
            case measure => simp [intOf]; omega
          · have k7 : (c != 0) = true := by simp [hc0]
            have hf : r = (c, ln) := by rw [Hrr3.out, Hbad.out hc0]; rfl
            have hres := Hbx4.out.res
            obtain ⟨y0, y1, y2, y3⟩ := prob_cells hres
            have Hres := Lib.hid hres; have Hf := Lib.hid hf; clear hres hf
            go_wp2_with fail
            (try simp only [Exit.inBlock, Exit.then])
            refine bodyPost_prob (g := nb + 1) rfl (by simp) (prob_set _ _ Hres.out) rfl ?_
            exact ⟨by rw [Hf.out], prob_bel _ _ Hb3.out (by have := Hnb0.out; omega)⟩
        · obtain rfl : n = k := by omega
          have hfir : firstBad (rul1 l) (rul2 l) l = none := firstBad_none (fun j hj => hno j hj (by have := Hn.out; omega))
          have hrr4 := Hrr3.out
          rw [hfir] at hrr4
          clear hfir
          have Hno := Lib.hid hno; have Hb := Lib.hid hb; have Hbw := Lib.hid hbw; have Hbx1 := Lib.hid hbx1; have Hrr4 := Lib.hid hrr4; clear hno hb hbw hbx1 hrr4
          go_wp2_with fail
          clear c0 c1
          go_loopw [67] (fun i wr => ∃ k : Nat, k ≤ n2 ∧ i = .int .i64 k ∧ (∀ j, j < k → prefX l pf j = 0) ∧ Below W0.heap.size W0 wr) (fun i _ => n2 - (intOf i).toNat)
          case atStart => exact ⟨0, Nat.zero_le _, rfl, fun _ h => by omega, Hb.out⟩
          case round =>
            obtain ⟨k, hk, rfl, hno, hb⟩ := hrel
            have hbw := Hb0.out.trans (hb.mono Hb0.out.size)
            have hbx1 := Hbx.out.below hb
            obtain ⟨c0, c1⟩ := hbx1.cells
            by_cases hlt : k < n2
            · have hkl : k < pf.length := by have := Hn2.out; omega
              obtain ⟨b, off, nv, rfl, e0, e1, e2, hnv⟩ := Hg2.out k _ (List.getElem?_eq_getElem hkl)
              have hbad := fun h => firstI_at (ln := plineAt pf) hlt hno h
              have hnx : prefX l pf k = 0 → ∀ j, j < k + 1 → prefX l pf j = 0 := fun h j hj => by
                by_cases e : j = k
                · rw [e]; exact h
                · exact hno j (by omega)
              have hla : plineAt pf k = pf[k].2.2.1 := by unfold plineAt; rw [List.getElem?_eq_getElem hkl]
              obtain ⟨s0, hs0⟩ : ∃ s, s = pf[k].1 := ⟨_, rfl⟩
              obtain ⟨ln, hln⟩ : ∃ s, s = pf[k].2.2.1 := ⟨_, rfl⟩
              rw [← hs0] at e0
              rw [← hln] at e2 hla
              obtain ⟨na, nn, nc, rfl⟩ := slice_any_shape hnv
              have e0 := cell_later hbw e0
              have e1 := cell_later hbw e1
              have e2 := cell_later hbw e2
              obtain ⟨c, hc⟩ : ∃ c, c = preferOf l pf k := ⟨_, rfl⟩
              have hpx : prefX l pf k = if c then 0 else 10 := by rw [hc]; rfl
              have hPc := fun (W : World) (hb : Below w.heap.size w W) => HF.out W hb k hlt
              rw [← hc] at hPc
              have k5 : (0 : Int) ≤ (k : Int) := by omega
              have k6 : (k : Int) < (n2 : Int) := by omega
              obtain ⟨W1, hW1⟩ : ∃ W1, W1 = wr.alloc (.cells #[.string s0, .slice na nn nc, .int .i64 ln] 98) := ⟨_, rfl⟩
              have hbn : Below wr.heap.size wr W1 := by rw [hW1]; exact below_alloc1 _ _
              have hb1 := hbw.trans (hbn.mono hbw.size)
              have hbr1 := hb.trans (hbn.mono hb.size)
              have hbx2 := hbx1.below hbn
              obtain ⟨D, hD⟩ : ∃ D, D = wr.heap.size := ⟨_, rfl⟩
              have hdb : W1.heap[D]? = some (.cells #[.string s0, .slice na nn nc, .int .i64 ln] 98 (0, 0)) := by rw [hW1, hD]; exact heap_alloc_new _ _
              obtain ⟨f0, f1⟩ := hbx2.cells
              have hP1 := hPc W1 hb1
              have Hno := Lib.hid hno; have Hb := Lib.hid hb; have Hbw := Lib.hid hbw; have Hbx1 := Lib.hid hbx1; have Hbad := Lib.hid hbad; have Hnx := Lib.hid hnx; have Hla := Lib.hid hla; have Hs0 := Lib.hid hs0; have Hln := Lib.hid hln; have Hc := Lib.hid hc; have HPc := Lib.hid hPc; have Hbn := Lib.hid hbn; have Hb1 := Lib.hid hb1; have Hbr1 := Lib.hid hbr1; have Hbx2 := Lib.hid hbx2; have Hdb := Lib.hid hdb; have HP1 := Lib.hid hP1; have Hnv := Lib.hid hnv; have Hpx := Lib.hid hpx; clear hno hb hbw hbx1 hbad hnx hla hs0 hln hc hPc hbn hb1 hbr1 hbx2 hdb hP1 hnv hpx
              go_upto_region 22 with (fail)
              rw [← hW1, ← hD]
              have HW1 := Lib.hid hW1; have HD := Lib.hid hD; clear hW1 hD
              clear e0 e1 e2 c0 c1
              go_wp2_with fail
              refine HP1.out.mono ?_
              rintro e w3 ⟨rfl, hbm⟩
              have hb2 := Hb1.out.trans (hbm.mono Hb1.out.size)
              have hbr2 := Hbr1.out.trans (hbm.mono Hbr1.out.size)
              have hbx3 := Hbx2.out.below hbm
              have d2 := cells_at (heap_below hbm Hdb.out) 2
              simp only [List.getElem?_toArray, List.getElem?_cons_zero, List.getElem?_cons_succ] at d2
              clear f0 f1
              have Hbm := Lib.hid hbm; have Hb2 := Lib.hid hb2; have Hbr2 := Lib.hid hbr2; have Hbx3 := Lib.hid hbx3; clear hbm hb2 hbr2 hbx3
              cases c with
              | true =>
                have hnz := Hnx.out (by rw [Hpx.out]; rfl)
                have Hnz := Lib.hid hnz; clear hnz
                go_wp2_with fail
                go_roundw
                case rel => exact ⟨k + 1, by omega, by go_num, Hnz.out, Hbr2.out⟩
                case measure => simp [intOf]; omega
              | false =>
                have hpv : prefX l pf k = 10 := by rw [Hpx.out]; rfl
                have hf : r = (10, ln) := by rw [Hrr4.out, Hbad.out (by rw [hpv]; decide), hpv, Hla.out]; rfl
                clear hpv
                have hres := Hbx3.out.res
                obtain ⟨y0, y1, y2, y3⟩ := prob_cells hres
                have Hres := Lib.hid hres; have Hf := Lib.hid hf; clear hres hf
                go_wp2_with fail
                (try simp only [Exit.inBlock, Exit.then])
                refine bodyPost_prob (g := nb + 1) rfl (by simp) (prob_set _ _ Hres.out) rfl ?_
                exact ⟨by rw [Hf.out], prob_bel _ _ Hb2.out (by have := Hnb0.out; omega)⟩
            · obtain rfl : n2 = k := by omega
              have hfir : firstI (prefX l pf) (plineAt pf) n2 = none := firstI_none hno
              have hf : r = (0, 0) := by rw [Hrr4.out, hfir]; rfl
              have Hno := Lib.hid hno; have Hb := Lib.hid hb; have Hbw := Lib.hid hbw; have Hfir := Lib.hid hfir; clear hno hb hbw hfir
              have hres := hbx1.res
              obtain ⟨y0, y1, y2, y3⟩ := prob_cells hres
              have Hres := Lib.hid hres; have Hf := Lib.hid hf; clear hres hf
              go_wp2_with fail
              (try simp only [Exit.inBlock, Exit.then])
              refine bodyPost_prob (g := nb + 1) rfl (by simp) (prob_set _ _ Hres.out) rfl ?_
              exact ⟨by rw [Hf.out], prob_bel _ _ Hbw.out (by have := Hnb0.out; omega)⟩
end Go.Proofs.Ytnelgellbabkoaa

/- The walk of cooperref09.Recipe: a recipe's first problem. Condition: few packages, few variants of few values. -/
namespace Go.Proofs.Ytnelgellbabkoaa
open Go.RowKit Go.Shelf
attribute [local go_sem ↓] Go.wp_at_zero Go.wp_at_succ

set_option maxRecDepth 10000 in
set_option maxHeartbeats 16000000 in
theorem rcpRef_any {w : World} {v u : Value} {l : List Pkg} {pf : List Prf} (h : RSlice 8 RPkg w [v] l) (hpf : RSlice 3 RPrf w [u] pf) (hl : l.length ≤ 1000000) (hsm : ∀ x ∈ l, PkgSmall x) : Calls Try.prog 36 #[.agg #[v, u]] w fun e w' => e = .returned (.agg #[.int .u8 (rcpOf l pf).1, .int .i64 (rcpOf l pf).2]) ∧ Below w.heap.size w w' := by
  have hP := fun (W : World) (hb : Below w.heap.size w W) (k : Nat) (hk : k < l.length) => alone_any (pw := u) (stays_slice stays_pkg _ _ _ _ h hb) hl hk (hsm _ (List.getElem_mem hk))
  have hR := fun (W : World) (hb : Below w.heap.size w W) (q0 q1 q2 q4 q7 u3 u5 u6 : Value) (x : Pkg) (h3 : RVars w [u3] x.2.2.2.1) (h5 : RSlice 7 RDpd w [u5] x.2.2.2.2.2.1) (h6 : RSlice 7 RDpd w [u6] x.2.2.2.2.2.2.1) => rulesRef_any (q0 := q0) (q1 := q1) (q2 := q2) (q4 := q4) (q7 := q7) (pw := u) (stays_slice stays_pkg _ _ _ _ h hb) hl (stays_slice stays_var _ _ _ _ h3 hb) (stays_slice stays_dpd _ _ _ _ h5 hb) (stays_slice stays_dpd _ _ _ _ h6 hb) (rulesOf l x) rfl
  have hF := fun (W : World) (hb : Below w.heap.size w W) (k : Nat) (hk : k < pf.length) => preferRef_any (stays_slice stays_pkg _ _ _ _ h hb) hl (stays_slice stays_prf _ _ _ _ hpf hb) hk
  obtain ⟨a, cap, rfl, hz, g⟩ := pkgs_open h
  obtain ⟨a2, cap2, rfl, hz2, _, g2⟩ := prfs_open3 hpf
  obtain ⟨n, hn⟩ : ∃ n, n = l.length := ⟨_, rfl⟩
  obtain ⟨n2, hn2⟩ : ∃ n, n = pf.length := ⟨_, rfl⟩
  obtain ⟨r, hr⟩ : ∃ r, r = rcpOf l pf := ⟨_, rfl⟩
  have hrr : r = if 24 < n then (1, lineAt l 24) else if 8 < n2 then (1, plineAt pf 8)
    else (firstI (packOf l) (lineAt l) n).getD ((firstBad (rul1 l) (rul2 l) l).getD ((firstI (prefX l pf) (plineAt pf) n2).getD (0, 0))) := by rw [hr, hn, hn2]; rfl
  rw [← hr]
  rw [← hn] at hz h hl hP hR hF
  rw [← hn2] at hz2 hpf hP hR hF
  rw [← hn, ← hn2]
  obtain ⟨nb, hnb⟩ : ∃ nb, nb = w.heap.size := ⟨_, rfl⟩
  obtain ⟨W0, hW0⟩ : ∃ W0, W0 = (w.alloc (.cells #[.slice a n cap, .slice a2 n2 cap2] 52)).alloc (.cells #[.int .u8 0, .int .i64 0] 55) := ⟨_, rfl⟩
  have hb0 : Below w.heap.size w W0 := by rw [hW0]; exact (below_alloc1 _ _).alloc (below_alloc1 _ _).size _
  have hbx : RcBox nb (.slice a n cap) (.slice a2 n2 cap2) W0 := by rw [hW0, hnb]; exact rcbox_new _ _ _
  obtain ⟨c0, c1⟩ := hbx.cells
  have nb0 : w.heap.size ≤ nb := by omega
  have Hh := Lib.hid h; have Hpf := Lib.hid hpf; have Hsm := Lib.hid hsm; have HP := Lib.hid hP; have HR := Lib.hid hR; have HF := Lib.hid hF; have Hg := Lib.hid g; have Hg2 := Lib.hid g2; have Hn := Lib.hid hn; have Hn2 := Lib.hid hn2; have Hr := Lib.hid hr; have Hrr := Lib.hid hrr; have Hb0 := Lib.hid hb0; have Hbx := Lib.hid hbx; have Hnb0 := Lib.hid nb0; clear h hpf hsm hP hR hF g g2 hn hn2 hr hrr hb0 hbx nb0
  go_enter Try.func36, Try.ntmps36
  go_upto_region 1 with (fail)
  rw [← hW0, ← hnb]
  have HW0 := Lib.hid hW0; have Hnb := Lib.hid hnb; clear hW0 hnb
  by_cases e1 : 24 < n
  · have k1 : decide ((24 : Int) < (n : Int)) = true := by simp; omega
    have hkl : 24 < l.length := by have := Hn.out; omega
    obtain ⟨b, off, u2, u3, u4, u5, u6, u7, rfl, hp⟩ := Hg.out 24 _ (List.getElem?_eq_getElem hkl)
    have hla : lineAt l 24 = l[24].2.1 := by unfold lineAt; rw [List.getElem?_eq_getElem hkl]
    obtain ⟨ln, hln⟩ : ∃ s, s = l[24].2.1 := ⟨_, rfl⟩
    have x1 := cell_later Hb0.out hp.c1
    rw [← hln] at x1
    have hf : r = (1, ln) := by rw [Hrr.out, if_pos e1, hla, hln]
    have k2 : (24 : Int) < (n : Int) := by omega
    simp only [Nat.reduceMul] at x1
    have Hp := Lib.hid hp; have Hln := Lib.hid hln; have Hla := Lib.hid hla; clear hp hln hla
    have hres := Hbx.out.res
    obtain ⟨y0, y1, y2, y3⟩ := prob_cells hres
    have Hres := Lib.hid hres; have Hf := Lib.hid hf; clear hres hf
    go_wp2_with fail
    (try simp only [Exit.inBlock, Exit.then])
    refine bodyPost_prob (g := nb + 1) rfl (by simp) (prob_set _ _ Hres.out) rfl ?_
    exact ⟨by rw [Hf.out], prob_bel _ _ Hb0.out (by have := Hnb0.out; omega)⟩
  have k1 : decide ((24 : Int) < (n : Int)) = false := by simp; omega
  have hrr2 := Hrr.out
  rw [if_neg e1] at hrr2
  by_cases e2 : 8 < n2
  · have k2 : decide ((8 : Int) < (n2 : Int)) = true := by simp; omega
    have hkl : 8 < pf.length := by have := Hn2.out; omega
    obtain ⟨b, off, u, rfl, _, _, x2, _⟩ := Hg2.out 8 _ (List.getElem?_eq_getElem hkl)
    have hla : plineAt pf 8 = pf[8].2.2.1 := by unfold plineAt; rw [List.getElem?_eq_getElem hkl]
    obtain ⟨ln, hln⟩ : ∃ s, s = pf[8].2.2.1 := ⟨_, rfl⟩
    rw [← hln] at x2
    have x2 := cell_later Hb0.out x2
    have hf : r = (1, ln) := by rw [hrr2, if_pos e2, hla, hln]
    have k3 : (8 : Int) < (n2 : Int) := by omega
    simp only [Nat.reduceMul] at x2
    have Hln := Lib.hid hln; have Hla := Lib.hid hla; have Hrr2 := Lib.hid hrr2; clear hln hla hrr2
    have hres := Hbx.out.res
    obtain ⟨y0, y1, y2, y3⟩ := prob_cells hres
    have Hres := Lib.hid hres; have Hf := Lib.hid hf; clear hres hf
    go_wp2_with fail
    (try simp only [Exit.inBlock, Exit.then])
    refine bodyPost_prob (g := nb + 1) rfl (by simp) (prob_set _ _ Hres.out) rfl ?_
    exact ⟨by rw [Hf.out], prob_bel _ _ Hb0.out (by have := Hnb0.out; omega)⟩
  have k2 : decide ((8 : Int) < (n2 : Int)) = false := by simp; omega
  rw [if_neg e2] at hrr2
  have Hrr2 := Lib.hid hrr2; clear hrr2
  go_wp2_with fail
  clear c0 c1 k1 k2
  go_loopw [31] (fun i wr => ∃ k : Nat, k ≤ n ∧ i = .int .i64 k ∧ (∀ j, j < k → packOf l j = 0) ∧ Below W0.heap.size W0 wr) (fun i _ => n - (intOf i).toNat)
  case atStart => exact ⟨0, Nat.zero_le _, rfl, fun _ h => by omega, Below.refl _ _⟩
  case round =>
    obtain ⟨k, hk, rfl, hno, hb⟩ := hrel
    have hbw := Hb0.out.trans (hb.mono Hb0.out.size)
    have hbx1 := Hbx.out.below hb
    obtain ⟨c0, c1⟩ := hbx1.cells
    by_cases hlt : k < n
    · have hkl : k < l.length := by have := Hn.out; omega
      obtain ⟨b, off, u2, u3, u4, u5, u6, u7, rfl, hp⟩ := Hg.out k _ (List.getElem?_eq_getElem hkl)
      have hbad := fun h => firstI_at (ln := lineAt l) hlt hno h
      have hnx : packOf l k = 0 → ∀ j, j < k + 1 → packOf l j = 0 := fun h j hj => by
        by_cases e : j = k
        · rw [e]; exact h
        · exact hno j (by omega)
      have hla : lineAt l k = l[k].2.1 := by unfold lineAt; rw [List.getElem?_eq_getElem hkl]
      obtain ⟨x, hx⟩ : ∃ y, y = l[k] := ⟨_, rfl⟩
      rw [← hx] at hp hla
      obtain ⟨b2, m2, p2, rfl⟩ := slice_any_shape hp.r2
      obtain ⟨b3, m3, p3, rfl⟩ := slice_any_shape hp.r3
      obtain ⟨b4, m4, p4, rfl⟩ := slice_any_shape hp.r4
      obtain ⟨b5, m5, p5, rfl⟩ := slice_any_shape hp.r5
      obtain ⟨b6, m6, p6, rfl⟩ := slice_any_shape hp.r6
      obtain ⟨b7, m7, p7, rfl⟩ := slice_any_shape hp.r7
      have e0 := cell_later hbw hp.c0
      have e1 := cell_later hbw hp.c1
      have e2 := cell_later hbw hp.c2
      have e3 := cell_later hbw hp.c3
      have e4 := cell_later hbw hp.c4
      have e5 := cell_later hbw hp.c5
      have e6 := cell_later hbw hp.c6
      have e7 := cell_later hbw hp.c7
      obtain ⟨s0, hs0⟩ : ∃ s, s = x.1 := ⟨_, rfl⟩
      obtain ⟨ln, hln⟩ : ∃ s, s = x.2.1 := ⟨_, rfl⟩
      rw [← hs0] at e0
      rw [← hln] at e1 hla
      obtain ⟨c, hc⟩ : ∃ c, c = packOf l k := ⟨_, rfl⟩
      rw [← hc] at hbad hnx
      have hPc := fun (W : World) (hb : Below w.heap.size w W) => HP.out W hb k hlt
      rw [← hc] at hPc
      have k5 : (0 : Int) ≤ (k : Int) := by omega
      have k6 : (k : Int) < (n : Int) := by omega
      have hP1 := hPc wr hbw
      have Hno := Lib.hid hno; have Hb := Lib.hid hb; have Hbw := Lib.hid hbw; have Hbx1 := Lib.hid hbx1; have Hp := Lib.hid hp; have Hbad := Lib.hid hbad; have Hnx := Lib.hid hnx; have Hla := Lib.hid hla; have Hx := Lib.hid hx; have Hs0 := Lib.hid hs0; have Hln := Lib.hid hln; have Hc := Lib.hid hc; have HPc := Lib.hid hPc; have HP1 := Lib.hid hP1; clear hno hb hbw hbx1 hp hbad hnx hla hx hs0 hln hc hPc hP1
      go_wp2_with fail
      refine HP1.out.mono ?_
      rintro e w3 ⟨rfl, hbm⟩
      have hb2 := Hbw.out.trans (hbm.mono Hbw.out.size)
      have hbr2 := Hb.out.trans (hbm.mono Hb.out.size)
      have hbx3 := Hbx1.out.below hbm
      have d1 := cell_later hbm e1
      clear c0 c1 e0 e1 e2 e3 e4 e5 e6 e7
      obtain ⟨c0, c1⟩ := hbx3.cells
      have Hbm := Lib.hid hbm; have Hb2 := Lib.hid hb2; have Hbr2 := Lib.hid hbr2; have Hbx3 := Lib.hid hbx3; clear hbm hb2 hbr2 hbx3
      by_cases hc0 : c = 0
      · have k7 : (c != 0) = false := by simp [hc0]
        have hnz := Hnx.out hc0
        have Hnz := Lib.hid hnz; clear hnz
        go_wp2_with fail
        go_roundw
        case rel => exact ⟨k + 1, by omega, by go_num, Hnz.out, Hbr2.out⟩
        case measure => simp [intOf]; omega
      · have k7 : (c != 0) = true := by simp [hc0]
        have hf : r = (c, ln) := by rw [Hrr2.out, Hbad.out hc0, Hla.out]; rfl
        have hres := Hbx3.out.res
        obtain ⟨y0, y1, y2, y3⟩ := prob_cells hres
        have Hres := Lib.hid hres; have Hf := Lib.hid hf; clear hres hf
        go_wp2_with fail
        (try simp only [Exit.inBlock, Exit.then])
        refine bodyPost_prob (g := nb + 1) rfl (by simp) (prob_set _ _ Hres.out) rfl ?_
        exact ⟨by rw [Hf.out], prob_bel _ _ Hb2.out (by have := Hnb0.out; omega)⟩
    · obtain rfl : n = k := by omega
      have hfir : firstI (packOf l) (lineAt l) n = none := firstI_none hno
      have hrr3 := Hrr2.out
      rw [hfir] at hrr3
      clear hfir
      have Hno := Lib.hid hno; have Hb := Lib.hid hb; have Hbw := Lib.hid hbw; have Hbx1 := Lib.hid hbx1; have Hrr3 := Lib.hid hrr3; clear hno hb hbw hbx1 hrr3
      go_wp2_with fail
      clear c0 c1
      go_loopw [51] (fun i wr => ∃ k : Nat, k ≤ n ∧ i = .int .i64 k ∧ (∀ j (hj : j < l.length), j < k → rul1 l l[j] = 0) ∧ Below W0.heap.size W0 wr) (fun i _ => n - (intOf i).toNat)
      case atStart => exact ⟨0, Nat.zero_le _, rfl, fun _ _ h => by omega, Hb.out⟩
      case round =>
        obtain ⟨k, hk, rfl, hno, hb⟩ := hrel
        have hbw := Hb0.out.trans (hb.mono Hb0.out.size)
        have hbx1 := Hbx.out.below hb
        obtain ⟨c0, c1⟩ := hbx1.cells
        by_cases hlt : k < n
        · have hkl : k < l.length := by have := Hn.out; omega
          obtain ⟨b, off, u2, u3, u4, u5, u6, u7, rfl, hp⟩ := Hg.out k _ (List.getElem?_eq_getElem hkl)
          have hbad := fun h => firstBad_at (ln := rul2 l) hkl hno h
          have hnx := fun (h : rul1 l l[k] = 0) => zero_succ (k := k) hno (fun _ => h)
          obtain ⟨x, hx⟩ : ∃ y, y = l[k] := ⟨_, rfl⟩
          rw [← hx] at hp hbad hnx
          have hRc := fun (W : World) (hb : Below w.heap.size w W) (q0 q1 : Value) => HR.out W hb q0 q1 u2 u4 u7 u3 u5 u6 x hp.r3 hp.r5 hp.r6
          obtain ⟨b2, m2, p2, rfl⟩ := slice_any_shape hp.r2
          obtain ⟨b3, m3, p3, rfl⟩ := slice_any_shape hp.r3
          obtain ⟨b4, m4, p4, rfl⟩ := slice_any_shape hp.r4
          obtain ⟨b5, m5, p5, rfl⟩ := slice_any_shape hp.r5
          obtain ⟨b6, m6, p6, rfl⟩ := slice_any_shape hp.r6
          obtain ⟨b7, m7, p7, rfl⟩ := slice_any_shape hp.r7
          have e0 := cell_later hbw hp.c0
          have e1 := cell_later hbw hp.c1
          have e2 := cell_later hbw hp.c2
          have e3 := cell_later hbw hp.c3
          have e4 := cell_later hbw hp.c4
          have e5 := cell_later hbw hp.c5
          have e6 := cell_later hbw hp.c6
          have e7 := cell_later hbw hp.c7
          obtain ⟨s0, hs0⟩ : ∃ s, s = x.1 := ⟨_, rfl⟩
          obtain ⟨x1, hx1⟩ : ∃ s, s = x.2.1 := ⟨_, rfl⟩
          rw [← hs0] at e0
          rw [← hx1] at e1
          obtain ⟨c, hc⟩ : ∃ c, c = rul1 l x := ⟨_, rfl⟩
          obtain ⟨ln, hln⟩ : ∃ c, c = rul2 l x := ⟨_, rfl⟩
          rw [← hc, ← hln] at hbad
          rw [← hc] at hnx
          have hRc := fun (W : World) (hb : Below w.heap.size w W) => hRc W hb (.string s0) (.int .i64 x1)
          rw [show (rulesOf l x).1 = c from hc.symm, show (rulesOf l x).2 = ln from hln.symm] at hRc
          have k5 : (0 : Int) ≤ (k : Int) := by omega
          have k6 : (k : Int) < (n : Int) := by omega
          have hbz := bel_drewN hbw 1
          have hbr := bel_drewN hb 1
          have hcz : (wr.drewN 1).cell? ⟨nb, 0, none⟩ = some (.slice (some ⟨b, off, none⟩) n cap) ∧ (wr.drewN 1).cell? ⟨nb, 1, none⟩ = some (.slice a2 n2 cap2) ∧ (wr.drewN 1).cell? ⟨b, off + k * 8, none⟩ = some (.string s0) ∧ (wr.drewN 1).cell? ⟨b, off + k * 8 + 1, none⟩ = some (.int .i64 x1) ∧ (wr.drewN 1).cell? ⟨b, off + k * 8 + 2, none⟩ = some (.slice b2 m2 p2) ∧ (wr.drewN 1).cell? ⟨b, off + k * 8 + 3, none⟩ = some (.slice b3 m3 p3) ∧ (wr.drewN 1).cell? ⟨b, off + k * 8 + 4, none⟩ = some (.slice b4 m4 p4) ∧ (wr.drewN 1).cell? ⟨b, off + k * 8 + 5, none⟩ = some (.slice b5 m5 p5) ∧ (wr.drewN 1).cell? ⟨b, off + k * 8 + 6, none⟩ = some (.slice b6 m6 p6) ∧ (wr.drewN 1).cell? ⟨b, off + k * 8 + 7, none⟩ = some (.slice b7 m7 p7) := ⟨by simpa using c0, by simpa using c1, by simpa using e0, by simpa using e1, by simpa using e2, by simpa using e3, by simpa using e4, by simpa using e5, by simpa using e6, by simpa using e7⟩
          have hbxz := hbx1.below (bel_drewN (Below.refl wr.heap.size wr) 1)
          have Hno := Lib.hid hno; have Hb := Lib.hid hb; have Hbw := Lib.hid hbw; have Hbx1 := Lib.hid hbx1; have Hp := Lib.hid hp; have Hbad := Lib.hid hbad; have Hnx := Lib.hid hnx; have Hx := Lib.hid hx; have Hs0 := Lib.hid hs0; have Hln := Lib.hid hln; have Hc := Lib.hid hc; have Hx1 := Lib.hid hx1; have HRc := Lib.hid hRc; clear hno hb hbw hbx1 hp hbad hnx hx hs0 hln hc hx1 hRc
          go_wp2_with fail
          go_region_held3? (fun w' => w'.cell? ⟨nb, 0, none⟩ = some (.slice (some ⟨b, off, none⟩) n cap) ∧ w'.cell? ⟨nb, 1, none⟩ = some (.slice a2 n2 cap2) ∧ w'.cell? ⟨b, off + k * 8, none⟩ = some (.string s0) ∧ w'.cell? ⟨b, off + k * 8 + 1, none⟩ = some (.int .i64 x1) ∧ w'.cell? ⟨b, off + k * 8 + 2, none⟩ = some (.slice b2 m2 p2) ∧ w'.cell? ⟨b, off + k * 8 + 3, none⟩ = some (.slice b3 m3 p3) ∧ w'.cell? ⟨b, off + k * 8 + 4, none⟩ = some (.slice b4 m4 p4) ∧ w'.cell? ⟨b, off + k * 8 + 5, none⟩ = some (.slice b5 m5 p5) ∧ w'.cell? ⟨b, off + k * 8 + 6, none⟩ = some (.slice b6 m6 p6) ∧ w'.cell? ⟨b, off + k * 8 + 7, none⟩ = some (.slice b7 m7 p7)) (first | exact hcz | exact cz10_later hbA hcz | exact cz10_later (below_alloc1 _ _) hcz | exact cz10_later hbB2 hcz | exact cz10_later (prob_bel _ _ hbB2 (by simp)) hcz | exact cz10_later (hbA.alloc hbA.size _) hcz | go_keep) (first | (go_at_call 85; refine (HRc.out _ (by exact hbz)).mono ?_; rintro e wA ⟨rfl, hbA⟩; have ord1 : True := trivial; have hbz2 := hbz.trans (hbA.mono hbz.size); have hbr2 := hbr.trans (hbA.mono hbr.size); have hbxz2 := hbxz.below hbA) | (go_at_call 85; refine (HRc.out _ (by exact hbz.alloc hbz.size _)).mono ?_; rintro e wA ⟨rfl, hbA⟩; have ord2 : True := trivial; have hbz2 := (hbz.alloc hbz.size _).trans (hbA.mono (hbz.alloc hbz.size _).size); have hbr2 := (hbr.alloc hbr.size _).trans (hbA.mono (hbr.alloc hbr.size _).size); have hbB2 := (below_alloc1 (wr.drewN 1) (.cells #[.int .u8 0, .int .i64 0] 55)).trans (hbA.mono (below_alloc1 (wr.drewN 1) (.cells #[.int .u8 0, .int .i64 0] 55)).size); have hpz := heap_below hbA (heap_new_at (n := wr.heap.size) (by simp)); obtain ⟨y0, y1, y2, y3⟩ := prob_cells hpz))
          all_goals (first
            | (have := ord1
               obtain ⟨W4, hW4⟩ : ∃ W, W = wA.alloc (.cells #[.int .u8 c, .int .i64 ln] 55) := ⟨_, rfl⟩
               have hbm2 : Below wA.heap.size wA W4 := by rw [hW4]; exact below_alloc1 _ _
               have hb3 := hbz2.trans (hbm2.mono hbz2.size)
               have hbr3 := hbr2.trans (hbm2.mono hbr2.size)
               have hbx4 := hbxz2.below hbm2
               obtain ⟨E, hE⟩ : ∃ D, D = wA.heap.size := ⟨_, rfl⟩
               have hpb : W4.heap[E]? = some (.cells #[.int .u8 c, .int .i64 ln] 55 (0, 0)) := by rw [hW4, hE]; exact heap_alloc_new _ _
               rw [← hW4, ← hE])
            | (have := ord2
               obtain ⟨W4, hW4⟩ : ∃ W, W = (wA.setCell ⟨wr.heap.size, 0, none⟩ (.int .u8 c)).setCell ⟨wr.heap.size, 1, none⟩ (.int .i64 ln) := ⟨_, rfl⟩
               have hb3 : Below w.heap.size w W4 := by rw [hW4]; exact prob_bel _ _ hbz2 Hbw.out.size
               have hbr3 : Below W0.heap.size W0 W4 := by rw [hW4]; exact prob_bel _ _ hbr2 Hb.out.size
               have hbx4 : RcBox nb (.slice (some ⟨b, off, none⟩) n cap) (.slice a2 n2 cap2) W4 := by rw [hW4]; exact hbxz.below (prob_bel _ _ hbB2 (by simp))
               obtain ⟨E, hE⟩ : ∃ D, D = wr.heap.size := ⟨_, rfl⟩
               have hpb : W4.heap[E]? = some (.cells #[.int .u8 c, .int .i64 ln] 55 (0, 0)) := by rw [hW4, hE]; exact prob_set _ _ hpz
               have hbm2 : True := trivial
               rw [← hW4, ← hE]))
          all_goals
            clear c0 c1 e0 e1 e2 e3 e4 e5 e6 e7 hcz
            obtain ⟨t0, t1, _, _⟩ := prob_cells hpb
            obtain ⟨c0, c1⟩ := hbx4.cells
            have Hb3 := Lib.hid hb3; have Hbr3 := Lib.hid hbr3; have Hbx4 := Lib.hid hbx4; have Hpb := Lib.hid hpb; have Hbm2 := Lib.hid hbm2; have HW4 := Lib.hid hW4; have HE := Lib.hid hE; have Hbz := Lib.hid hbz; have Hbr := Lib.hid hbr; have Hbxz := Lib.hid hbxz; have HbA := Lib.hid hbA; have Hbz2 := Lib.hid hbz2; have Hbr2 := Lib.hid hbr2; clear hb3 hbr3 hbx4 hpb hbm2 hW4 hE hbz hbr hbxz hbA hbz2 hbr2
            by_cases hc0 : c = 0
            · have k7 : (c != 0) = false := by simp [hc0]
              have hnz := Hnx.out hc0
              have Hnz := Lib.hid hnz; clear hnz
              go_wp2_with fail
              go_roundw
              case rel => exact ⟨k + 1, by omega, by go_num, Hnz.out, Hbr3.out⟩
              case measure => simp [intOf]; omega
            · have k7 : (c != 0) = true := by simp [hc0]
              have hf : r = (c, ln) := by rw [Hrr3.out, Hbad.out hc0]; rfl
              have hres := Hbx4.out.res
              obtain ⟨y0, y1, y2, y3⟩ := prob_cells hres
              have Hres := Lib.hid hres; have Hf := Lib.hid hf; clear hres hf
              go_wp2_with fail
              (try simp only [Exit.inBlock, Exit.then])
              refine bodyPost_prob (g := nb + 1) rfl (by simp) (prob_set _ _ Hres.out) rfl ?_
              exact ⟨by rw [Hf.out], prob_bel _ _ Hb3.out (by have := Hnb0.out; omega)⟩
        · obtain rfl : n = k := by omega
          have hfir : firstBad (rul1 l) (rul2 l) l = none := firstBad_none (fun j hj => hno j hj (by have := Hn.out; omega))
          have hrr4 := Hrr3.out
          rw [hfir] at hrr4
          clear hfir
          have Hno := Lib.hid hno; have Hb := Lib.hid hb; have Hbw := Lib.hid hbw; have Hbx1 := Lib.hid hbx1; have Hrr4 := Lib.hid hrr4; clear hno hb hbw hbx1 hrr4
          go_wp2_with fail
          clear c0 c1
          go_loopw [69] (fun i wr => ∃ k : Nat, k ≤ n2 ∧ i = .int .i64 k ∧ (∀ j, j < k → prefX l pf j = 0) ∧ Below W0.heap.size W0 wr) (fun i _ => n2 - (intOf i).toNat)
          case atStart => exact ⟨0, Nat.zero_le _, rfl, fun _ h => by omega, Hb.out⟩
          case round =>
            obtain ⟨k, hk, rfl, hno, hb⟩ := hrel
            have hbw := Hb0.out.trans (hb.mono Hb0.out.size)
            have hbx1 := Hbx.out.below hb
            obtain ⟨c0, c1⟩ := hbx1.cells
            by_cases hlt : k < n2
            · have hkl : k < pf.length := by have := Hn2.out; omega
              obtain ⟨b, off, nv, rfl, e0, e1, e2, hnv⟩ := Hg2.out k _ (List.getElem?_eq_getElem hkl)
              have hbad := fun h => firstI_at (ln := plineAt pf) hlt hno h
              have hnx : prefX l pf k = 0 → ∀ j, j < k + 1 → prefX l pf j = 0 := fun h j hj => by
                by_cases e : j = k
                · rw [e]; exact h
                · exact hno j (by omega)
              have hla : plineAt pf k = pf[k].2.2.1 := by unfold plineAt; rw [List.getElem?_eq_getElem hkl]
              obtain ⟨s0, hs0⟩ : ∃ s, s = pf[k].1 := ⟨_, rfl⟩
              obtain ⟨ln, hln⟩ : ∃ s, s = pf[k].2.2.1 := ⟨_, rfl⟩
              rw [← hs0] at e0
              rw [← hln] at e2 hla
              obtain ⟨na, nn, nc, rfl⟩ := slice_any_shape hnv
              have e0 := cell_later hbw e0
              have e1 := cell_later hbw e1
              have e2 := cell_later hbw e2
              obtain ⟨c, hc⟩ : ∃ c, c = preferOf l pf k := ⟨_, rfl⟩
              have hpx : prefX l pf k = if c then 0 else 10 := by rw [hc]; rfl
              have hPc := fun (W : World) (hb : Below w.heap.size w W) => HF.out W hb k hlt
              rw [← hc] at hPc
              have k5 : (0 : Int) ≤ (k : Int) := by omega
              have k6 : (k : Int) < (n2 : Int) := by omega
              have hP1 := hPc wr hbw
              have Hno := Lib.hid hno; have Hb := Lib.hid hb; have Hbw := Lib.hid hbw; have Hbx1 := Lib.hid hbx1; have Hbad := Lib.hid hbad; have Hnx := Lib.hid hnx; have Hla := Lib.hid hla; have Hs0 := Lib.hid hs0; have Hln := Lib.hid hln; have Hc := Lib.hid hc; have HPc := Lib.hid hPc; have HP1 := Lib.hid hP1; have Hnv := Lib.hid hnv; have Hpx := Lib.hid hpx; clear hno hb hbw hbx1 hbad hnx hla hs0 hln hc hPc hP1 hnv hpx
              go_wp2_with fail
              refine HP1.out.mono ?_
              rintro e w3 ⟨rfl, hbm⟩
              have hb2 := Hbw.out.trans (hbm.mono Hbw.out.size)
              have hbr2 := Hb.out.trans (hbm.mono Hb.out.size)
              have hbx3 := Hbx1.out.below hbm
              have d2 := cell_later hbm e2
              clear c0 c1 e0 e1 e2
              obtain ⟨c0, c1⟩ := hbx3.cells
              have Hbm := Lib.hid hbm; have Hb2 := Lib.hid hb2; have Hbr2 := Lib.hid hbr2; have Hbx3 := Lib.hid hbx3; clear hbm hb2 hbr2 hbx3
              cases c with
              | true =>
                have hnz := Hnx.out (by rw [Hpx.out]; rfl)
                have Hnz := Lib.hid hnz; clear hnz
                go_wp2_with fail
                go_roundw
                case rel => exact ⟨k + 1, by omega, by go_num, Hnz.out, Hbr2.out⟩
                case measure => simp [intOf]; omega
              | false =>
                have hpv : prefX l pf k = 10 := by rw [Hpx.out]; rfl
                have hf : r = (10, ln) := by rw [Hrr4.out, Hbad.out (by rw [hpv]; decide), hpv, Hla.out]; rfl
                clear hpv
                have hres := Hbx3.out.res
                obtain ⟨y0, y1, y2, y3⟩ := prob_cells hres
                have Hres := Lib.hid hres; have Hf := Lib.hid hf; clear hres hf
                go_wp2_with fail
                (try simp only [Exit.inBlock, Exit.then])
                refine bodyPost_prob (g := nb + 1) rfl (by simp) (prob_set _ _ Hres.out) rfl ?_
                exact ⟨by rw [Hf.out], prob_bel _ _ Hb2.out (by have := Hnb0.out; omega)⟩
            · obtain rfl : n2 = k := by omega
              have hfir : firstI (prefX l pf) (plineAt pf) n2 = none := firstI_none hno
              have hf : r = (0, 0) := by rw [Hrr4.out, hfir]; rfl
              have Hno := Lib.hid hno; have Hb := Lib.hid hb; have Hbw := Lib.hid hbw; have Hfir := Lib.hid hfir; clear hno hb hbw hfir
              have hres := hbx1.res
              obtain ⟨y0, y1, y2, y3⟩ := prob_cells hres
              have Hres := Lib.hid hres; have Hf := Lib.hid hf; clear hres hf
              go_wp2_with fail
              (try simp only [Exit.inBlock, Exit.then])
              refine bodyPost_prob (g := nb + 1) rfl (by simp) (prob_set _ _ Hres.out) rfl ?_
              exact ⟨by rw [Hf.out], prob_bel _ _ Hbw.out (by have := Hnb0.out; omega)⟩
end Go.Proofs.Ytnelgellbabkoaa

/- The walk of cooperlaw09.fixed: a package without releases. No condition. -/
namespace Go.Proofs.Ytnelgellbabkoaa
open Go.RowKit Go.Shelf
attribute [local go_sem ↓] Go.wp_at_zero Go.wp_at_succ

theorem prob_eqs (a b c d : Int) (W : World) : (binOp .eql 55 (.agg #[.int .u8 a, .int .i64 b]) (.agg #[.int .u8 c, .int .i64 d])).run Try.prog W = .ok (.bool (decide (a = c) && decide (b = d))) W := by
  have u9 := Try.underlying5
  have u3 := Try.underlying3
  have hS : Try.prog.underlying 55 = some (.struct (Try.prog.fieldsOf 55)) := by kernel_rfl
  have hp : Try.prog.stoodInHeld 55 = false := by kernel_rfl
  rw [run_eql_struct, show (10000 : Nat) = 9999 + 1 from rfl, run_equalIn_agg W 9999 55 _ _ hS hp]
  simp only [Program.fieldsOf, Try.underlying55]
  go_simp
  by_cases h1 : a = c <;> by_cases h2 : b = d <;> simp [h1, h2]
theorem rcp_cells {w : World} {cs : List Value} {x : Rcp} (h : RRcp w cs x) : ∃ v u, cs = [v, u] ∧ RSlice 8 RPkg w [v] x.1 ∧ RSlice 3 RPrf w [u] x.2.1 := by
  obtain ⟨a0, t0, rfl, l0, h0, a1, t1, rfl, l1, h1, h2⟩ := h
  obtain rfl : t1 = [] := h2
  match a0, l0, a1, l1 with
  | [v], _, [u], _ => exact ⟨v, u, rfl, h0, h1⟩
theorem rcp_arg {w : World} {cs : Array Value} {x : Rcp} (h : RRcp w cs.toList x) : ∃ v u, cs = #[v, u] ∧ RSlice 8 RPkg w [v] x.1 ∧ RSlice 3 RPrf w [u] x.2.1 := by
  obtain ⟨v, u, hc, h1, h2⟩ := rcp_cells h
  exact ⟨v, u, by rw [← Array.toArray_toList (xs := cs), hc], h1, h2⟩
def ex09 : Pkg := (⟨#[97]⟩, 3, [], [], [], [], [], [], ())
theorem nil_reads {α : Type} {sz : Nat} (R : Rd α) (w : World) : RSlice sz R w [.slice none 0 0] [] := ⟨none, 0, rfl, Nat.le_refl _, by decide, fun i x hi => by simp at hi⟩
theorem ex09_reads (w : World) : RSlice 8 RPkg (w.alloc (.cells #[.string ⟨#[97]⟩, .int .i64 3, .slice none 0 0, .slice none 0 0, .slice none 0 0, .slice none 0 0, .slice none 0 0, .slice none 0 0] 68)) [.slice (some ⟨w.heap.size, 0, none⟩) 1 1] [ex09] := by
  refine ⟨_, _, rfl, Nat.le_refl _, (by decide : 1 ≤ maxLen), fun i x hi => ?_⟩
  match i, hi with
  | 0, hi =>
    simp at hi; subst hi
    refine ⟨w.heap.size, 0, [.string ⟨#[97]⟩, .int .i64 3, .slice none 0 0, .slice none 0 0, .slice none 0 0, .slice none 0 0, .slice none 0 0, .slice none 0 0], rfl, rfl, fun j u hj => ?_, _, _, rfl, rfl, ⟨rfl, by decide⟩, _, _, rfl, rfl, ⟨rfl, by decide⟩, [_], _, rfl, rfl, nil_reads _ _, [_], _, rfl, rfl, nil_reads _ _, [_], _, rfl, rfl, nil_reads _ _, [_], _, rfl, rfl, nil_reads _ _, [_], _, rfl, rfl, nil_reads _ _, [_], [], rfl, rfl, nil_reads _ _, rfl⟩
    have := cells_at (heap_alloc_new w (.cells #[.string ⟨#[97]⟩, .int .i64 3, .slice none 0 0, .slice none 0 0, .slice none 0 0, .slice none 0 0, .slice none 0 0, .slice none 0 0] 68)) j
    rw [show 0 + 0 * 8 + j = j by omega, this]; simpa using hj
set_option maxRecDepth 10000 in
set_option maxHeartbeats 1000000 in
theorem fixed09 (w : World) : Calls Try.prog 34 #[] w fun e w' => e = .returned (.bool true) ∧ Below w.heap.size w w' := by
  obtain ⟨W1, hW1⟩ : ∃ W1, W1 = w.alloc (.cells #[.string ⟨#[97]⟩, .int .i64 3, .slice none 0 0, .slice none 0 0, .slice none 0 0, .slice none 0 0, .slice none 0 0, .slice none 0 0] 68) := ⟨_, rfl⟩
  have hb1 : Below w.heap.size w W1 := by rw [hW1]; exact below_alloc1 _ _
  have hr := ex09_reads w
  rw [← hW1] at hr
  have hC := rcp_any (pf := []) hr (nil_reads RPrf W1) (by decide) (fun x hx => by simp at hx; subst hx; exact ⟨by decide, fun v hv => by simp [ex09] at hv⟩)
  have hE : rcpOf [ex09] [] = (4, 3) := by decide +kernel
  rw [hE] at hC
  have q1 := prob_eqs 4 3 4 3
  simp only [decide_true, Bool.and_true] at q1
  obtain ⟨nb, hnb⟩ : ∃ nb, nb = w.heap.size := ⟨_, rfl⟩
  rw [← hnb] at hC
  have Hb1 := Lib.hid hb1; have Hr := Lib.hid hr; have HC := Lib.hid hC; have HE := Lib.hid hE; clear hb1 hr hC hE
  go_enter Try.func34, Try.ntmps34
  go_wp2_with fail
  rw [← hW1, ← hnb]
  have HW1 := Lib.hid hW1; have Hnb := Lib.hid hnb; clear hW1 hnb
  refine HC.out.mono ?_
  rintro e w2 ⟨rfl, hb2⟩
  have hb3 := Hb1.out.trans (hb2.mono Hb1.out.size)
  have Hb2 := Lib.hid hb2; have Hb3 := Lib.hid hb3; clear hb2 hb3
  go_wp2_with fail
  go_ret
  exact ⟨rfl, Hb3.out⟩
end Go.Proofs.Ytnelgellbabkoaa

/- A slice's elements as lists of cells, and a row of such lists read as a slice. No condition. -/
namespace Go.Proofs.Ytnelgellbabkoaa
open Go.RowKit

theorem flat_len' {k : Nat} : ∀ {css : List (List Value)}, (∀ cs ∈ css, cs.length = k) → css.flatten.length = css.length * k
  | [], _ => by simp
  | c :: css, h => by
    rw [List.flatten_cons, List.length_append, flat_len' (fun x hx => h x (by simp [hx])), h c (by simp), List.length_cons, Nat.succ_mul]; omega
theorem flat_get' {k : Nat} : ∀ {css : List (List Value)}, (∀ cs ∈ css, cs.length = k) → ∀ (i : Nat) (h : i < css.length) (j : Nat), j < k → css.flatten[i * k + j]? = css[i][j]?
  | [], _, i, h, _, _ => by simp at h
  | c :: css, hk, 0, _, j, hj => by
    rw [List.flatten_cons, Nat.zero_mul, Nat.zero_add, List.getElem?_append_left (by rw [hk c (by simp)]; exact hj)]; rfl
  | c :: css, hk, i + 1, h, j, hj => by
    have hc := hk c (by simp)
    rw [List.flatten_cons, List.getElem?_append_right (by rw [hc, Nat.succ_mul]; omega), hc, show (i + 1) * k + j - k = i * k + j by rw [Nat.succ_mul]; omega]
    rw [flat_get' (fun x hx => hk x (by simp [hx])) i (by simpa using h) j hj]; rfl
theorem flat_set' {k : Nat} {css : List (List Value)} (hk : ∀ cs ∈ css, cs.length = k) {i : Nat} (hi : i < css.length) {j : Nat} (hj : j < k) (u : Value) : css.flatten.set (i * k + j) u = (css.set i (css[i].set j u)).flatten := by
  have hk2 : ∀ cs ∈ css.set i (css[i].set j u), cs.length = k := fun cs hcs => by
    rcases List.mem_or_eq_of_mem_set hcs with h | h
    · exact hk cs h
    · rw [h, List.length_set]; exact hk _ (List.getElem_mem hi)
  have hkpos : 0 < k := by omega
  refine List.ext_getElem? fun t => ?_
  by_cases ht : t < css.length * k
  · have hq : t / k < css.length := Nat.div_lt_of_lt_mul (by rw [Nat.mul_comm]; exact ht)
    have hr : t % k < k := Nat.mod_lt _ hkpos
    have et : t / k * k + t % k = t := by rw [Nat.mul_comm]; exact Nat.div_add_mod t k
    have e1 := flat_get' hk (t / k) hq (t % k) hr
    have e2 := flat_get' hk2 (t / k) (by rw [List.length_set]; exact hq) (t % k) hr
    rw [et] at e1 e2
    rw [e2, List.getElem?_set]
    by_cases e : i * k + j = t
    · have hti : t / k = i := by rw [← e, Nat.mul_comm, Nat.mul_add_div hkpos, Nat.div_eq_of_lt hj, Nat.add_zero]
      have htj : t % k = j := by rw [← e, Nat.mul_comm, Nat.mul_add_mod, Nat.mod_eq_of_lt hj]
      rw [if_pos e, if_pos (by rw [flat_len' hk, e]; exact ht)]
      simp only [hti, htj]
      rw [List.getElem_set_self, List.getElem?_set_self (by rw [hk _ (List.getElem_mem hi)]; exact hj)]
    · rw [if_neg e, e1]
      by_cases hti : i = t / k
      · subst hti
        rw [List.getElem_set_self, List.getElem?_set_ne (fun h => e (by rw [h, et]))]
      · rw [List.getElem_set_ne hti]
  · have l1 : (css.flatten.set (i * k + j) u).length ≤ t := by rw [List.length_set, flat_len' hk]; omega
    have l2 : (css.set i (css[i].set j u)).flatten.length ≤ t := by rw [flat_len' hk2, List.length_set]; omega
    rw [List.getElem?_eq_none l1, List.getElem?_eq_none l2]
/-- a slice's elements, as lists of cells -/
structure Cells {α : Type} (R : Rd α) (sz : Nat) (w : World) (a : Option Addr) (css : List (List Value)) (l : List α) : Prop where
  len : css.length = l.length
  sz : ∀ cs ∈ css, cs.length = sz
  rd : ∀ (i : Nat) cs x, css[i]? = some cs → l[i]? = some x → R w cs x
  at' : ∀ (j : Nat) u, css.flatten[j]? = some u → ∃ b off, a = some ⟨b, off, none⟩ ∧ w.cell? ⟨b, off + j, none⟩ = some u
theorem slice_cells {α : Type} {sz : Nat} {R : Rd α} {w : World} {a : Option Addr} {n cap : Nat} {l : List α} (hsz : 0 < sz) (h : RSlice sz R w [.slice a n cap] l) : ∃ css, Cells R sz w a css l := by
  obtain ⟨a', cap', hv, hcap, hmax, hel⟩ := h
  simp only [List.cons.injEq, and_true, Value.slice.injEq] at hv
  obtain ⟨rfl, rfl, rfl⟩ := hv
  have hex : ∀ i : Fin l.length, ∃ ecs : List Value, ecs.length = sz ∧ (∀ (j : Nat) u, ecs[j]? = some u → ∃ b off, a = some ⟨b, off, none⟩ ∧ w.cell? ⟨b, off + (i.1 * sz + j), none⟩ = some u) ∧ R w ecs l[i.1] := fun i => by
    obtain ⟨b, off, ecs, h1, h2, h3, h4⟩ := hel i.1 _ (List.getElem?_eq_getElem i.2)
    exact ⟨ecs, h2, fun j u hu => ⟨b, off, h1, by rw [← Nat.add_assoc]; exact h3 j u hu⟩, h4⟩
  have hk : ∀ cs ∈ List.ofFn fun i => Classical.choose (hex i), cs.length = sz := fun cs hcs => by
    obtain ⟨i, rfl⟩ := List.mem_ofFn.1 hcs
    exact (Classical.choose_spec (hex i)).1
  refine ⟨List.ofFn fun i => Classical.choose (hex i), by simp, hk, fun i cs x hcs hx => ?_, fun t u hu => ?_⟩
  · have hi := (List.getElem?_eq_some_iff.1 hx).1
    have hlx := (List.getElem?_eq_some_iff.1 hx).2
    rw [List.getElem?_eq_getElem (by simpa using hi), List.getElem_ofFn] at hcs
    cases hcs
    have := (Classical.choose_spec (hex ⟨i, hi⟩)).2.2
    rw [← hlx]; exact this
  · have ht := (List.getElem?_eq_some_iff.1 hu).1
    rw [flat_len' hk, List.length_ofFn] at ht
    have hq : t / sz < l.length := Nat.div_lt_of_lt_mul (by rw [Nat.mul_comm]; exact ht)
    have hr : t % sz < sz := Nat.mod_lt _ hsz
    have et : t / sz * sz + t % sz = t := by rw [Nat.mul_comm]; exact Nat.div_add_mod t sz
    have e1 := flat_get' hk (t / sz) (by simpa using hq) (t % sz) hr
    rw [et, hu, List.getElem_ofFn] at e1
    obtain ⟨b, off, h1, h2⟩ := (Classical.choose_spec (hex ⟨t / sz, hq⟩)).2.1 (t % sz) u e1.symm
    exact ⟨b, off, h1, by simpa [et] using h2⟩
theorem slice_of_cells {α : Type} {sz : Nat} {R : Rd α} {w : World} {B : Nat} {e : TypeId} {v : Value} {css : List (List Value)} {l : List α} (hsz : 0 < sz) (hlen : css.length = l.length) (hk : ∀ cs ∈ css, cs.length = sz) (h : w.ownsRow B e sz v l.length css.flatten) (hr : ∀ (i : Nat) cs x, css[i]? = some cs → l[i]? = some x → R w cs x) : RSlice sz R w [v] l := by
  obtain ⟨a, cap, rfl, h1, h2, h3⟩ := Sl.of_owns h
  refine ⟨a, cap, rfl, h1, h2, fun i x hi => ?_⟩
  have hil := (List.getElem?_eq_some_iff.1 hi).1
  have hic : i < css.length := by omega
  have hcl := hk _ (List.getElem_mem hic)
  have hc : ∀ c, c < sz → ∀ u, css[i][c]? = some u → ∃ b off, a = some ⟨b, off, none⟩ ∧ w.cell? ⟨b, off + (i * sz + c), none⟩ = some u := fun c hc u hu => h3 (i * sz + c) u (by rw [flat_get' hk i hic c hc]; exact hu)
  obtain ⟨b, off, ha, _⟩ := hc 0 hsz (css[i][0]'(by omega)) (List.getElem?_eq_getElem (by omega))
  refine ⟨b, off, css[i], ha, hcl, fun j u hu => ?_, hr i _ x (List.getElem?_eq_getElem hic) hi⟩
  have hj := (List.getElem?_eq_some_iff.1 hu).1
  obtain ⟨b', off', ha', h5⟩ := hc j (by omega) u hu
  rw [ha] at ha'
  cases ha'
  rw [Nat.add_assoc]; exact h5
end Go.Proofs.Ytnelgellbabkoaa

/- The walk of cooperlaw09.CheckParts: it returns true. No condition. -/
namespace Go.Proofs.Ytnelgellbabkoaa
open Go.RowKit Go.Shelf
attribute [local go_sem ↓] Go.wp_at_zero Go.wp_at_succ

theorem prob_neqs (a b c d : Int) (W : World) : (binOp .neq 55 (.agg #[.int .u8 a, .int .i64 b]) (.agg #[.int .u8 c, .int .i64 d])).run Try.prog W = .ok (.bool (!(decide (a = c) && decide (b = d)))) W := by
  have u9 := Try.underlying5
  have u3 := Try.underlying3
  have hS : Try.prog.underlying 55 = some (.struct (Try.prog.fieldsOf 55)) := by kernel_rfl
  have hp : Try.prog.stoodInHeld 55 = false := by kernel_rfl
  rw [run_neq_struct, show (10000 : Nat) = 9999 + 1 from rfl, run_equalIn_agg W 9999 55 _ _ hS hp]
  simp only [Program.fieldsOf, Try.underlying55]
  go_simp
  by_cases h1 : a = c <;> by_cases h2 : b = d <;> simp [h1, h2]
theorem elem_pkg : Elem Try.prog 49 68 (.agg #[.string ⟨#[]⟩, .int .i64 0, .slice none 0 0, .slice none 0 0, .slice none 0 0, .slice none 0 0, .slice none 0 0, .slice none 0 0]) 8 168 := ⟨Try.underlying49, by kernel_rfl, rfl, by decide⟩
theorem elem_rot : Elem Try.prog 60 109 (.agg #[.string ⟨#[]⟩, .slice none 0 0, .slice none 0 0, .int .i64 0]) 4 72 := ⟨Try.underlying60, by kernel_rfl, rfl, by decide⟩
theorem slice_one {α : Type} {sz : Nat} {R : Rd α} {w : World} {v : Value} {l : List α} (h : RSlice sz R w [v] l) : v.oneCell' = true := by
  obtain ⟨a, n, c, rfl⟩ := slice_any_shape h
  rfl
theorem pkg_ones {w : World} {cs : List Value} {x : Pkg} (h : RPkg w cs x) : ∀ u ∈ cs, u.oneCell' = true := by
  obtain ⟨u2, u3, u4, u5, u6, u7, rfl, _, h2, h3, h4, h5, h6, h7⟩ := pkg_cells h
  intro u hu
  simp only [List.mem_cons, List.not_mem_nil, or_false] at hu
  rcases hu with rfl | rfl | rfl | rfl | rfl | rfl | rfl | rfl
  · rfl
  · rfl
  · exact slice_one h2
  · exact slice_one h3
  · exact slice_one h4
  · exact slice_one h5
  · exact slice_one h6
  · exact slice_one h7
theorem rot_ones {w : World} {cs : List Value} {x : Rot} (h : RRot w cs x) : ∀ u ∈ cs, u.oneCell' = true := by
  obtain ⟨u1, u2, rfl, h1, h2⟩ := rot_cells h
  intro u hu
  simp only [List.mem_cons, List.not_mem_nil, or_false] at hu
  rcases hu with rfl | rfl | rfl | rfl
  · rfl
  · exact slice_one h1
  · exact slice_one h2
  · rfl
theorem Cells.ones {α : Type} {R : Rd α} {sz : Nat} {w : World} {a : Option Addr} {css : List (List Value)} {l : List α} (h : Cells R sz w a css l) (h1 : ∀ cs x, R w cs x → ∀ u ∈ cs, u.oneCell' = true) : ∀ u ∈ css.flatten, u.oneCell' = true := fun u hu => by
  obtain ⟨cs, hcs, hu⟩ := List.mem_flatten.1 hu
  obtain ⟨i, hi, e⟩ := List.mem_iff_getElem.1 hcs
  have hil : i < l.length := by rw [← h.len]; exact hi
  exact h1 cs l[i] (h.rd i cs _ (by rw [List.getElem?_eq_getElem hi, e]) (List.getElem?_eq_getElem hil)) u hu
theorem Cells.later {α : Type} {R : Rd α} (hR : Stays R) {sz : Nat} {w w' : World} {a : Option Addr} {css : List (List Value)} {l : List α} (h : Cells R sz w a css l) (hb : Below w.heap.size w w') : Cells R sz w' a css l :=
  ⟨h.len, h.sz, fun i cs x h1 h2 => hR _ _ _ _ (h.rd i cs x h1 h2) hb, fun j u hu => by
    obtain ⟨b, off, h1, h2⟩ := h.at' j u hu
    exact ⟨b, off, h1, cell_later hb h2⟩⟩
/-- a package's cells without conflicts and files -/
theorem pkg_cut {w : World} {cs : List Value} {x : Pkg} (h : RPkg w cs x) : RPkg w ((cs.set 6 (.slice none 0 0)).set 7 (.slice none 0 0)) (cutPkg x) := by
  obtain ⟨a0, t0, rfl, l0, h0, a1, t1, rfl, l1, h1, a2, t2, rfl, l2, h2, a3, t3, rfl, l3, h3, a4, t4, rfl, l4, h4, a5, t5, rfl, l5, h5, a6, t6, rfl, l6, h6, a7, t7, rfl, l7, h7, h8⟩ := h
  obtain rfl : t7 = [] := h8
  match a0, l0, a1, l1, a2, l2, a3, l3, a4, l4, a5, l5, a6, l6, a7, l7 with
  | [u0], _, [u1], _, [u2], _, [u3], _, [u4], _, [u5], _, [u6], _, [u7], _ =>
    exact ⟨[u0], _, rfl, rfl, h0, [u1], _, rfl, rfl, h1, [u2], _, rfl, rfl, h2, [u3], _, rfl, rfl, h3, [u4], _, rfl, rfl, h4, [u5], _, rfl, rfl, h5, [_], _, rfl, rfl, nil_reads _ _, [_], [], rfl, rfl, nil_reads _ _, rfl⟩
theorem flat_take {k : Nat} : ∀ {css : List (List Value)}, (∀ cs ∈ css, cs.length = k) → ∀ p, (css.take p).flatten = css.flatten.take (p * k)
  | [], _, p => by simp
  | c :: css, h, 0 => by simp
  | c :: css, h, p + 1 => by
    have hc := h c (by simp)
    have h1 : c.length ≤ (p + 1) * k := by rw [hc, Nat.succ_mul]; omega
    have h2 : (p + 1) * k - c.length = p * k := by rw [hc, Nat.succ_mul]; omega
    rw [List.take_succ_cons, List.flatten_cons, List.flatten_cons, flat_take (fun x hx => h x (by simp [hx])) p, List.take_append, List.take_of_length_le h1, h2]
theorem flat_drop {k : Nat} : ∀ {css : List (List Value)}, (∀ cs ∈ css, cs.length = k) → ∀ p, (css.drop p).flatten = css.flatten.drop (p * k)
  | [], _, p => by simp
  | c :: css, h, 0 => by simp
  | c :: css, h, p + 1 => by
    have hc := h c (by simp)
    have h1 : c.length ≤ (p + 1) * k := by rw [hc, Nat.succ_mul]; omega
    have h2 : (p + 1) * k - c.length = p * k := by rw [hc, Nat.succ_mul]; omega
    rw [List.drop_succ_cons, List.flatten_cons, flat_drop (fun x hx => h x (by simp [hx])) p, List.drop_append, List.drop_of_length_le h1, h2, List.nil_append]
theorem rows_less {α : Type} {R : Rd α} {sz : Nat} {w : World} {a : Option Addr} {css : List (List Value)} {l : List α} (hc : Cells R sz w a css l) (p q i : Nat) (cs : List Value) (x : α) (hcs : (css.take p ++ css.drop q)[i]? = some cs) (hx : (l.take p ++ l.drop q)[i]? = some x) : R w cs x := by
  have hl := hc.len
  by_cases hi : i < (css.take p).length
  · have hi2 : i < (l.take p).length := by rw [List.length_take] at hi ⊢; omega
    have hip : i < p := by rw [List.length_take] at hi; omega
    rw [List.getElem?_append_left hi, List.getElem?_take, if_pos hip] at hcs
    rw [List.getElem?_append_left hi2, List.getElem?_take, if_pos hip] at hx
    exact hc.rd i cs x hcs hx
  · have hi2 : ¬ i < (l.take p).length := by rw [List.length_take] at hi ⊢; omega
    have e : (css.take p).length = (l.take p).length := by rw [List.length_take, List.length_take, hl]
    rw [List.getElem?_append_right (by omega), List.getElem?_drop] at hcs
    rw [List.getElem?_append_right (by omega), List.getElem?_drop, ← e] at hx
    exact hc.rd _ cs x hcs hx
/-- a row of packages, one of which is cut -/
theorem row_cut {W : World} {B g cap n : Nat} {css : List (List Value)} {k : Nat} (hsz : ∀ cs ∈ css, cs.length = 8) (hk : k < css.length) (ho : W.ownsRow B 68 8 (.slice (some ⟨g, 0, none⟩) n cap) n css.flatten) :
    ((W.setCell ⟨g, k * 8 + 6, none⟩ (.slice none 0 0)).setCell ⟨g, k * 8 + 7, none⟩ (.slice none 0 0)).ownsRow B 68 8 (.slice (some ⟨g, 0, none⟩) n cap) n (css.set k ((css[k].set 6 (.slice none 0 0)).set 7 (.slice none 0 0))).flatten := by
  have s1 := (ho.stored (k * 8 + 6) (.slice none 0 0)).1
  rw [flat_set' hsz hk (by omega)] at s1
  have hk2 : ∀ cs ∈ css.set k (css[k].set 6 (.slice none 0 0)), cs.length = 8 := fun cs hcs => by
    rcases List.mem_or_eq_of_mem_set hcs with h | h
    · exact hsz cs h
    · rw [h, List.length_set]; exact hsz _ (List.getElem_mem hk)
  have s2 := (s1.stored (k * 8 + 7) (.slice none 0 0)).1
  rw [flat_set' hk2 (by rw [List.length_set]; exact hk) (by omega)] at s2
  simpa using s2
/-- the packages, one of which is cut, are read of the row -/
theorem rows_cut {w : World} {a : Option Addr} {css : List (List Value)} {l : List Pkg} {k : Nat} (hc : Cells RPkg 8 w a css l) (hk : k < css.length) (hkl : k < l.length) (i : Nat) (cs : List Value) (x : Pkg) (hcs : (css.set k ((css[k].set 6 (.slice none 0 0)).set 7 (.slice none 0 0)))[i]? = some cs) (hx : (l.set k (cutPkg l[k]))[i]? = some x) : RPkg w cs x := by
  by_cases e : k = i
  · subst e
    rw [List.getElem?_set_self hk] at hcs
    rw [List.getElem?_set_self hkl] at hx
    cases hcs; cases hx
    exact pkg_cut (hc.rd k _ _ (List.getElem?_eq_getElem hk) (List.getElem?_eq_getElem hkl))
  · rw [List.getElem?_set_ne e] at hcs hx
    exact hc.rd i cs x hcs hx
end Go.Proofs.Ytnelgellbabkoaa

/- The walk of cooperlaw09.CheckParts: it returns true. No condition. -/
namespace Go.Proofs.Ytnelgellbabkoaa
open Go.RowKit Go.Shelf
attribute [local go_sem ↓] Go.wp_at_zero Go.wp_at_succ

structure PtBox (B : Nat) (v u q : Value) (w : World) : Prop where
  r : w.heap[B]? = some (.cells #[v, u] 52 (0, 0))
  q : w.heap[B + 1]? = some (.cells #[q] 62 (0, 0))
theorem PtBox.below {B : Nat} {v u q : Value} {w w' : World} (h : PtBox B v u q w) (hb : Below w.heap.size w w') : PtBox B v u q w' := ⟨heap_below hb h.r, heap_below hb h.q⟩
theorem ptbox_new (w : World) (v u q : Value) : PtBox w.heap.size v u q ((w.alloc (.cells #[v, u] 52)).alloc (.cells #[q] 62)) :=
  ⟨heap_below (below_alloc1 _ _) (heap_alloc_new _ _), heap_new_at (by simp)⟩
theorem PtBox.cells {B : Nat} {v u q : Value} {w : World} (h : PtBox B v u q w) : w.cell? ⟨B, 0, none⟩ = some v ∧ w.cell? ⟨B, 1, none⟩ = some u ∧ w.cell? ⟨B + 1, 0, none⟩ = some q := by
  have a0 := cells_at h.r 0
  have a1 := cells_at h.r 1
  have b0 := cells_at h.q 0
  simp only [List.getElem?_toArray, List.getElem?_cons_zero, List.getElem?_cons_succ] at a0 a1 b0
  exact ⟨a0, a1, b0⟩
theorem slice_cap {α : Type} {sz : Nat} {R : Rd α} {w : World} {a : Option Addr} {n cap : Nat} {l : List α} (h : RSlice sz R w [.slice a n cap] l) : l.length ≤ cap := by
  obtain ⟨a', cap', hv, hcap, _⟩ := h
  simp only [List.cons.injEq, and_true, Value.slice.injEq] at hv
  obtain ⟨_, _, rfl⟩ := hv
  exact hcap
set_option maxRecDepth 10000 in
set_option maxHeartbeats 16000000 in
theorem checkParts_true {w : World} {v u q : Value} {l : List Pkg} {pf : List Prf} {rs : List Rot} (x : Int) (hx0 : 0 ≤ x) (hx1 : x ≤ 255) (h : RSlice 8 RPkg w [v] l) (hpf : RSlice 3 RPrf w [u] pf) (hq : RSlice 4 RRot w [q] rs) : Calls Try.prog 11 #[.agg #[v, u], .agg #[q], .int .u8 x] w fun e w' => e = .returned (.bool true) ∧ Below w.heap.size w w' := by
  have hF := fun W => fixed09 W
  have hG := fun (W : World) (hb : Below w.heap.size w W) => greatRcp_any (stays_slice stays_pkg _ _ _ _ h hb) (stays_slice stays_prf _ _ _ _ hpf hb)
  have hGq := fun (W : World) (hb : Below w.heap.size w W) => greatReq_any (stays_slice stays_rot _ _ _ _ hq hb)
  have hC := fun (W : World) (hb : Below w.heap.size w W) (hl : l.length ≤ 1000000) (hs : ∀ x ∈ l, PkgSmall x) => rcp_any (stays_slice stays_pkg _ _ _ _ h hb) (stays_slice stays_prf _ _ _ _ hpf hb) hl hs
  have hQ := fun (W : World) (hb : Below w.heap.size w W) (hl : l.length ≤ 1000000) (hu : ∃ a n c, u = .slice a n c) => request_any (u := u) (stays_slice stays_pkg _ _ _ _ h hb) hl hu (stays_slice stays_rot _ _ _ _ hq hb)
  obtain ⟨nb, hnb⟩ : ∃ nb, nb = w.heap.size := ⟨_, rfl⟩
  obtain ⟨W0, hW0⟩ : ∃ W0, W0 = (w.alloc (.cells #[v, u] 52)).alloc (.cells #[q] 62) := ⟨_, rfl⟩
  have hb0 : Below w.heap.size w W0 := by rw [hW0]; exact (below_alloc1 _ _).alloc (below_alloc1 _ _).size _
  have hbx : PtBox nb v u q W0 := by rw [hW0, hnb]; exact ptbox_new _ _ _ _
  obtain ⟨a, cap, rfl, hz, g⟩ := pkgs_open h
  obtain ⟨a2, cap2, rfl, hz2, g2⟩ := prfs_open hpf
  obtain ⟨a3, cap3, rfl, hz3, g3⟩ := rots_open hq
  have hcap2 := slice_cap hpf
  have hcap3 := slice_cap hq
  obtain ⟨n, hn⟩ : ∃ n, n = l.length := ⟨_, rfl⟩
  obtain ⟨n2, hn2⟩ : ∃ n, n = pf.length := ⟨_, rfl⟩
  obtain ⟨n3, hn3⟩ : ∃ n, n = rs.length := ⟨_, rfl⟩
  obtain ⟨c, hc⟩ : ∃ c, c = (rcpOf l pf).1 := ⟨_, rfl⟩
  obtain ⟨d, hd⟩ : ∃ c, c = (rcpOf l pf).2 := ⟨_, rfl⟩
  obtain ⟨c3, hc3⟩ : ∃ c, c = (rqOf l rs).1 := ⟨_, rfl⟩
  obtain ⟨d3, hd3⟩ : ∃ c, c = (rqOf l rs).2 := ⟨_, rfl⟩
  rw [← hc, ← hd] at hC
  rw [← hc3, ← hd3] at hQ
  rw [← hn] at hz h hG hC hQ hbx hW0
  rw [← hn2] at hz2 hcap2 hpf hG hC hQ hbx hW0
  rw [← hn3] at hz3 hcap3 hq hGq hQ hbx hW0
  rw [← hn, ← hn2, ← hn3]
  obtain ⟨s0, s1, s2⟩ := hbx.cells
  have hG0 := hG W0 hb0
  have q1 := prob_neqs c d 0 0
  have q2 := prob_neqs c3 d3 0 0
  have q3 := prob_neqs 0 0 0 0
  have q4 := prob_eqs 0 0 0 0
  simp only [decide_true, Bool.and_true, Bool.not_true] at q3 q4
  have Hh := Lib.hid h; have Hpf := Lib.hid hpf; have Hq := Lib.hid hq; have Hg := Lib.hid g; have Hg2 := Lib.hid g2; have Hg3 := Lib.hid g3; have Hn := Lib.hid hn; have Hn2 := Lib.hid hn2; have Hn3 := Lib.hid hn3; have Hb0 := Lib.hid hb0; have HF := Lib.hid hF; have HG := Lib.hid hG; have HGq := Lib.hid hGq; have HC := Lib.hid hC; have HQ := Lib.hid hQ; have Hc := Lib.hid hc; have Hd := Lib.hid hd; have Hc3 := Lib.hid hc3; have Hd3 := Lib.hid hd3; have Hbx := Lib.hid hbx; have HG0 := Lib.hid hG0; clear h hpf hq g g2 g3 hn hn2 hn3 hb0 hF hG hGq hC hQ hc hd hc3 hd3 hbx hG0
  go_enter Try.func11, Try.ntmps11
  go_upto_region 1 with (fail)
  rw [← hW0, ← hnb]
  have HW0 := Lib.hid hW0; have Hnb := Lib.hid hnb; clear hW0 hnb
  go_wp2_with fail
  refine HG0.out.mono ?_
  rintro e w1 ⟨⟨gr, rfl, hsm⟩, hbm⟩
  have hb1 := Hb0.out.trans (hbm.mono Hb0.out.size)
  have hbx1 := Hbx.out.below hbm
  clear s0 s1 s2
  obtain ⟨s0, s1, s2⟩ := hbx1.cells
  cases gr with
  | true =>
    clear hsm
    have Hbm := Lib.hid hbm; have Hb1 := Lib.hid hb1; have Hbx1 := Lib.hid hbx1; clear hbm hb1 hbx1
    go_wp2_with fail
    refine (HF.out _).mono ?_
    rintro e w2 ⟨rfl, hb3⟩
    have hb4 := Hb1.out.trans (hb3.mono Hb1.out.size)
    have Hb3 := Lib.hid hb3; have Hb4 := Lib.hid hb4; clear hb3 hb4
    go_wp2_with fail
    go_ret
    exact ⟨rfl, Hb4.out⟩
  | false =>
  have hn30 := (hsm rfl).1
  have hsmall := (hsm rfl).2
  clear hsm
  have hGq1 := HGq.out w1 hb1
  have Hbm := Lib.hid hbm; have Hb1 := Lib.hid hb1; have Hbx1 := Lib.hid hbx1; have Hsmall := Lib.hid hsmall; have HGq1 := Lib.hid hGq1; clear hbm hb1 hbx1 hsmall hGq1
  go_wp2_with fail
  refine HGq1.out.mono ?_
  rintro e w2 ⟨⟨gq, rfl, hsm⟩, hbm⟩
  have hb2 := Hb1.out.trans (hbm.mono Hb1.out.size)
  have hbx2 := Hbx1.out.below hbm
  clear s0 s1 s2
  obtain ⟨s0, s1, s2⟩ := hbx2.cells
  cases gq with
  | true =>
    clear hsm
    have Hbm := Lib.hid hbm; have Hb2 := Lib.hid hb2; have Hbx2 := Lib.hid hbx2; clear hbm hb2 hbx2
    go_wp2_with fail
    refine (HF.out _).mono ?_
    rintro e w3 ⟨rfl, hb3⟩
    have hb4 := Hb2.out.trans (hb3.mono Hb2.out.size)
    have Hb3 := Lib.hid hb3; have Hb4 := Lib.hid hb4; clear hb3 hb4
    go_wp2_with fail
    go_ret
    exact ⟨rfl, Hb4.out⟩
  | false =>
  have hn40 := hsm rfl
  clear hsm
  have hC2 := HC.out w2 hb2 (by omega) Hsmall.out
  have Hbm := Lib.hid hbm; have Hb2 := Lib.hid hb2; have Hbx2 := Lib.hid hbx2; have HC2 := Lib.hid hC2; clear hbm hb2 hbx2 hC2
  by_cases hcd : c = 0 ∧ d = 0
  case neg =>
    have hfb : (decide (c = 0) && decide (d = 0)) = false := by
      rw [Bool.and_eq_false_iff, decide_eq_false_iff_not, decide_eq_false_iff_not]
      exact Classical.not_and_iff_not_or_not.1 hcd
    simp only [hfb, Bool.not_false] at q1
    clear hfb
    clear hcd
    go_wp2_with fail
    refine HC2.out.mono ?_
    rintro e w3 ⟨rfl, hbm⟩
    have hb3 := Hb2.out.trans (hbm.mono Hb2.out.size)
    have Hbm := Lib.hid hbm; have Hb3 := Lib.hid hb3; clear hbm hb3
    go_wp2_with fail
    refine (HF.out _).mono ?_
    rintro e w4 ⟨rfl, hbm⟩
    have hb4 := Hb3.out.trans (hbm.mono Hb3.out.size)
    have Hbm := Lib.hid hbm; have Hb4 := Lib.hid hb4; clear hbm hb4
    go_wp2_with fail
    go_ret
    exact ⟨rfl, Hb4.out⟩
  obtain ⟨rfl, rfl⟩ := hcd
  clear q1
  by_cases e0 : n = 0
  · have k1 : ((n : Int) == 0) = true := by rw [e0]; rfl
    clear e0
    go_wp2_with fail
    refine HC2.out.mono ?_
    rintro e w3 ⟨rfl, hbm⟩
    have hb3 := Hb2.out.trans (hbm.mono Hb2.out.size)
    have hbx3 := Hbx2.out.below hbm
    clear s0 s1 s2
    obtain ⟨s0, s1, s2⟩ := hbx3.cells
    have Hbm := Lib.hid hbm; have Hb3 := Lib.hid hb3; have Hbx3 := Lib.hid hbx3; clear hbm hb3 hbx3
    go_wp2_with fail
    refine (HF.out _).mono ?_
    rintro e w4 ⟨rfl, hbm⟩
    have hb4 := Hb3.out.trans (hbm.mono Hb3.out.size)
    have Hbm := Lib.hid hbm; have Hb4 := Lib.hid hb4; clear hbm hb4
    go_wp2_with fail
    go_ret
    exact ⟨rfl, Hb4.out⟩
  have k1 : ((n : Int) == 0) = false := by simp; omega
  go_wp2_with fail
  refine HC2.out.mono ?_
  rintro e w3 ⟨rfl, hbm⟩
  have hb3 := Hb2.out.trans (hbm.mono Hb2.out.size)
  have hbx3 := Hbx2.out.below hbm
  clear s0 s1 s2
  obtain ⟨s0, s1, s2⟩ := hbx3.cells
  obtain ⟨k, hk⟩ : ∃ k : Nat, k = x.toNat % n := ⟨_, rfl⟩
  have hkn : k < n := by rw [hk]; exact Nat.mod_lt _ (by omega)
  have htm : Int.tmod x (n : Int) = (k : Int) := by
    obtain ⟨xn, rfl⟩ : ∃ m : Nat, x = (m : Int) := ⟨x.toNat, by omega⟩
    rw [hk, Int.toNat_natCast]; rfl
  have k2 : ¬ ((n : Int) = 0) := by omega
  have Hbm := Lib.hid hbm; have Hb3 := Lib.hid hb3; have Hbx3 := Lib.hid hbx3; have Hk := Lib.hid hk; clear hbm hb3 hbx3 hk
  obtain ⟨css, hcs⟩ := slice_cells (by decide) Hh.out
  have hcl := hcs.len
  have hfl := flat_len' hcs.sz
  have hon := hcs.ones (fun _ _ h => pkg_ones h)
  obtain ⟨B3, hB3⟩ : ∃ B, B = w3.heap.size := ⟨_, rfl⟩
  obtain ⟨W4, hW4⟩ : ∃ W, W = w3.alloc (.cells #[.slice a n cap, .slice a2 n2 cap2] 52) := ⟨_, rfl⟩
  have hy4 : W4.heap[B3]? = some (.cells #[.slice a n cap, .slice a2 n2 cap2] 52 (0, 0)) := by rw [hW4, hB3]; exact heap_alloc_new _ _
  have hbm4 : Below B3 w3 W4 := by rw [hW4, hB3]; exact below_alloc1 _ _
  have hw3B : w.heap.size ≤ B3 := by rw [hB3]; exact Hb3.out.size
  have hz4 : B3 ≤ W4.heap.size := by have := hbm4.size; omega
  have hbm5 : Below B3 w3 (W4.alloc (.cells #[] 68)) := hbm4.alloc hz4 _
  have hy5 : (W4.alloc (.cells #[] 68)).heap[B3]? = some (.cells #[.slice a n cap, .slice a2 n2 cap2] 52 (0, 0)) := heap_below (below_alloc1 _ _) hy4
  have ho5 : (W4.alloc (.cells #[] 68)).ownsRow B3 68 8 (.slice (some ⟨W4.heap.size, 0, none⟩) 0 0) 0 [] := World.ownsRow_lit (base := B3) (e := 68) (size := 8) W4 #[] 0 hz4 (by decide) rfl
  have hb5 : Below w.heap.size w (W4.alloc (.cells #[] 68)) := Hb3.out.trans (hbm5.mono hw3B)
  have hz5 : B3 ≤ (W4.alloc (.cells #[] 68)).heap.size := by have := hbm5.size; omega
  have hbx5 : PtBox nb (.slice a n cap) (.slice a2 n2 cap2) (.slice a3 n3 cap3) (W4.alloc (.cells #[] 68)) := Hbx3.out.below (by rw [← hB3]; exact hbm5)
  obtain ⟨t0, t1, t2⟩ := hbx5.cells
  have hnew := (hcs.later stays_pkg hb5).at'
  have hcln : css.flatten.length = n * 8 := by rw [hfl, hcl, Hn.out]
  have Hcs := Lib.hid hcs; have Hcl := Lib.hid hcl; have Hfl := Lib.hid hfl; have Hon := Lib.hid hon; have HB3 := Lib.hid hB3; have HW4 := Lib.hid hW4; have Hy4 := Lib.hid hy4; have Hbm4 := Lib.hid hbm4; have Hbm5 := Lib.hid hbm5; have Hy5 := Lib.hid hy5; have Ho5 := Lib.hid ho5; have Hb5 := Lib.hid hb5; have Hbx5 := Lib.hid hbx5; have Hnew := Lib.hid hnew; have Hcln := Lib.hid hcln; have Hz5 := Lib.hid hz5; clear hcs hcl hfl hon hB3 hW4 hy4 hbm4 hbm5 hy5 ho5 hb5 hbx5 hnew hcln hz5
  go_upto_region 7 with (fail)
  rw [← HW4.out, ← HB3.out]
  clear s0 s1 s2
  go_upto_region 8 with (at_builtin; (refine wpList_append_from elem_pkg rfl (.tmp 36) (.tmp 38) rfl B3 (.slice (some ⟨W4.heap.size, 0, none⟩) 0 0) 0 [] rfl Ho5.out a n cap css.flatten rfl Hcln.out Hnew.out Hon.out (by omega) (by unfold maxLen; omega) Hz5.out ?_; intro v6 w6 hown6 hg6 hm6; obtain ⟨g6, c6, rfl, hgB, hgl, hgc, hgm, hgcell⟩ := ownsRow_some hown6 (by omega); have hy6 := keepT_grown hg6 Ho5.out (by decide) _ _ _ Hy5.out; have y60 := cells_at hy6 0; have fz60 := frozen_at hy6 0; simp only [List.getElem?_toArray, List.getElem?_cons_zero] at y60))
  obtain ⟨W7, hW7⟩ : ∃ W, W = w6.setCell ⟨B3, 0, none⟩ (.slice (some ⟨g6, 0, none⟩) n c6) := ⟨_, rfl⟩
  rw [← hW7]
  have ho6 : w6.ownsRow B3 68 8 (.slice (some ⟨g6, 0, none⟩) n c6) n css.flatten := by simpa using hown6
  have hne6 : (Value.slice (some ⟨g6, 0, none⟩) n c6).ownBlock ≠ some B3 := apart_block ho6 hy6 (by decide)
  have ho7 : W7.ownsRow B3 68 8 (.slice (some ⟨g6, 0, none⟩) n c6) n css.flatten := by rw [hW7]; exact ownsRow_setCell_other ho6 hne6 _
  have hy7 : W7.heap[B3]? = some (.cells #[.slice (some ⟨g6, 0, none⟩) n c6, .slice a2 n2 cap2] 52 (0, 0)) := by rw [hW7]; exact heap_setCell_same _ _ _ _ _ _ hy6
  have hbm6 : Below B3 w3 w6 := bel_own Hbm5.out Ho5.out (Nat.le_refl _) hg6 Hz5.out
  have hbm7 : Below B3 w3 W7 := by rw [hW7]; exact hbm6.setCell (p := ⟨B3, 0, none⟩) (Nat.le_refl _) _
  have hkc : k < css.length := by rw [Hcl.out, ← Hn.out]; exact hkn
  have hkl : k < l.length := by rw [← Hn.out]; exact hkn
  have hk8 : css[k].length = 8 := Hcs.out.sz _ (List.getElem_mem hkc)
  obtain ⟨gc7, hg7⟩ := own_type ho7 g6 rfl
  have y70 := cells_at hy7 0
  simp only [List.getElem?_toArray, List.getElem?_cons_zero] at y70
  have z76 : ∀ t, t < 8 → ∃ v, W7.cell? ⟨g6, k * 8 + t, none⟩ = some v := fun t ht => by
    obtain ⟨g', c', hsh, _, _, _, _, hc⟩ := ownsRow_some ho7 (by omega)
    simp only [Value.slice.injEq, Option.some.injEq, Addr.mk.injEq, and_true, true_and] at hsh
    obtain ⟨rfl, _⟩ := hsh
    exact ⟨_, hc _ (css[k][t]'(by omega)) (by rw [flat_get' Hcs.out.sz k hkc t ht]; exact List.getElem?_eq_getElem (by omega))⟩
  obtain ⟨v76, z76'⟩ := z76 6 (by decide)
  obtain ⟨v77, z77'⟩ := z76 7 (by decide)
  clear z76
  have fz76 := frozen_at hg7 (k * 8 + 6)
  have k8 : (0 : Int) ≤ (k : Int) := by omega
  have k9 : (k : Int) < (n : Int) := by omega
  clear y60 fz60 hgcell hgl
  have Hown6 := Lib.hid hown6; have Hg6 := Lib.hid hg6; have Hy6 := Lib.hid hy6; have Ho6 := Lib.hid ho6; have Hne6 := Lib.hid hne6; have Ho7 := Lib.hid ho7; have Hy7 := Lib.hid hy7; have Hbm6 := Lib.hid hbm6; have Hbm7 := Lib.hid hbm7; have Hg7 := Lib.hid hg7; have Hkl := Lib.hid hkl; have HW7 := Lib.hid hW7; clear hown6 hg6 hy6 ho6 hne6 ho7 hy7 hbm6 hbm7 hg7 hkl hW7
  clear hm6
  go_upto_region 9 with (fail)
  obtain ⟨W8, hW8⟩ : ∃ W, W = W7.setCell ⟨g6, k * 8 + 6, none⟩ (.slice none 0 0) := ⟨_, rfl⟩
  rw [← hW8]
  have hgb : B3 ≠ g6 := fun e => Hne6.out (by rw [e]; rfl)
  have hy8 : W8.heap[B3]? = some (.cells #[.slice (some ⟨g6, 0, none⟩) n c6, .slice a2 n2 cap2] 52 (0, 0)) := by rw [hW8, Below.heap_setCell _ _ _ _ hgb]; exact Hy7.out
  have ho8 : W8.ownsRow B3 68 8 (.slice (some ⟨g6, 0, none⟩) n c6) n (css.flatten.set (k * 8 + 6) (.slice none 0 0)) := by rw [hW8]; exact (Ho7.out.stored (k * 8 + 6) (.slice none 0 0)).1
  obtain ⟨gc8, hg8⟩ := own_type ho8 g6 rfl
  have y80 := cells_at hy8 0
  simp only [List.getElem?_toArray, List.getElem?_cons_zero] at y80
  obtain ⟨v87, z87⟩ : ∃ v, W8.cell? ⟨g6, k * 8 + 7, none⟩ = some v := by
    obtain ⟨g', c', hsh, _, _, _, _, hc⟩ := ownsRow_some ho8 (by omega)
    simp only [Value.slice.injEq, Option.some.injEq, Addr.mk.injEq, and_true, true_and] at hsh
    obtain ⟨rfl, _⟩ := hsh
    have hlt : k * 8 + 7 < (css.flatten.set (k * 8 + 6) (.slice none 0 0)).length := by rw [List.length_set, Hcln.out]; omega
    exact ⟨_, hc _ _ (List.getElem?_eq_getElem hlt)⟩
  have fz87 := frozen_at hg8 (k * 8 + 7)
  clear y70 z76' z77' fz76
  have Hy8 := Lib.hid hy8; have Ho8 := Lib.hid ho8; have Hg8 := Lib.hid hg8; have HW8 := Lib.hid hW8; clear hy8 ho8 hg8 hW8
  go_upto_region 10 with (fail)
  obtain ⟨W9, hW9⟩ : ∃ W, W = W8.setCell ⟨g6, k * 8 + 7, none⟩ (.slice none 0 0) := ⟨_, rfl⟩
  rw [← hW9]
  have hy9 : W9.heap[B3]? = some (.cells #[.slice (some ⟨g6, 0, none⟩) n c6, .slice a2 n2 cap2] 52 (0, 0)) := by rw [hW9, Below.heap_setCell _ _ _ _ hgb]; exact Hy8.out
  have ho9 : W9.ownsRow B3 68 8 (.slice (some ⟨g6, 0, none⟩) n c6) n (css.set k ((css[k].set 6 (.slice none 0 0)).set 7 (.slice none 0 0))).flatten := by rw [hW9, HW8.out]; exact row_cut Hcs.out.sz hkc Ho7.out
  have hbm9 : Below B3 w3 W9 := by rw [hW9, HW8.out]; exact (Hbm7.out.setCell (p := ⟨g6, k * 8 + 6, none⟩) hgB _).setCell (p := ⟨g6, k * 8 + 7, none⟩) hgB _
  have hbx9 : PtBox nb (.slice a n cap) (.slice a2 n2 cap2) (.slice a3 n3 cap3) W9 := Hbx3.out.below (by rw [← HB3.out]; exact hbm9)
  obtain ⟨s0, s1, s2⟩ := hbx9.cells
  have hr00 : rcpOf l pf = (0, 0) := Prod.ext Hc.out.symm Hd.out.symm
  have hn28 : n2 ≤ 8 := by rw [Hn2.out]; exact rcp_few hr00
  obtain ⟨m, hm⟩ : ∃ m : Nat, m = x.toNat % (n2 + 1) := ⟨_, rfl⟩
  have hmn : m ≤ n2 := by rw [hm]; have := Nat.mod_lt x.toNat (show 0 < n2 + 1 by omega); omega
  have htm2 : Int.tmod x ((n2 : Int) + 1) = (m : Int) := by
    obtain ⟨xn, rfl⟩ : ∃ m : Nat, x = (m : Int) := ⟨x.toNat, by omega⟩
    rw [hm, Int.toNat_natCast]; rfl
  have k10 : ¬ ((n2 : Int) + 1 = 0) := by omega
  have k11 : (0 : Int) ≤ (m : Int) := by omega
  have k12 : (m : Int) ≤ (cap2 : Int) := by omega
  have y91 := cells_at hy9 1
  have fz91 := frozen_at hy9 1
  simp only [List.getElem?_toArray, List.getElem?_cons_zero, List.getElem?_cons_succ] at y91
  clear y80 z87 fz87 t0 t1 t2
  have Hy9 := Lib.hid hy9; have Ho9 := Lib.hid ho9; have Hbm9 := Lib.hid hbm9; have Hbx9 := Lib.hid hbx9; have HW9 := Lib.hid hW9; have Hm := Lib.hid hm; have Hr00 := Lib.hid hr00; clear hy9 ho9 hbm9 hbx9 hW9 hm hr00
  go_region
  obtain ⟨W10, hW10⟩ : ∃ W, W = (W9.setCell ⟨B3, 1, none⟩ (.slice a2 m cap2)).drew := ⟨_, rfl⟩
  rw [← hW10]
  have hbm10 : Below B3 w3 W10 := by rw [hW10]; exact bel_drewN (Hbm9.out.setCell (p := ⟨B3, 1, none⟩) (Nat.le_refl _) (.slice a2 m cap2)) 1
  have ho10 : W10.ownsRow B3 68 8 (.slice (some ⟨g6, 0, none⟩) n c6) n (css.set k ((css[k].set 6 (.slice none 0 0)).set 7 (.slice none 0 0))).flatten := by rw [hW10]; exact ownsRow_below (ownsRow_setCell_other Ho9.out Hne6.out _) (bel_drewN (Below.refl _ _) 1)
  have hy10 : W10.heap[B3]? = some (.cells #[.slice (some ⟨g6, 0, none⟩) n c6, .slice a2 m cap2] 52 (0, 0)) := by rw [hW10]; exact heap_setCell_same W9 B3 1 _ _ _ Hy9.out
  have hb10 : Below w.heap.size w W10 := Hb3.out.trans (hbm10.mono hw3B)
  have hbx10 : PtBox nb (.slice a n cap) (.slice a2 n2 cap2) (.slice a3 n3 cap3) W10 := Hbx3.out.below (by rw [← HB3.out]; exact hbm10)
  have hsz10 : ∀ cs ∈ css.set k ((css[k].set 6 (.slice none 0 0)).set 7 (.slice none 0 0)), cs.length = 8 := fun cs hcs => by
    rcases List.mem_or_eq_of_mem_set hcs with h | h
    · exact Hcs.out.sz cs h
    · rw [h, List.length_set, List.length_set]; exact hk8
  have hP10 : RSlice 8 RPkg W10 [.slice (some ⟨g6, 0, none⟩) n c6] (l.set k (cutPkg (l[k]'Hkl.out))) := slice_of_cells (by decide) (by rw [List.length_set, List.length_set]; exact Hcl.out) hsz10 (by rw [List.length_set, ← Hn.out]; exact ho10) (fun i cs x h1 h2 => stays_pkg _ _ _ _ (rows_cut Hcs.out hkc Hkl.out i cs x h1 h2) hb10)
  have hF10 : RSlice 3 RPrf W10 [.slice a2 m cap2] (pf.take m) := stays_slice stays_prf _ _ _ _ (rslice_take Hpf.out (by rw [← Hn2.out]; exact hmn)) hb10
  have hsm10 : ∀ x ∈ l.set k (cutPkg (l[k]'Hkl.out)), PkgSmall x := fun x hx => by
    rcases List.mem_or_eq_of_mem_set hx with h | h
    · exact Hsmall.out x h
    · rw [h]; exact (Hsmall.out (l[k]'Hkl.out) (List.getElem_mem Hkl.out) : PkgSmall (l[k]'Hkl.out))
  have hC10 := rcp_any hP10 hF10 (by rw [List.length_set, ← Hn.out]; omega) hsm10
  have hcut := rcp_cut (m := m) Hkl.out Hr00.out
  simp only [hcut] at hC10
  clear hcut
  have y100 := cells_at hy10 0
  have y101 := cells_at hy10 1
  simp only [List.getElem?_toArray, List.getElem?_cons_zero, List.getElem?_cons_succ] at y100 y101
  clear s0 s1 s2 y91 fz91 htm2 k10 k11 k12
  have HW10 := Lib.hid hW10; have Hbm10 := Lib.hid hbm10; have Ho10 := Lib.hid ho10; have Hy10 := Lib.hid hy10; have Hb10 := Lib.hid hb10; have Hbx10 := Lib.hid hbx10; have Hsz10 := Lib.hid hsz10; have HP10 := Lib.hid hP10; have HF10 := Lib.hid hF10; have Hsm10 := Lib.hid hsm10; have HC10 := Lib.hid hC10; clear hW10 hbm10 ho10 hy10 hb10 hbx10 hsz10 hP10 hF10 hsm10 hC10
  go_wp2_with fail
  refine HC10.out.mono ?_
  rintro e w11 ⟨rfl, hbm⟩
  have hb11 := Hb10.out.trans (hbm.mono Hb10.out.size)
  have hbx11 := Hbx10.out.below hbm
  have hQ11 := HQ.out w11 hb11 (by omega) ⟨_, _, _, rfl⟩
  obtain ⟨s0, s1, s2⟩ := hbx11.cells
  clear y100 y101
  have Hbm := Lib.hid hbm; have Hb11 := Lib.hid hb11; have Hbx11 := Lib.hid hbx11; have HQ11 := Lib.hid hQ11; clear hbm hb11 hbx11 hQ11
  by_cases hcd : c3 = 0 ∧ d3 = 0
  case neg =>
    have hfb : (decide (c3 = 0) && decide (d3 = 0)) = false := by
      rw [Bool.and_eq_false_iff, decide_eq_false_iff_not, decide_eq_false_iff_not]
      exact Classical.not_and_iff_not_or_not.1 hcd
    simp only [hfb, Bool.not_false] at q2
    clear hfb
    go_wp2_with fail
    refine HQ11.out.mono ?_
    rintro e w12 ⟨rfl, hbm⟩
    have hb12 := Hb11.out.trans (hbm.mono Hb11.out.size)
    have Hbm := Lib.hid hbm; have Hb12 := Lib.hid hb12; clear hbm hb12
    go_wp2_with fail
    refine (HF.out _).mono ?_
    rintro e w13 ⟨rfl, hbm⟩
    have hb13 := Hb12.out.trans (hbm.mono Hb12.out.size)
    have Hbm := Lib.hid hbm; have Hb13 := Lib.hid hb13; clear hbm hb13
    go_wp2_with fail
    go_ret
    exact ⟨rfl, Hb13.out⟩
  obtain ⟨rfl, rfl⟩ := hcd
  clear q2
  by_cases e0 : n3 < 2
  · have k1 : decide ((n3 : Int) < 2) = true := by simp; omega
    go_wp2_with fail
    refine HQ11.out.mono ?_
    rintro e w12 ⟨rfl, hbm⟩
    have hb12 := Hb11.out.trans (hbm.mono Hb11.out.size)
    have hbx12 := Hbx11.out.below hbm
    clear s0 s1 s2
    obtain ⟨s0, s1, s2⟩ := hbx12.cells
    have Hbm := Lib.hid hbm; have Hb12 := Lib.hid hb12; have Hbx12 := Lib.hid hbx12; clear hbm hb12 hbx12
    go_wp2_with fail
    refine (HF.out _).mono ?_
    rintro e w13 ⟨rfl, hbm⟩
    have hb13 := Hb12.out.trans (hbm.mono Hb12.out.size)
    have Hbm := Lib.hid hbm; have Hb13 := Lib.hid hb13; clear hbm hb13
    go_wp2_with fail
    go_ret
    exact ⟨rfl, Hb13.out⟩
  have k1 : decide ((n3 : Int) < 2) = false := by simp; omega
  go_wp2_with fail
  refine HQ11.out.mono ?_
  rintro e w12 ⟨rfl, hbm⟩
  have hb12 := Hb11.out.trans (hbm.mono Hb11.out.size)
  have hbx12 := Hbx11.out.below hbm
  clear s0 s1 s2
  obtain ⟨s0, s1, s2⟩ := hbx12.cells
  obtain ⟨p, hp⟩ : ∃ p : Nat, p = x.toNat % n3 := ⟨_, rfl⟩
  have hpn : p < n3 := by rw [hp]; exact Nat.mod_lt _ (by omega)
  have htm3 : Int.tmod x (n3 : Int) = (p : Int) := by
    obtain ⟨xn, rfl⟩ : ∃ m : Nat, x = (m : Int) := ⟨x.toNat, by omega⟩
    rw [hp, Int.toNat_natCast]; rfl
  have k3 : ¬ ((n3 : Int) = 0) := by omega
  have Hbm := Lib.hid hbm; have Hb12 := Lib.hid hb12; have Hbx12 := Lib.hid hbx12; have Hp := Lib.hid hp; clear hbm hb12 hbx12 hp
  go_upto_region 16 with (fail)
  obtain ⟨b3, off3, _, _, rfl, _⟩ := Hg3.out 0 _ (List.getElem?_eq_getElem (by rw [← Hn3.out]; omega))
  obtain ⟨css3, hcs3⟩ := slice_cells (by decide) Hq.out
  have hcl3 := hcs3.len
  have hfl3 := flat_len' hcs3.sz
  have hon3 := hcs3.ones (fun _ _ h => rot_ones h)
  have hft := flat_take hcs3.sz p
  have hfd := flat_drop hcs3.sz (p + 1)
  have hb12 := Hb12.out
  have hw12 : w.heap.size ≤ w12.heap.size := hb12.size
  have hbz := bel_drewN hb12 1
  have hcz : (w12.drewN 1).cell? ⟨nb + 1, 0, none⟩ = some (.slice (some ⟨b3, off3, none⟩) n3 cap3) := by simpa using s2
  have hbl13 : Below w12.heap.size w12 (w12.alloc (.cells #[] 109)).drew := bel_drewN (below_alloc1 w12 (.cells #[] 109)) 1
  have ho13 : (w12.alloc (.cells #[] 109)).drew.ownsRow w12.heap.size 109 4 (.slice (some ⟨w12.heap.size, 0, none⟩) 0 0) 0 [] := ownsRow_below (World.ownsRow_lit (base := w12.heap.size) (e := 109) (size := 4) w12 #[] 0 (Nat.le_refl _) (by decide) rfl) (bel_drewN (Below.refl _ _) 1)
  have hb13 : Below w.heap.size w (w12.alloc (.cells #[] 109)).drew := hb12.trans (hbl13.mono hw12)
  have hz13 : w12.heap.size ≤ (w12.alloc (.cells #[] 109)).drew.heap.size := hbl13.size
  have hat := hcs3.at'
  have hl1 : (css3.flatten.take (p * 4)).length = p * 4 := by rw [List.length_take, hfl3, hcl3, ← Hn3.out]; omega
  have hl2 : (css3.flatten.drop ((p + 1) * 4)).length = (n3 - (p + 1)) * 4 := by rw [List.length_drop, hfl3, hcl3, ← Hn3.out]; omega
  have hnw1 : ∀ (W : World), Below w.heap.size w W → ∀ (j : Nat) u, (css3.flatten.take (p * 4))[j]? = some u → ∃ b off, (some ⟨b3, off3, none⟩ : Option Addr) = some ⟨b, off, none⟩ ∧ W.cell? ⟨b, off + j, none⟩ = some u := fun W hb j u hu => by
    rw [List.getElem?_take] at hu
    split at hu
    · obtain ⟨b, off, h1, h2⟩ := hat j u hu
      exact ⟨b, off, h1, cell_later hb h2⟩
    · cases hu
  have hnw2 : ∀ (W : World), Below w.heap.size w W → ∀ (j : Nat) u, (css3.flatten.drop ((p + 1) * 4))[j]? = some u → ∃ b off, (some ⟨b3, off3 + (p + 1) * 4, none⟩ : Option Addr) = some ⟨b, off, none⟩ ∧ W.cell? ⟨b, off + j, none⟩ = some u := fun W hb j u hu => by
    rw [List.getElem?_drop] at hu
    obtain ⟨b, off, h1, h2⟩ := hat _ u hu
    cases h1
    exact ⟨b3, off3 + (p + 1) * 4, rfl, cell_later hb (by rw [Nat.add_assoc]; exact h2)⟩
  have hn1 : ∀ u ∈ css3.flatten.take (p * 4), u.oneCell' = true := fun u hu => hon3 u (List.mem_of_mem_take hu)
  have hn2' : ∀ u ∈ css3.flatten.drop ((p + 1) * 4), u.oneCell' = true := fun u hu => hon3 u (List.mem_of_mem_drop hu)
  have k4 : (0 : Int) ≤ (p : Int) := by omega
  have k5 : (p : Int) ≤ (cap3 : Int) := by omega
  have k6 : (p : Int) + 1 ≤ (n3 : Int) := by omega
  have k7 : (n3 : Int) ≤ (cap3 : Int) := by omega
  have k8 : (0 : Int) ≤ (p : Int) + 1 := by omega
  have hwr : IntKind.i64.wrap ((p : Int) + 1) = (p : Int) + 1 := IntWalk.i64_in _ (by omega)
  have htn : ((p : Int) + 1).toNat = p + 1 := by omega
  have k9 : ((n3 : Int)).toNat = n3 := by omega
  have hnw3 : cap3 = p + 1 → ∀ (W : World) (j : Nat) u, (css3.flatten.drop ((p + 1) * 4))[j]? = some u → ∃ b off, (some ⟨b3, off3, none⟩ : Option Addr) = some ⟨b, off, none⟩ ∧ W.cell? ⟨b, off + j, none⟩ = some u := fun h1 W j u hu => by
    have := (List.getElem?_eq_some_iff.1 hu).1
    rw [hl2] at this
    omega
  have Hcs3 := Lib.hid hcs3; have Hcl3 := Lib.hid hcl3; have Hfl3 := Lib.hid hfl3; have Hon3 := Lib.hid hon3; have Hft := Lib.hid hft; have Hfd := Lib.hid hfd; have Hat := Lib.hid hat; have Hl1 := Lib.hid hl1; have Hl2 := Lib.hid hl2; have Hnw1 := Lib.hid hnw1; have Hnw2 := Lib.hid hnw2; have Hn1 := Lib.hid hn1; have Hn2' := Lib.hid hn2'; have Hb12 := Lib.hid hb12; have Ho13 := Lib.hid ho13; have Hb13 := Lib.hid hb13; have Hbl13 := Lib.hid hbl13; have Hz13 := Lib.hid hz13; have Hw12 := Lib.hid hw12; clear hcs3 hcl3 hfl3 hon3 hft hfd hat hl1 hl2 hnw1 hnw2 hn1 hn2' hb12 ho13 hb13 hbl13 hz13 hw12
  by_cases hcp : cap3 = p + 1
  case pos =>
    have hnx3 := hnw3 hcp
    clear hnw3
    have hl20 : (css3.flatten.drop ((p + 1) * 4)).length = 0 * 4 := by rw [Hl2.out]; omega
    have hcp' := hcp.symm
    clear hcp
    have Hl20 := Lib.hid hl20; clear hl20
    have Hnx3 := Lib.hid hnx3; clear hnx3
    go_region_held3? (fun w' => w'.cell? ⟨nb + 1, 0, none⟩ = some (.slice (some ⟨b3, off3, none⟩) n3 cap3)) (first | exact hcz | exact cell_later (below_alloc1 _ _) hcz | exact hcz6 | exact hcz5 | go_keep) (first | (refine step_append_from elem_rot rfl (.tmp 84) (.tmp 88) rfl w12.heap.size (.slice (some ⟨w12.heap.size, 0, none⟩) 0 0) 0 [] rfl Ho13.out (some ⟨b3, off3, none⟩) p cap3 (css3.flatten.take (p * 4)) rfl Hl1.out (Hnw1.out _ Hb13.out) Hn1.out (by omega) (by unfold maxLen; omega) Hz13.out ?_; intro v5 w5 hown5 hg5 hm5; have hb5 := bel_own Hbl13.out Ho13.out (Nat.le_refl _) hg5 Hz13.out; have hz5 := hb5.size; have hbw5 := Hb12.out.trans (hb5.mono Hw12.out); have hcz5 := cell_later hb5 s2; obtain ⟨a5, c5, rfl⟩ := own_shape hown5) | (have := hown5; refine step_append_from elem_rot rfl (.tmp 89) (.tmp 94) rfl w12.heap.size (.slice a5 (0 + p) c5) (0 + p) _ rfl hown5 (some ⟨b3, off3, none⟩) 0 0 (css3.flatten.drop ((p + 1) * 4)) rfl Hl20.out (Hnx3.out _) Hn2'.out (by omega) (by unfold maxLen; omega) hz5 ?_; intro v6 w6' hown6 hg6 hm6; have hb6 := bel_own hb5 hown5 (Nat.le_refl _) hg6 hz5; have hcz6 := cell_later hb6 s2; obtain ⟨a6, c6', rfl⟩ := own_shape hown6))
    all_goals
      have hb6w := Hb12.out.trans (hb6.mono Hw12.out)
      have hbx6 := Hbx12.out.below hb6
      have hszl : ∀ cs ∈ css3.take p ++ css3.drop (p + 1), cs.length = 4 := fun cs hcs => by
        rcases List.mem_append.1 hcs with h | h
        · exact Hcs3.out.sz cs (List.mem_of_mem_take h)
        · exact Hcs3.out.sz cs (List.mem_of_mem_drop h)
      have hcl3 := Hcl3.out
      have hn3 := Hn3.out
      have hrd : RSlice 4 RRot w6' [.slice a6 p c6'] (rs.take p ++ rs.drop (p + 1)) := by
        refine slice_of_cells (B := w12.heap.size) (e := 109) (css := css3.take p ++ css3.drop (p + 1)) (by decide) ?_ hszl ?_ (fun i cs x h1 h2 => stays_rot _ _ _ _ (rows_less Hcs3.out p (p + 1) i cs x h1 h2) hb6w)
        · rw [List.length_append, List.length_append, List.length_take, List.length_take, List.length_drop, List.length_drop, hcl3]
        · rw [List.flatten_append, Hft.out, Hfd.out, List.length_append, List.length_take, List.length_drop, show min p rs.length + (rs.length - (p + 1)) = p by omega]
          simpa using hown6
      have hrq : rqOf l rs = (0, 0) := Prod.ext Hc3.out.symm Hd3.out.symm
      have hcut := rq_cut (n := p) (by omega) (by omega) hrq
      have hQ' := fun (W : World) (hb : Below w.heap.size w W) (hb2 : Below w6'.heap.size w6' W) => request_any (u := .slice a2 n2 cap2) (stays_slice stays_pkg _ _ _ _ Hh.out hb) (by have := Hn.out; omega) ⟨_, _, _, rfl⟩ (stays_slice stays_rot _ _ _ _ hrd hb2)
      simp only [hcut] at hQ'
      clear hcut hn3 hcl3
      have Hown6 := Lib.hid hown6; have Hg6 := Lib.hid hg6; have Hm6 := Lib.hid hm6; have Hb6 := Lib.hid hb6; have Hb6w := Lib.hid hb6w; have Hbx6 := Lib.hid hbx6; have Hszl := Lib.hid hszl; have Hrd := Lib.hid hrd; have Hrq := Lib.hid hrq; have HQ' := Lib.hid hQ'; have Hown5 := Lib.hid hown5; have Hg5 := Lib.hid hg5; have Hm5 := Lib.hid hm5; have Hb5 := Lib.hid hb5; have Hz5 := Lib.hid hz5; have Hbw5 := Lib.hid hbw5; clear hown6 hg6 hm6 hb6 hb6w hbx6 hszl hrd hrq hQ' hown5 hg5 hm5 hb5 hz5 hbw5
      clear hcz hcz5 hcz6 s0 s1 s2
      obtain ⟨s0, s1, s2⟩ := Hbx6.out.cells
      go_wp2_with fail
      refine (HF.out _).mono ?_
      rintro e w7 ⟨rfl, hbm⟩
      have hb7 := Hb6w.out.trans (hbm.mono Hb6w.out.size)
      have hbx7 := Hbx6.out.below hbm
      have hQ7 := HQ'.out w7 hb7 hbm
      clear s0 s1 s2
      obtain ⟨s0, s1, s2⟩ := hbx7.cells
      have Hbm := Lib.hid hbm; have Hb7 := Lib.hid hb7; have Hbx7 := Lib.hid hbx7; have HQ7 := Lib.hid hQ7; clear hbm hb7 hbx7 hQ7
      go_wp2_with fail
      refine HQ7.out.mono ?_
      rintro e w8 ⟨rfl, hbm⟩
      have hb8 := Hb7.out.trans (hbm.mono Hb7.out.size)
      have Hbm := Lib.hid hbm; have Hb8 := Lib.hid hb8; clear hbm hb8
      go_wp2_with fail
      go_ret
      exact ⟨by first | rfl | simp, Hb8.out⟩
  case neg =>
    clear hnw3
    go_region_held3? (fun w' => w'.cell? ⟨nb + 1, 0, none⟩ = some (.slice (some ⟨b3, off3, none⟩) n3 cap3)) (first | exact hcz | exact cell_later (below_alloc1 _ _) hcz | exact hcz6 | exact hcz5 | go_keep) (first | (have := hown5; refine step_append_from elem_rot rfl (.tmp 89) (.tmp 94) rfl w12.heap.size (.slice a5 (0 + p) c5) (0 + p) _ rfl hown5 (some ⟨b3, off3 + (p + 1) * 4, none⟩) (n3 - (p + 1)) (cap3 - (p + 1)) (css3.flatten.drop ((p + 1) * 4)) rfl Hl2.out (Hnw2.out _ hbw5) Hn2'.out (by omega) (by unfold maxLen; omega) hz5 ?_; intro v6 w6' hown6 hg6 hm6; have hb6 := bel_own hb5 hown5 (Nat.le_refl _) hg6 hz5; have hcz6 := cell_later hb6 s2; obtain ⟨a6, c6', rfl⟩ := own_shape hown6) | (refine step_append_from elem_rot rfl (.tmp 84) (.tmp 88) rfl w12.heap.size (.slice (some ⟨w12.heap.size, 0, none⟩) 0 0) 0 [] rfl Ho13.out (some ⟨b3, off3, none⟩) p cap3 (css3.flatten.take (p * 4)) rfl Hl1.out (Hnw1.out _ Hb13.out) Hn1.out (by omega) (by unfold maxLen; omega) Hz13.out ?_; intro v5 w5 hown5 hg5 hm5; have hb5 := bel_own Hbl13.out Ho13.out (Nat.le_refl _) hg5 Hz13.out; have hz5 := hb5.size; have hbw5 := Hb12.out.trans (hb5.mono Hw12.out); have hcz5 := cell_later hb5 s2; obtain ⟨a5, c5, rfl⟩ := own_shape hown5))
    have hb6w := Hb12.out.trans (hb6.mono Hw12.out)
    have hbx6 := Hbx12.out.below hb6
    have hszl : ∀ cs ∈ css3.take p ++ css3.drop (p + 1), cs.length = 4 := fun cs hcs => by
      rcases List.mem_append.1 hcs with h | h
      · exact Hcs3.out.sz cs (List.mem_of_mem_take h)
      · exact Hcs3.out.sz cs (List.mem_of_mem_drop h)
    have hcl3 := Hcl3.out
    have hn3 := Hn3.out
    have hrd : RSlice 4 RRot w6' [.slice a6 (p + (n3 - (p + 1))) c6'] (rs.take p ++ rs.drop (p + 1)) := by
      refine slice_of_cells (B := w12.heap.size) (e := 109) (css := css3.take p ++ css3.drop (p + 1)) (by decide) ?_ hszl ?_ (fun i cs x h1 h2 => stays_rot _ _ _ _ (rows_less Hcs3.out p (p + 1) i cs x h1 h2) hb6w)
      · rw [List.length_append, List.length_append, List.length_take, List.length_take, List.length_drop, List.length_drop, hcl3]
      · rw [List.flatten_append, Hft.out, Hfd.out, List.length_append, List.length_take, List.length_drop, show min p rs.length + (rs.length - (p + 1)) = p + (n3 - (p + 1)) by omega]
        simpa using hown6
    have hrq : rqOf l rs = (0, 0) := Prod.ext Hc3.out.symm Hd3.out.symm
    have hcut := rq_cut (n := p) (by omega) (by omega) hrq
    have hQ' := fun (W : World) (hb : Below w.heap.size w W) (hb2 : Below w6'.heap.size w6' W) => request_any (u := .slice a2 n2 cap2) (stays_slice stays_pkg _ _ _ _ Hh.out hb) (by have := Hn.out; omega) ⟨_, _, _, rfl⟩ (stays_slice stays_rot _ _ _ _ hrd hb2)
    simp only [hcut] at hQ'
    clear hcut hn3 hcl3
    have Hown6 := Lib.hid hown6; have Hg6 := Lib.hid hg6; have Hm6 := Lib.hid hm6; have Hb6 := Lib.hid hb6; have Hb6w := Lib.hid hb6w; have Hbx6 := Lib.hid hbx6; have Hszl := Lib.hid hszl; have Hrd := Lib.hid hrd; have Hrq := Lib.hid hrq; have HQ' := Lib.hid hQ'; have Hown5 := Lib.hid hown5; have Hg5 := Lib.hid hg5; have Hm5 := Lib.hid hm5; have Hb5 := Lib.hid hb5; have Hz5 := Lib.hid hz5; have Hbw5 := Lib.hid hbw5; clear hown6 hg6 hm6 hb6 hb6w hbx6 hszl hrd hrq hQ' hown5 hg5 hm5 hb5 hz5 hbw5
    clear hcz hcz5 hcz6 s0 s1 s2
    obtain ⟨s0, s1, s2⟩ := Hbx6.out.cells
    go_wp2_with fail
    refine (HF.out _).mono ?_
    rintro e w7 ⟨rfl, hbm⟩
    have hb7 := Hb6w.out.trans (hbm.mono Hb6w.out.size)
    have hbx7 := Hbx6.out.below hbm
    have hQ7 := HQ'.out w7 hb7 hbm
    clear s0 s1 s2
    obtain ⟨s0, s1, s2⟩ := hbx7.cells
    have Hbm := Lib.hid hbm; have Hb7 := Lib.hid hb7; have Hbx7 := Lib.hid hbx7; have HQ7 := Lib.hid hQ7; clear hbm hb7 hbx7 hQ7
    go_wp2_with fail
    refine HQ7.out.mono ?_
    rintro e w8 ⟨rfl, hbm⟩
    have hb8 := Hb7.out.trans (hbm.mono Hb7.out.size)
    have Hbm := Lib.hid hbm; have Hb8 := Lib.hid hb8; clear hbm hb8
    go_wp2_with fail
    go_ret
    exact ⟨by first | rfl | simp, Hb8.out⟩
theorem checkParts_row {w : World} {cs qs : Array Value} {x : Rcp} {y : List Rot × Unit} {a : Int} (ha : 0 ≤ a ∧ a ≤ 255) (h : RRcp w cs.toList x) (hq : RReq w qs.toList y) : Calls Try.prog 11 #[.agg cs, .agg qs, .int .u8 a] w fun e w' => e = .returned (.bool true) ∧ Below w.heap.size w w' := by
  obtain ⟨v, u, rfl, h1, h2⟩ := rcp_arg h
  obtain ⟨q, rfl, h3⟩ := req_arg hq
  exact checkParts_true a ha.1 ha.2 h1 h2 h3
end Go.Proofs.Ytnelgellbabkoaa

/- The given statement CheckPartsSaid: for every input the law returns true, and leaves what it was given as it was. No condition. -/
namespace Go.Proofs.Ytnelgellbabkoaa.checkPartsRow
open Go.ChangeShapes Go.WideShapes Go.ChangeAt Go.RowKit
open Go.ChangeMaps (open_string shut_string)
set_option linter.unusedVariables false

theorem own : ownKnob Try.prog.godebug = none := by kernel_rfl
theorem laidOut : laidOutB Try.prog = true := by kernel_rfl

set_option maxRecDepth 100000 in
theorem lifted (os : Os) (started : os.Started) (H : Type) (enc : TypeId × Value → H) :
    ReturnsInHanded {} Try.checked os 11 .any (Rows.checkPartsSpec.pre6 enc Try.prog Try.f11 Rows.checkPartsRow.domain false) (Rows.checkPartsSpec.post enc Try.prog Try.f11 false true false false) := by
  refine returnsInHanded_of_change (C := Try.checked) own started (by kernel_rfl) Try.func11
    (ChangeSpec.witness6 (enc := enc) (C := Try.checked) false ⟨#[], #[.agg #[.slice none 0 0, .slice none 0 0], .agg #[.slice none 0 0], .int .u8 0], []⟩ 8 (by kernel_rfl) (by kernel_rfl) (by kernel_rfl) (by kernel_rfl)) ?_
  intro W base args ds gs before hval0 hW hcnd _
  have hval : ∀ (j : Nat) t v, Try.f11.params[j]? = some t → args[j]? = some v → Value.okWide Try.prog W .any base t v := hval0
  have hW' := hW
  obtain ⟨p, q, hA0, hV, rfl, hfz, hnd⟩ := hW
  have hA : DataW.TrodAll enc Try.prog W 0 (fun _ => true) true Try.f11.params.toList args.toList ds p := hA0
  rw [Try.params11] at hA hval
  obtain ⟨v0, vs0, d0, ds0, p0, q0, hargs, rfl, rfl, h0, rr0⟩ := trodAll_cons hA
  obtain ⟨v1, vs1, d1, ds1, p1, q1, rfl, rfl, rfl, h1, rr1⟩ := trodAll_cons rr0
  obtain ⟨v2, vs2, d2, ds2, p2, q2, rfl, rfl, rfl, h2, rr2⟩ := trodAll_cons rr1
  obtain ⟨rfl, rfl, rfl⟩ := trodAll_nil rr2
  obtain rfl : args = #[v0, v1, v2] := by cases args; simp_all
  obtain ⟨rfl, rfl⟩ := trodVars_none hV
  have lt0 : ∀ x ∈ p0, x.block < W.heap.size := by obtain ⟨m, hm⟩ := h0; exact DataW.trod_lt m _ _ _ hm
  have kk0 := h0
  have lt1 : ∀ x ∈ p1, x.block < W.heap.size := by obtain ⟨m, hm⟩ := h1; exact DataW.trod_lt m _ _ _ hm
  have kk1 := h1
  have lt2 : ∀ x ∈ p2, x.block < W.heap.size := by obtain ⟨m, hm⟩ := h2; exact DataW.trod_lt m _ _ _ hm
  have kk2 := h2
  obtain ⟨cs0, rfl⟩ := okWide_agg Try.underlying52 (hval 0 52 v0 rfl rfl)
  obtain ⟨fuel0, hf0⟩ := h0
  obtain ⟨l0, r0d⟩ := opens_rcp enc W _ _ _ fuel0 _ _ hf0
  simp only [Value.cells] at r0d
  obtain ⟨cs1, rfl⟩ := okWide_agg Try.underlying62 (hval 1 62 v1 rfl rfl)
  obtain ⟨fuel1, hf1⟩ := h1
  obtain ⟨l1, r1d⟩ := opens_req enc W _ _ _ fuel1 _ _ hf1
  simp only [Value.cells] at r1d
  obtain ⟨a2, rfl, rfl, rfl, w2⟩ := open_int Try.underlying5 (hval 2 5 v2 rfl rfl) h2
  clear hA0 hval0
  refine (checkParts_row (wf_u8 w2) r0d r1d).mono fun e W' ⟨he, bel⟩ => ?_
  subst he
  exact ⟨_, rfl, _, _, _, [], _, [], hW', trodAll_mk1 (shut_bool Try.underlying4 _), (trodAll_cons_mk (Below.trod laidOut (by kernel_rfl) (of_decide_eq_true (by kernel_rfl)) kk0 bel lt0) (trodAll_cons_mk (Below.trod laidOut (by kernel_rfl) (of_decide_eq_true (by kernel_rfl)) kk1 bel lt1) (trodAll_cons_mk (Below.trod laidOut (by kernel_rfl) (of_decide_eq_true (by kernel_rfl)) kk2 bel lt2) trodAll_mk0))), rfl, bel.frame _, fun h => by cases h⟩

theorem over : Rows.checkPartsRow.holds Try.pinned (OpenSpec.ofChange Rows.checkPartsSpec) :=
  OpenClaim.holds_of_wide 11 Try.f11 rfl rfl rfl rfl rfl rfl rfl ⟨rfl, rfl, rfl, rfl, rfl⟩ rfl rfl rfl rfl rfl (by kernel_rfl) Try.func11 (by kernel_rfl)
    (of_decide_eq_true (by kernel_rfl)) (by unfold Func.isWrapper; first | (rw [if_pos (by decide +kernel)]; kernel_rfl) | (rw [if_neg (by decide +kernel)]; exact ⟨rfl, rfl⟩))
    (fun os started H enc _ => lifted os started H enc)

theorem proved : Rows.CheckPartsSaid := over
#print axioms proved
end Go.Proofs.Ytnelgellbabkoaa.checkPartsRow
