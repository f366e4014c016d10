/- The given statement, and what it needs. Texts merged: ChkZ, ChkX, ChkN, CheckNamesRow. Condition: none beyond what each says. -/
import Derived.Deep.RegionHeld3
import Derived.Test.YtnelgellbabkoaaRows
import Derived.OpenShut
import Derived.ShutString
import Derived.ChangeOld
import Derived.Test.YtnelgellbabkoaaCheckNamesAll1
import Derived.Test.YtnelgellbabkoaaCheckNamesAll2
import Derived.Test.YtnelgellbabkoaaCheckNamesAll3
import Derived.Test.YtnelgellbabkoaaCheckNamesAll4
import Derived.Test.YtnelgellbabkoaaCheckNamesAll5
/- The walk of cooperref09.Recipe: a recipe's first problem. Condition: few packages, few variants of few values. -/
namespace Go.Proofs.Ytnelgellbabkoaa
open Go.RowKit Go.Shelf
attribute [local go_sem ↓] Go.wp_at_zero Go.wp_at_succ

set_option maxRecDepth 10000 in
set_option maxHeartbeats 16000000 in
theorem rcpRef_any {w : World} {v u : Value} {l : List Pkg} {pf : List Prf} (h : RSlice 8 RPkg w [v] l) (hpf : RSlice 3 RPrf w [u] pf) (hl : l.length ≤ 1000000) (hsm : ∀ x ∈ l, PkgSmall x) : Calls Try.prog 36 #[.agg #[v, u]] w fun e w' => e = .returned (.agg #[.int .u8 (rcpOf l pf).1, .int .i64 (rcpOf l pf).2]) ∧ Below w.heap.size w w' := by
  have hP := fun (W : World) (hb : Below w.heap.size w W) (k : Nat) (hk : k < l.length) => alone_any (pw := u) (stays_slice stays_pkg _ _ _ _ h hb) hl hk (hsm _ (List.getElem_mem hk))
  have hR := fun (W : World) (hb : Below w.heap.size w W) (q0 q1 q2 q4 q7 u3 u5 u6 : Value) (x : Pkg) (h3 : RVars w [u3] x.2.2.2.1) (h5 : RSlice 7 RDpd w [u5] x.2.2.2.2.2.1) (h6 : RSlice 7 RDpd w [u6] x.2.2.2.2.2.2.1) => rulesRef_any (q0 := q0) (q1 := q1) (q2 := q2) (q4 := q4) (q7 := q7) (pw := u) (stays_slice stays_pkg _ _ _ _ h hb) hl (stays_slice stays_var _ _ _ _ h3 hb) (stays_slice stays_dpd _ _ _ _ h5 hb) (stays_slice stays_dpd _ _ _ _ h6 hb) (rulesOf l x) rfl
  have hF := fun (W : World) (hb : Below w.heap.size w W) (k : Nat) (hk : k < pf.length) => preferRef_any (stays_slice stays_pkg _ _ _ _ h hb) hl (stays_slice stays_prf _ _ _ _ hpf hb) hk
  obtain ⟨a, cap, rfl, hz, g⟩ := pkgs_open h
  obtain ⟨a2, cap2, rfl, hz2, _, g2⟩ := prfs_open3 hpf
  obtain ⟨n, hn⟩ : ∃ n, n = l.length := ⟨_, rfl⟩
  obtain ⟨n2, hn2⟩ : ∃ n, n = pf.length := ⟨_, rfl⟩
  obtain ⟨r, hr⟩ : ∃ r, r = rcpOf l pf := ⟨_, rfl⟩
  have hrr : r = if 24 < n then (1, lineAt l 24) else if 8 < n2 then (1, plineAt pf 8)
    else (firstI (packOf l) (lineAt l) n).getD ((firstBad (rul1 l) (rul2 l) l).getD ((firstI (prefX l pf) (plineAt pf) n2).getD (0, 0))) := by rw [hr, hn, hn2]; rfl
  rw [← hr]
  rw [← hn] at hz h hl hP hR hF
  rw [← hn2] at hz2 hpf hP hR hF
  rw [← hn, ← hn2]
  obtain ⟨nb, hnb⟩ : ∃ nb, nb = w.heap.size := ⟨_, rfl⟩
  obtain ⟨W0, hW0⟩ : ∃ W0, W0 = (w.alloc (.cells #[.slice a n cap, .slice a2 n2 cap2] 52)).alloc (.cells #[.int .u8 0, .int .i64 0] 55) := ⟨_, rfl⟩
  have hb0 : Below w.heap.size w W0 := by rw [hW0]; exact (below_alloc1 _ _).alloc (below_alloc1 _ _).size _
  have hbx : RcBox nb (.slice a n cap) (.slice a2 n2 cap2) W0 := by rw [hW0, hnb]; exact rcbox_new _ _ _
  obtain ⟨c0, c1⟩ := hbx.cells
  have nb0 : w.heap.size ≤ nb := by omega
  have Hh := Lib.hid h; have Hpf := Lib.hid hpf; have Hsm := Lib.hid hsm; have HP := Lib.hid hP; have HR := Lib.hid hR; have HF := Lib.hid hF; have Hg := Lib.hid g; have Hg2 := Lib.hid g2; have Hn := Lib.hid hn; have Hn2 := Lib.hid hn2; have Hr := Lib.hid hr; have Hrr := Lib.hid hrr; have Hb0 := Lib.hid hb0; have Hbx := Lib.hid hbx; have Hnb0 := Lib.hid nb0; clear h hpf hsm hP hR hF g g2 hn hn2 hr hrr hb0 hbx nb0
  go_enter Try.func36, Try.ntmps36
  go_upto_region 1 with (fail)
  rw [← hW0, ← hnb]
  have HW0 := Lib.hid hW0; have Hnb := Lib.hid hnb; clear hW0 hnb
  by_cases e1 : 24 < n
  · have k1 : decide ((24 : Int) < (n : Int)) = true := by simp; omega
    have hkl : 24 < l.length := by have := Hn.out; omega
    obtain ⟨b, off, u2, u3, u4, u5, u6, u7, rfl, hp⟩ := Hg.out 24 _ (List.getElem?_eq_getElem hkl)
    have hla : lineAt l 24 = l[24].2.1 := by unfold lineAt; rw [List.getElem?_eq_getElem hkl]
    obtain ⟨ln, hln⟩ : ∃ s, s = l[24].2.1 := ⟨_, rfl⟩
    have x1 := cell_later Hb0.out hp.c1
    rw [← hln] at x1
    have hf : r = (1, ln) := by rw [Hrr.out, if_pos e1, hla, hln]
    have k2 : (24 : Int) < (n : Int) := by omega
    simp only [Nat.reduceMul] at x1
    have Hp := Lib.hid hp; have Hln := Lib.hid hln; have Hla := Lib.hid hla; clear hp hln hla
    have hres := Hbx.out.res
    obtain ⟨y0, y1, y2, y3⟩ := prob_cells hres
    have Hres := Lib.hid hres; have Hf := Lib.hid hf; clear hres hf
    go_wp2_with fail
    (try simp only [Exit.inBlock, Exit.then])
    refine bodyPost_prob (g := nb + 1) rfl (by simp) (prob_set _ _ Hres.out) rfl ?_
    exact ⟨by rw [Hf.out], prob_bel _ _ Hb0.out (by have := Hnb0.out; omega)⟩
  have k1 : decide ((24 : Int) < (n : Int)) = false := by simp; omega
  have hrr2 := Hrr.out
  rw [if_neg e1] at hrr2
  by_cases e2 : 8 < n2
  · have k2 : decide ((8 : Int) < (n2 : Int)) = true := by simp; omega
    have hkl : 8 < pf.length := by have := Hn2.out; omega
    obtain ⟨b, off, u, rfl, _, _, x2, _⟩ := Hg2.out 8 _ (List.getElem?_eq_getElem hkl)
    have hla : plineAt pf 8 = pf[8].2.2.1 := by unfold plineAt; rw [List.getElem?_eq_getElem hkl]
    obtain ⟨ln, hln⟩ : ∃ s, s = pf[8].2.2.1 := ⟨_, rfl⟩
    rw [← hln] at x2
    have x2 := cell_later Hb0.out x2
    have hf : r = (1, ln) := by rw [hrr2, if_pos e2, hla, hln]
    have k3 : (8 : Int) < (n2 : Int) := by omega
    simp only [Nat.reduceMul] at x2
    have Hln := Lib.hid hln; have Hla := Lib.hid hla; have Hrr2 := Lib.hid hrr2; clear hln hla hrr2
    have hres := Hbx.out.res
    obtain ⟨y0, y1, y2, y3⟩ := prob_cells hres
    have Hres := Lib.hid hres; have Hf := Lib.hid hf; clear hres hf
    go_wp2_with fail
    (try simp only [Exit.inBlock, Exit.then])
    refine bodyPost_prob (g := nb + 1) rfl (by simp) (prob_set _ _ Hres.out) rfl ?_
    exact ⟨by rw [Hf.out], prob_bel _ _ Hb0.out (by have := Hnb0.out; omega)⟩
  have k2 : decide ((8 : Int) < (n2 : Int)) = false := by simp; omega
  rw [if_neg e2] at hrr2
  have Hrr2 := Lib.hid hrr2; clear hrr2
  go_wp2_with fail
  clear c0 c1 k1 k2
  go_loopw [31] (fun i wr => ∃ k : Nat, k ≤ n ∧ i = .int .i64 k ∧ (∀ j, j < k → packOf l j = 0) ∧ Below W0.heap.size W0 wr) (fun i _ => n - (intOf i).toNat)
  case atStart => exact ⟨0, Nat.zero_le _, rfl, fun _ h => by omega, Below.refl _ _⟩
  case round =>
    obtain ⟨k, hk, rfl, hno, hb⟩ := hrel
    have hbw := Hb0.out.trans (hb.mono Hb0.out.size)
    have hbx1 := Hbx.out.below hb
    obtain ⟨c0, c1⟩ := hbx1.cells
    by_cases hlt : k < n
    · have hkl : k < l.length := by have := Hn.out; omega
      obtain ⟨b, off, u2, u3, u4, u5, u6, u7, rfl, hp⟩ := Hg.out k _ (List.getElem?_eq_getElem hkl)
      have hbad := fun h => firstI_at (ln := lineAt l) hlt hno h
      have hnx : packOf l k = 0 → ∀ j, j < k + 1 → packOf l j = 0 := fun h j hj => by
        by_cases e : j = k
        · rw [e]; exact h
        · exact hno j (by omega)
      have hla : lineAt l k = l[k].2.1 := by unfold lineAt; rw [List.getElem?_eq_getElem hkl]
      obtain ⟨x, hx⟩ : ∃ y, y = l[k] := ⟨_, rfl⟩
      rw [← hx] at hp hla
      obtain ⟨b2, m2, p2, rfl⟩ := slice_any_shape hp.r2
      obtain ⟨b3, m3, p3, rfl⟩ := slice_any_shape hp.r3
      obtain ⟨b4, m4, p4, rfl⟩ := slice_any_shape hp.r4
      obtain ⟨b5, m5, p5, rfl⟩ := slice_any_shape hp.r5
      obtain ⟨b6, m6, p6, rfl⟩ := slice_any_shape hp.r6
      obtain ⟨b7, m7, p7, rfl⟩ := slice_any_shape hp.r7
      have e0 := cell_later hbw hp.c0
      have e1 := cell_later hbw hp.c1
      have e2 := cell_later hbw hp.c2
      have e3 := cell_later hbw hp.c3
      have e4 := cell_later hbw hp.c4
      have e5 := cell_later hbw hp.c5
      have e6 := cell_later hbw hp.c6
      have e7 := cell_later hbw hp.c7
      obtain ⟨s0, hs0⟩ : ∃ s, s = x.1 := ⟨_, rfl⟩
      obtain ⟨ln, hln⟩ : ∃ s, s = x.2.1 := ⟨_, rfl⟩
      rw [← hs0] at e0
      rw [← hln] at e1 hla
      obtain ⟨c, hc⟩ : ∃ c, c = packOf l k := ⟨_, rfl⟩
      rw [← hc] at hbad hnx
      have hPc := fun (W : World) (hb : Below w.heap.size w W) => HP.out W hb k hlt
      rw [← hc] at hPc
      have k5 : (0 : Int) ≤ (k : Int) := by omega
      have k6 : (k : Int) < (n : Int) := by omega
      have hP1 := hPc wr hbw
      have Hno := Lib.hid hno; have Hb := Lib.hid hb; have Hbw := Lib.hid hbw; have Hbx1 := Lib.hid hbx1; have Hp := Lib.hid hp; have Hbad := Lib.hid hbad; have Hnx := Lib.hid hnx; have Hla := Lib.hid hla; have Hx := Lib.hid hx; have Hs0 := Lib.hid hs0; have Hln := Lib.hid hln; have Hc := Lib.hid hc; have HPc := Lib.hid hPc; have HP1 := Lib.hid hP1; clear hno hb hbw hbx1 hp hbad hnx hla hx hs0 hln hc hPc hP1
      go_wp2_with fail
      refine HP1.out.mono ?_
      rintro e w3 ⟨rfl, hbm⟩
      have hb2 := Hbw.out.trans (hbm.mono Hbw.out.size)
      have hbr2 := Hb.out.trans (hbm.mono Hb.out.size)
      have hbx3 := Hbx1.out.below hbm
      have d1 := cell_later hbm e1
      clear c0 c1 e0 e1 e2 e3 e4 e5 e6 e7
      obtain ⟨c0, c1⟩ := hbx3.cells
      have Hbm := Lib.hid hbm; have Hb2 := Lib.hid hb2; have Hbr2 := Lib.hid hbr2; have Hbx3 := Lib.hid hbx3; clear hbm hb2 hbr2 hbx3
      by_cases hc0 : c = 0
      · have k7 : (c != 0) = false := by simp [hc0]
        have hnz := Hnx.out hc0
        have Hnz := Lib.hid hnz; clear hnz
        go_wp2_with fail
        go_roundw
        case rel => exact ⟨k + 1, by omega, by go_num, Hnz.out, Hbr2.out⟩
        case measure => simp [intOf]; omega
      · have k7 : (c != 0) = true := by simp [hc0]
        have hf : r = (c, ln) := by rw [Hrr2.out, Hbad.out hc0, Hla.out]; rfl
        have hres := Hbx3.out.res
        obtain ⟨y0, y1, y2, y3⟩ := prob_cells hres
        have Hres := Lib.hid hres; have Hf := Lib.hid hf; clear hres hf
        go_wp2_with fail
        (try simp only [Exit.inBlock, Exit.then])
        refine bodyPost_prob (g := nb + 1) rfl (by simp) (prob_set _ _ Hres.out) rfl ?_
        exact ⟨by rw [Hf.out], prob_bel _ _ Hb2.out (by have := Hnb0.out; omega)⟩
    · obtain rfl : n = k := by omega
      have hfir : firstI (packOf l) (lineAt l) n = none := firstI_none hno
      have hrr3 := Hrr2.out
      rw [hfir] at hrr3
      clear hfir
      have Hno := Lib.hid hno; have Hb := Lib.hid hb; have Hbw := Lib.hid hbw; have Hbx1 := Lib.hid hbx1; have Hrr3 := Lib.hid hrr3; clear hno hb hbw hbx1 hrr3
      go_wp2_with fail
      clear c0 c1
      go_loopw [51] (fun i wr => ∃ k : Nat, k ≤ n ∧ i = .int .i64 k ∧ (∀ j (hj : j < l.length), j < k → rul1 l l[j] = 0) ∧ Below W0.heap.size W0 wr) (fun i _ => n - (intOf i).toNat)
      case atStart => exact ⟨0, Nat.zero_le _, rfl, fun _ _ h => by omega, Hb.out⟩
      case round =>
        obtain ⟨k, hk, rfl, hno, hb⟩ := hrel
        have hbw := Hb0.out.trans (hb.mono Hb0.out.size)
        have hbx1 := Hbx.out.below hb
        obtain ⟨c0, c1⟩ := hbx1.cells
        by_cases hlt : k < n
        · have hkl : k < l.length := by have := Hn.out; omega
          obtain ⟨b, off, u2, u3, u4, u5, u6, u7, rfl, hp⟩ := Hg.out k _ (List.getElem?_eq_getElem hkl)
          have hbad := fun h => firstBad_at (ln := rul2 l) hkl hno h
          have hnx := fun (h : rul1 l l[k] = 0) => zero_succ (k := k) hno (fun _ => h)
          obtain ⟨x, hx⟩ : ∃ y, y = l[k] := ⟨_, rfl⟩
          rw [← hx] at hp hbad hnx
          have hRc := fun (W : World) (hb : Below w.heap.size w W) (q0 q1 : Value) => HR.out W hb q0 q1 u2 u4 u7 u3 u5 u6 x hp.r3 hp.r5 hp.r6
          obtain ⟨b2, m2, p2, rfl⟩ := slice_any_shape hp.r2
          obtain ⟨b3, m3, p3, rfl⟩ := slice_any_shape hp.r3
          obtain ⟨b4, m4, p4, rfl⟩ := slice_any_shape hp.r4
          obtain ⟨b5, m5, p5, rfl⟩ := slice_any_shape hp.r5
          obtain ⟨b6, m6, p6, rfl⟩ := slice_any_shape hp.r6
          obtain ⟨b7, m7, p7, rfl⟩ := slice_any_shape hp.r7
          have e0 := cell_later hbw hp.c0
          have e1 := cell_later hbw hp.c1
          have e2 := cell_later hbw hp.c2
          have e3 := cell_later hbw hp.c3
          have e4 := cell_later hbw hp.c4
          have e5 := cell_later hbw hp.c5
          have e6 := cell_later hbw hp.c6
          have e7 := cell_later hbw hp.c7
          obtain ⟨s0, hs0⟩ : ∃ s, s = x.1 := ⟨_, rfl⟩
          obtain ⟨x1, hx1⟩ : ∃ s, s = x.2.1 := ⟨_, rfl⟩
          rw [← hs0] at e0
          rw [← hx1] at e1
          obtain ⟨c, hc⟩ : ∃ c, c = rul1 l x := ⟨_, rfl⟩
          obtain ⟨ln, hln⟩ : ∃ c, c = rul2 l x := ⟨_, rfl⟩
          rw [← hc, ← hln] at hbad
          rw [← hc] at hnx
          have hRc := fun (W : World) (hb : Below w.heap.size w W) => hRc W hb (.string s0) (.int .i64 x1)
          rw [show (rulesOf l x).1 = c from hc.symm, show (rulesOf l x).2 = ln from hln.symm] at hRc
          have k5 : (0 : Int) ≤ (k : Int) := by omega
          have k6 : (k : Int) < (n : Int) := by omega
          have hbz := bel_drewN hbw 1
          have hbr := bel_drewN hb 1
          have hcz : (wr.drewN 1).cell? ⟨nb, 0, none⟩ = some (.slice (some ⟨b, off, none⟩) n cap) ∧ (wr.drewN 1).cell? ⟨nb, 1, none⟩ = some (.slice a2 n2 cap2) ∧ (wr.drewN 1).cell? ⟨b, off + k * 8, none⟩ = some (.string s0) ∧ (wr.drewN 1).cell? ⟨b, off + k * 8 + 1, none⟩ = some (.int .i64 x1) ∧ (wr.drewN 1).cell? ⟨b, off + k * 8 + 2, none⟩ = some (.slice b2 m2 p2) ∧ (wr.drewN 1).cell? ⟨b, off + k * 8 + 3, none⟩ = some (.slice b3 m3 p3) ∧ (wr.drewN 1).cell? ⟨b, off + k * 8 + 4, none⟩ = some (.slice b4 m4 p4) ∧ (wr.drewN 1).cell? ⟨b, off + k * 8 + 5, none⟩ = some (.slice b5 m5 p5) ∧ (wr.drewN 1).cell? ⟨b, off + k * 8 + 6, none⟩ = some (.slice b6 m6 p6) ∧ (wr.drewN 1).cell? ⟨b, off + k * 8 + 7, none⟩ = some (.slice b7 m7 p7) := ⟨by simpa using c0, by simpa using c1, by simpa using e0, by simpa using e1, by simpa using e2, by simpa using e3, by simpa using e4, by simpa using e5, by simpa using e6, by simpa using e7⟩
          have hbxz := hbx1.below (bel_drewN (Below.refl wr.heap.size wr) 1)
          have Hno := Lib.hid hno; have Hb := Lib.hid hb; have Hbw := Lib.hid hbw; have Hbx1 := Lib.hid hbx1; have Hp := Lib.hid hp; have Hbad := Lib.hid hbad; have Hnx := Lib.hid hnx; have Hx := Lib.hid hx; have Hs0 := Lib.hid hs0; have Hln := Lib.hid hln; have Hc := Lib.hid hc; have Hx1 := Lib.hid hx1; have HRc := Lib.hid hRc; clear hno hb hbw hbx1 hp hbad hnx hx hs0 hln hc hx1 hRc
          go_wp2_with fail
          go_region_held3? (fun w' => w'.cell? ⟨nb, 0, none⟩ = some (.slice (some ⟨b, off, none⟩) n cap) ∧ w'.cell? ⟨nb, 1, none⟩ = some (.slice a2 n2 cap2) ∧ w'.cell? ⟨b, off + k * 8, none⟩ = some (.string s0) ∧ w'.cell? ⟨b, off + k * 8 + 1, none⟩ = some (.int .i64 x1) ∧ w'.cell? ⟨b, off + k * 8 + 2, none⟩ = some (.slice b2 m2 p2) ∧ w'.cell? ⟨b, off + k * 8 + 3, none⟩ = some (.slice b3 m3 p3) ∧ w'.cell? ⟨b, off + k * 8 + 4, none⟩ = some (.slice b4 m4 p4) ∧ w'.cell? ⟨b, off + k * 8 + 5, none⟩ = some (.slice b5 m5 p5) ∧ w'.cell? ⟨b, off + k * 8 + 6, none⟩ = some (.slice b6 m6 p6) ∧ w'.cell? ⟨b, off + k * 8 + 7, none⟩ = some (.slice b7 m7 p7)) (first | exact hcz | exact cz10_later hbA hcz | exact cz10_later (below_alloc1 _ _) hcz | exact cz10_later hbB2 hcz | exact cz10_later (prob_bel _ _ hbB2 (by simp)) hcz | exact cz10_later (hbA.alloc hbA.size _) hcz | go_keep) (first | (go_at_call 85; refine (HRc.out _ (by exact hbz)).mono ?_; rintro e wA ⟨rfl, hbA⟩; have ord1 : True := trivial; have hbz2 := hbz.trans (hbA.mono hbz.size); have hbr2 := hbr.trans (hbA.mono hbr.size); have hbxz2 := hbxz.below hbA) | (go_at_call 85; refine (HRc.out _ (by exact hbz.alloc hbz.size _)).mono ?_; rintro e wA ⟨rfl, hbA⟩; have ord2 : True := trivial; have hbz2 := (hbz.alloc hbz.size _).trans (hbA.mono (hbz.alloc hbz.size _).size); have hbr2 := (hbr.alloc hbr.size _).trans (hbA.mono (hbr.alloc hbr.size _).size); have hbB2 := (below_alloc1 (wr.drewN 1) (.cells #[.int .u8 0, .int .i64 0] 55)).trans (hbA.mono (below_alloc1 (wr.drewN 1) (.cells #[.int .u8 0, .int .i64 0] 55)).size); have hpz := heap_below hbA (heap_new_at (n := wr.heap.size) (by simp)); obtain ⟨y0, y1, y2, y3⟩ := prob_cells hpz))
          all_goals (first
            | (have := ord1
               obtain ⟨W4, hW4⟩ : ∃ W, W = wA.alloc (.cells #[.int .u8 c, .int .i64 ln] 55) := ⟨_, rfl⟩
               have hbm2 : Below wA.heap.size wA W4 := by rw [hW4]; exact below_alloc1 _ _
               have hb3 := hbz2.trans (hbm2.mono hbz2.size)
               have hbr3 := hbr2.trans (hbm2.mono hbr2.size)
               have hbx4 := hbxz2.below hbm2
               obtain ⟨E, hE⟩ : ∃ D, D = wA.heap.size := ⟨_, rfl⟩
               have hpb : W4.heap[E]? = some (.cells #[.int .u8 c, .int .i64 ln] 55 (0, 0)) := by rw [hW4, hE]; exact heap_alloc_new _ _
               rw [← hW4, ← hE])
            | (have := ord2
               obtain ⟨W4, hW4⟩ : ∃ W, W = (wA.setCell ⟨wr.heap.size, 0, none⟩ (.int .u8 c)).setCell ⟨wr.heap.size, 1, none⟩ (.int .i64 ln) := ⟨_, rfl⟩
               have hb3 : Below w.heap.size w W4 := by rw [hW4]; exact prob_bel _ _ hbz2 Hbw.out.size
               have hbr3 : Below W0.heap.size W0 W4 := by rw [hW4]; exact prob_bel _ _ hbr2 Hb.out.size
               have hbx4 : RcBox nb (.slice (some ⟨b, off, none⟩) n cap) (.slice a2 n2 cap2) W4 := by rw [hW4]; exact hbxz.below (prob_bel _ _ hbB2 (by simp))
               obtain ⟨E, hE⟩ : ∃ D, D = wr.heap.size := ⟨_, rfl⟩
               have hpb : W4.heap[E]? = some (.cells #[.int .u8 c, .int .i64 ln] 55 (0, 0)) := by rw [hW4, hE]; exact prob_set _ _ hpz
               have hbm2 : True := trivial
               rw [← hW4, ← hE]))
          all_goals
            clear c0 c1 e0 e1 e2 e3 e4 e5 e6 e7 hcz
            obtain ⟨t0, t1, _, _⟩ := prob_cells hpb
            obtain ⟨c0, c1⟩ := hbx4.cells
            have Hb3 := Lib.hid hb3; have Hbr3 := Lib.hid hbr3; have Hbx4 := Lib.hid hbx4; have Hpb := Lib.hid hpb; have Hbm2 := Lib.hid hbm2; have HW4 := Lib.hid hW4; have HE := Lib.hid hE; have Hbz := Lib.hid hbz; have Hbr := Lib.hid hbr; have Hbxz := Lib.hid hbxz; have HbA := Lib.hid hbA; have Hbz2 := Lib.hid hbz2; have Hbr2 := Lib.hid hbr2; clear hb3 hbr3 hbx4 hpb hbm2 hW4 hE hbz hbr hbxz hbA hbz2 hbr2
            by_cases hc0 : c = 0
            · have k7 : (c != 0) = false := by simp [hc0]
              have hnz := Hnx.out hc0
              have Hnz := Lib.hid hnz; clear hnz
              go_wp2_with fail
              go_roundw
              case rel => exact ⟨k + 1, by omega, by go_num, Hnz.out, Hbr3.out⟩
              case measure => simp [intOf]; omega
            · have k7 : (c != 0) = true := by simp [hc0]
              have hf : r = (c, ln) := by rw [Hrr3.out, Hbad.out hc0]; rfl
              have hres := Hbx4.out.res
              obtain ⟨y0, y1, y2, y3⟩ := prob_cells hres
              have Hres := Lib.hid hres; have Hf := Lib.hid hf; clear hres hf
              go_wp2_with fail
              (try simp only [Exit.inBlock, Exit.then])
              refine bodyPost_prob (g := nb + 1) rfl (by simp) (prob_set _ _ Hres.out) rfl ?_
              exact ⟨by rw [Hf.out], prob_bel _ _ Hb3.out (by have := Hnb0.out; omega)⟩
        · obtain rfl : n = k := by omega
          have hfir : firstBad (rul1 l) (rul2 l) l = none := firstBad_none (fun j hj => hno j hj (by have := Hn.out; omega))
          have hrr4 := Hrr3.out
          rw [hfir] at hrr4
          clear hfir
          have Hno := Lib.hid hno; have Hb := Lib.hid hb; have Hbw := Lib.hid hbw; have Hbx1 := Lib.hid hbx1; have Hrr4 := Lib.hid hrr4; clear hno hb hbw hbx1 hrr4
          go_wp2_with fail
          clear c0 c1
          go_loopw [69] (fun i wr => ∃ k : Nat, k ≤ n2 ∧ i = .int .i64 k ∧ (∀ j, j < k → prefX l pf j = 0) ∧ Below W0.heap.size W0 wr) (fun i _ => n2 - (intOf i).toNat)
          case atStart => exact ⟨0, Nat.zero_le _, rfl, fun _ h => by omega, Hb.out⟩
          case round =>
            obtain ⟨k, hk, rfl, hno, hb⟩ := hrel
            have hbw := Hb0.out.trans (hb.mono Hb0.out.size)
            have hbx1 := Hbx.out.below hb
            obtain ⟨c0, c1⟩ := hbx1.cells
            by_cases hlt : k < n2
            · have hkl : k < pf.length := by have := Hn2.out; omega
              obtain ⟨b, off, nv, rfl, e0, e1, e2, hnv⟩ := Hg2.out k _ (List.getElem?_eq_getElem hkl)
              have hbad := fun h => firstI_at (ln := plineAt pf) hlt hno h
              have hnx : prefX l pf k = 0 → ∀ j, j < k + 1 → prefX l pf j = 0 := fun h j hj => by
                by_cases e : j = k
                · rw [e]; exact h
                · exact hno j (by omega)
              have hla : plineAt pf k = pf[k].2.2.1 := by unfold plineAt; rw [List.getElem?_eq_getElem hkl]
              obtain ⟨s0, hs0⟩ : ∃ s, s = pf[k].1 := ⟨_, rfl⟩
              obtain ⟨ln, hln⟩ : ∃ s, s = pf[k].2.2.1 := ⟨_, rfl⟩
              rw [← hs0] at e0
              rw [← hln] at e2 hla
              obtain ⟨na, nn, nc, rfl⟩ := slice_any_shape hnv
              have e0 := cell_later hbw e0
              have e1 := cell_later hbw e1
              have e2 := cell_later hbw e2
              obtain ⟨c, hc⟩ : ∃ c, c = preferOf l pf k := ⟨_, rfl⟩
              have hpx : prefX l pf k = if c then 0 else 10 := by rw [hc]; rfl
              have hPc := fun (W : World) (hb : Below w.heap.size w W) => HF.out W hb k hlt
              rw [← hc] at hPc
              have k5 : (0 : Int) ≤ (k : Int) := by omega
              have k6 : (k : Int) < (n2 : Int) := by omega
              have hP1 := hPc wr hbw
              have Hno := Lib.hid hno; have Hb := Lib.hid hb; have Hbw := Lib.hid hbw; have Hbx1 := Lib.hid hbx1; have Hbad := Lib.hid hbad; have Hnx := Lib.hid hnx; have Hla := Lib.hid hla; have Hs0 := Lib.hid hs0; have Hln := Lib.hid hln; have Hc := Lib.hid hc; have HPc := Lib.hid hPc; have HP1 := Lib.hid hP1; have Hnv := Lib.hid hnv; have Hpx := Lib.hid hpx; clear hno hb hbw hbx1 hbad hnx hla hs0 hln hc hPc hP1 hnv hpx
              go_wp2_with fail
              refine HP1.out.mono ?_
              rintro e w3 ⟨rfl, hbm⟩
              have hb2 := Hbw.out.trans (hbm.mono Hbw.out.size)
              have hbr2 := Hb.out.trans (hbm.mono Hb.out.size)
              have hbx3 := Hbx1.out.below hbm
              have d2 := cell_later hbm e2
              clear c0 c1 e0 e1 e2
              obtain ⟨c0, c1⟩ := hbx3.cells
              have Hbm := Lib.hid hbm; have Hb2 := Lib.hid hb2; have Hbr2 := Lib.hid hbr2; have Hbx3 := Lib.hid hbx3; clear hbm hb2 hbr2 hbx3
              cases c with
              | true =>
                have hnz := Hnx.out (by rw [Hpx.out]; rfl)
                have Hnz := Lib.hid hnz; clear hnz
                go_wp2_with fail
                go_roundw
                case rel => exact ⟨k + 1, by omega, by go_num, Hnz.out, Hbr2.out⟩
                case measure => simp [intOf]; omega
              | false =>
                have hpv : prefX l pf k = 10 := by rw [Hpx.out]; rfl
                have hf : r = (10, ln) := by rw [Hrr4.out, Hbad.out (by rw [hpv]; decide), hpv, Hla.out]; rfl
                clear hpv
                have hres := Hbx3.out.res
                obtain ⟨y0, y1, y2, y3⟩ := prob_cells hres
                have Hres := Lib.hid hres; have Hf := Lib.hid hf; clear hres hf
                go_wp2_with fail
                (try simp only [Exit.inBlock, Exit.then])
                refine bodyPost_prob (g := nb + 1) rfl (by simp) (prob_set _ _ Hres.out) rfl ?_
                exact ⟨by rw [Hf.out], prob_bel _ _ Hb2.out (by have := Hnb0.out; omega)⟩
            · obtain rfl : n2 = k := by omega
              have hfir : firstI (prefX l pf) (plineAt pf) n2 = none := firstI_none hno
              have hf : r = (0, 0) := by rw [Hrr4.out, hfir]; rfl
              have Hno := Lib.hid hno; have Hb := Lib.hid hb; have Hbw := Lib.hid hbw; have Hfir := Lib.hid hfir; clear hno hb hbw hfir
              have hres := hbx1.res
              obtain ⟨y0, y1, y2, y3⟩ := prob_cells hres
              have Hres := Lib.hid hres; have Hf := Lib.hid hf; clear hres hf
              go_wp2_with fail
              (try simp only [Exit.inBlock, Exit.then])
              refine bodyPost_prob (g := nb + 1) rfl (by simp) (prob_set _ _ Hres.out) rfl ?_
              exact ⟨by rw [Hf.out], prob_bel _ _ Hbw.out (by have := Hnb0.out; omega)⟩
end Go.Proofs.Ytnelgellbabkoaa

/- The walk of cooperlaw09.fixed: a package without releases. No condition. -/
namespace Go.Proofs.Ytnelgellbabkoaa
open Go.RowKit Go.Shelf
attribute [local go_sem ↓] Go.wp_at_zero Go.wp_at_succ

theorem prob_eqs (a b c d : Int) (W : World) : (binOp .eql 55 (.agg #[.int .u8 a, .int .i64 b]) (.agg #[.int .u8 c, .int .i64 d])).run Try.prog W = .ok (.bool (decide (a = c) && decide (b = d))) W := by
  have u9 := Try.underlying5
  have u3 := Try.underlying3
  have hS : Try.prog.underlying 55 = some (.struct (Try.prog.fieldsOf 55)) := by kernel_rfl
  have hp : Try.prog.stoodInHeld 55 = false := by kernel_rfl
  rw [run_eql_struct, show (10000 : Nat) = 9999 + 1 from rfl, run_equalIn_agg W 9999 55 _ _ hS hp]
  simp only [Program.fieldsOf, Try.underlying55]
  go_simp
  by_cases h1 : a = c <;> by_cases h2 : b = d <;> simp [h1, h2]
theorem rcp_cells {w : World} {cs : List Value} {x : Rcp} (h : RRcp w cs x) : ∃ v u, cs = [v, u] ∧ RSlice 8 RPkg w [v] x.1 ∧ RSlice 3 RPrf w [u] x.2.1 := by
  obtain ⟨a0, t0, rfl, l0, h0, a1, t1, rfl, l1, h1, h2⟩ := h
  obtain rfl : t1 = [] := h2
  match a0, l0, a1, l1 with
  | [v], _, [u], _ => exact ⟨v, u, rfl, h0, h1⟩
theorem rcp_arg {w : World} {cs : Array Value} {x : Rcp} (h : RRcp w cs.toList x) : ∃ v u, cs = #[v, u] ∧ RSlice 8 RPkg w [v] x.1 ∧ RSlice 3 RPrf w [u] x.2.1 := by
  obtain ⟨v, u, hc, h1, h2⟩ := rcp_cells h
  exact ⟨v, u, by rw [← Array.toArray_toList (xs := cs), hc], h1, h2⟩
def ex09 : Pkg := (⟨#[97]⟩, 3, [], [], [], [], [], [], ())
theorem nil_reads {α : Type} {sz : Nat} (R : Rd α) (w : World) : RSlice sz R w [.slice none 0 0] [] := ⟨none, 0, rfl, Nat.le_refl _, by decide, fun i x hi => by simp at hi⟩
theorem ex09_reads (w : World) : RSlice 8 RPkg (w.alloc (.cells #[.string ⟨#[97]⟩, .int .i64 3, .slice none 0 0, .slice none 0 0, .slice none 0 0, .slice none 0 0, .slice none 0 0, .slice none 0 0] 68)) [.slice (some ⟨w.heap.size, 0, none⟩) 1 1] [ex09] := by
  refine ⟨_, _, rfl, Nat.le_refl _, (by decide : 1 ≤ maxLen), fun i x hi => ?_⟩
  match i, hi with
  | 0, hi =>
    simp at hi; subst hi
    refine ⟨w.heap.size, 0, [.string ⟨#[97]⟩, .int .i64 3, .slice none 0 0, .slice none 0 0, .slice none 0 0, .slice none 0 0, .slice none 0 0, .slice none 0 0], rfl, rfl, fun j u hj => ?_, _, _, rfl, rfl, ⟨rfl, by decide⟩, _, _, rfl, rfl, ⟨rfl, by decide⟩, [_], _, rfl, rfl, nil_reads _ _, [_], _, rfl, rfl, nil_reads _ _, [_], _, rfl, rfl, nil_reads _ _, [_], _, rfl, rfl, nil_reads _ _, [_], _, rfl, rfl, nil_reads _ _, [_], [], rfl, rfl, nil_reads _ _, rfl⟩
    have := cells_at (heap_alloc_new w (.cells #[.string ⟨#[97]⟩, .int .i64 3, .slice none 0 0, .slice none 0 0, .slice none 0 0, .slice none 0 0, .slice none 0 0, .slice none 0 0] 68)) j
    rw [show 0 + 0 * 8 + j = j by omega, this]; simpa using hj
set_option maxRecDepth 10000 in
set_option maxHeartbeats 1000000 in
theorem fixed09 (w : World) : Calls Try.prog 34 #[] w fun e w' => e = .returned (.bool true) ∧ Below w.heap.size w w' := by
  obtain ⟨W1, hW1⟩ : ∃ W1, W1 = w.alloc (.cells #[.string ⟨#[97]⟩, .int .i64 3, .slice none 0 0, .slice none 0 0, .slice none 0 0, .slice none 0 0, .slice none 0 0, .slice none 0 0] 68) := ⟨_, rfl⟩
  have hb1 : Below w.heap.size w W1 := by rw [hW1]; exact below_alloc1 _ _
  have hr := ex09_reads w
  rw [← hW1] at hr
  have hC := rcp_any (pf := []) hr (nil_reads RPrf W1) (by decide) (fun x hx => by simp at hx; subst hx; exact ⟨by decide, fun v hv => by simp [ex09] at hv⟩)
  have hE : rcpOf [ex09] [] = (4, 3) := by decide +kernel
  rw [hE] at hC
  have q1 := prob_eqs 4 3 4 3
  simp only [decide_true, Bool.and_true] at q1
  obtain ⟨nb, hnb⟩ : ∃ nb, nb = w.heap.size := ⟨_, rfl⟩
  rw [← hnb] at hC
  have Hb1 := Lib.hid hb1; have Hr := Lib.hid hr; have HC := Lib.hid hC; have HE := Lib.hid hE; clear hb1 hr hC hE
  go_enter Try.func34, Try.ntmps34
  go_wp2_with fail
  rw [← hW1, ← hnb]
  have HW1 := Lib.hid hW1; have Hnb := Lib.hid hnb; clear hW1 hnb
  refine HC.out.mono ?_
  rintro e w2 ⟨rfl, hb2⟩
  have hb3 := Hb1.out.trans (hb2.mono Hb1.out.size)
  have Hb2 := Lib.hid hb2; have Hb3 := Lib.hid hb3; clear hb2 hb3
  go_wp2_with fail
  go_ret
  exact ⟨rfl, Hb3.out⟩
end Go.Proofs.Ytnelgellbabkoaa

/- The walk of cooperlaw09.CheckNames: it returns true. No condition. -/
namespace Go.Proofs.Ytnelgellbabkoaa
open Go.RowKit Go.Shelf
attribute [local go_sem ↓] Go.wp_at_zero Go.wp_at_succ

set_option maxRecDepth 10000 in
set_option maxHeartbeats 8000000 in
theorem checkNames_true {w : World} {v u : Value} {l : List Pkg} {pf : List Prf} (h : RSlice 8 RPkg w [v] l) (hpf : RSlice 3 RPrf w [u] pf) (s : ByteArray) : Calls Try.prog 10 #[.agg #[v, u], .string s] w fun e w' => e = .returned (.bool true) ∧ Below w.heap.size w w' := by
  have hF := fun W => fixed09 W
  have hb0 : Below w.heap.size w (w.alloc (.cells #[v, u] 52)) := below_alloc1 _ _
  have hG := greatRcp_any (stays_slice stays_pkg _ _ _ _ h hb0) (stays_slice stays_prf _ _ _ _ hpf hb0)
  have hP := fun (W : World) (hb : Below w.heap.size w W) (hl : l.length ≤ 1000000) => providers_any (pw := u) (stays_slice stays_pkg _ _ _ _ h hb) hl s
  have hQ := fun (W : World) (hb : Below w.heap.size w W) (hl : l.length ≤ 1000000) => providersRef_any (pw := u) (stays_slice stays_pkg _ _ _ _ h hb) hl s
  have hI := fun (W : World) (hb : Below w.heap.size w W) => find_any (pv := u) (stays_slice stays_pkg _ _ _ _ h hb) s
  have hJ := fun (W : World) (hb : Below w.heap.size w W) => findRef_any (pv := u) (stays_slice stays_pkg _ _ _ _ h hb) s
  have hV := fun (W : World) (hb : Below w.heap.size w W) (hl : l.length ≤ 1000000) => virtual_any (pw := u) (stays_slice stays_pkg _ _ _ _ h hb) hl s
  have hX := fun (W : World) (hb : Below w.heap.size w W) (hl : l.length ≤ 1000000) => virtualRef_any (pw := u) (stays_slice stays_pkg _ _ _ _ h hb) hl s
  obtain ⟨nb, hnb⟩ : ∃ nb, nb = w.heap.size := ⟨_, rfl⟩
  obtain ⟨W0, hW0⟩ : ∃ W0, W0 = w.alloc (.cells #[v, u] 52) := ⟨_, rfl⟩
  have hbx : W0.heap[nb]? = some (.cells #[v, u] 52 (0, 0)) := by rw [hW0, hnb]; exact heap_alloc_new _ _
  rw [← hW0] at hb0 hG
  obtain ⟨a, cap, rfl, hz, _⟩ := pkgs_open h
  obtain ⟨a2, cap2, rfl, hz2, _⟩ := prfs_open hpf
  obtain ⟨n, hn⟩ : ∃ n, n = l.length := ⟨_, rfl⟩
  obtain ⟨n2, hn2⟩ : ∃ n, n = pf.length := ⟨_, rfl⟩
  obtain ⟨i, hi⟩ : ∃ i, i = idxOf (named s) l := ⟨_, rfl⟩
  obtain ⟨m, hm⟩ : ∃ m, m = (pv s l l.length).length := ⟨_, rfl⟩
  have hml : m ≤ l.length := by rw [hm]; exact pv_le s l l.length
  obtain ⟨P, hPd⟩ : ∃ P, P = (pv s l l.length).map natv := ⟨_, rfl⟩
  have hPe : ∀ j, j < m → ∃ x : Int, P[j]? = some (.int .i64 x) := fun j hj => by
    rw [hPd, List.getElem?_map, List.getElem?_eq_getElem (by omega)]
    exact ⟨_, rfl⟩
  obtain ⟨r, hr⟩ : ∃ r, r = virtOf s l := ⟨_, rfl⟩
  rw [← hi] at hI hJ
  rw [← hPd, ← hm] at hP hQ
  rw [← hr] at hV hX
  rw [← hn] at hz h hG hP hQ hI hJ hV hX hbx hW0 hml
  rw [← hn2] at hz2 hpf hG hP hQ hI hJ hV hX hbx hW0
  rw [← hn, ← hn2]
  have c0 := cells_at hbx 0
  have c1 := cells_at hbx 1
  simp only [List.getElem?_toArray, List.getElem?_cons_zero, List.getElem?_cons_succ] at c0 c1
  have i1 : (i == i) = true := by simp
  have i2 : (r == r) = true := by simp
  have i3 : ((m : Int) != (m : Int)) = false := by simp
  have Hh := Lib.hid h; have Hpf := Lib.hid hpf; have Hn := Lib.hid hn; have Hn2 := Lib.hid hn2; have Hb0 := Lib.hid hb0; have HF := Lib.hid hF; have HG := Lib.hid hG; have HP := Lib.hid hP; have HQ := Lib.hid hQ; have HI := Lib.hid hI; have HJ := Lib.hid hJ; have HV := Lib.hid hV; have HX := Lib.hid hX; have Hi := Lib.hid hi; have Hm := Lib.hid hm; have HPd := Lib.hid hPd; have HPe := Lib.hid hPe; have Hr := Lib.hid hr; have Hbx := Lib.hid hbx; clear h hpf hn hn2 hb0 hF hG hP hQ hI hJ hV hX hi hm hPd hPe hr hbx
  go_enter Try.func10, Try.ntmps10
  go_upto_region 1 with (fail)
  rw [← hW0, ← hnb]
  have HW0 := Lib.hid hW0; have Hnb := Lib.hid hnb; clear hW0 hnb
  go_wp2_with fail
  refine HG.out.mono ?_
  rintro e w1 ⟨⟨gr, rfl, hsm⟩, hb1⟩
  have hb2 := Hb0.out.trans (hb1.mono Hb0.out.size)
  cases gr with
  | true =>
    clear hsm
    have Hb1 := Lib.hid hb1; have Hb2 := Lib.hid hb2; clear hb1 hb2
    go_wp2_with fail
    refine (HF.out _).mono ?_
    rintro e w2 ⟨rfl, hb3⟩
    have hb4 := Hb2.out.trans (hb3.mono Hb2.out.size)
    have Hb3 := Lib.hid hb3; have Hb4 := Lib.hid hb4; clear hb3 hb4
    go_wp2_with fail
    go_ret
    exact ⟨rfl, Hb4.out⟩
  | false =>
    have hn30 := (hsm rfl).1
    clear hsm
    by_cases hs : 1000 < s.size
    · have k1 : decide ((1000 : Int) < (s.size : Int)) = true := by simp; omega
      have Hb1 := Lib.hid hb1; have Hb2 := Lib.hid hb2; clear hb1 hb2
      go_wp2_with fail
      refine (HF.out _).mono ?_
      rintro e w2 ⟨rfl, hb3⟩
      have hb4 := Hb2.out.trans (hb3.mono Hb2.out.size)
      have Hb3 := Lib.hid hb3; have Hb4 := Lib.hid hb4; clear hb3 hb4
      go_wp2_with fail
      go_ret
      exact ⟨rfl, Hb4.out⟩
    have k1 : decide ((1000 : Int) < (s.size : Int)) = false := by simp; omega
    have hP' := fun W hb => HP.out W hb (by omega)
    have hQ' := fun W hb => HQ.out W hb (by omega)
    have hV' := fun W hb => HV.out W hb (by omega)
    have hX' := fun W hb => HX.out W hb (by omega)
    have hbz := bel_drewN hb2 1
    have hm30 : m ≤ 30 := by omega
    have d0 := cell_later hb1 c0
    have d1 := cell_later hb1 c1
    have hcz : (w1.drewN 1).cell? ⟨nb, 0, none⟩ = some (.slice a n cap) ∧ (w1.drewN 1).cell? ⟨nb, 1, none⟩ = some (.slice a2 n2 cap2) := ⟨d0, by simpa using d1⟩
    have Hb1 := Lib.hid hb1; have Hb2 := Lib.hid hb2; have HP' := Lib.hid hP'; have HQ' := Lib.hid hQ'; have HV' := Lib.hid hV'; have HX' := Lib.hid hX'; clear hb1 hb2 hP' hQ' hV' hX'
    go_wp2_with fail
    go_region_held3? (fun w' => w'.cell? ⟨nb, 0, none⟩ = some (.slice a n cap) ∧ w'.cell? ⟨nb, 1, none⟩ = some (.slice a2 n2 cap2)) (first | exact hcz | go_keep) (first | (go_at_call 37; refine (HP'.out _ (by exact hbz)).mono ?_; rintro e wA ⟨oA, rfl, hoA, hbA⟩; replace hbz := hbz.trans (hbA.mono hbz.size); obtain ⟨aA, cA, rfl⟩ := own_shape hoA; replace hcz : wA.cell? ⟨nb, 0, none⟩ = some (.slice a n cap) ∧ wA.cell? ⟨nb, 1, none⟩ = some (.slice a2 n2 cap2) := ⟨cell_later hbA hcz.1, cell_later hbA hcz.2⟩) | (go_at_call 38; refine (HQ'.out _ (by exact hbz)).mono ?_; rintro e wB ⟨oB, rfl, hoB, hbB⟩; replace hbz := hbz.trans (hbB.mono hbz.size); obtain ⟨aB, cB, rfl⟩ := own_shape hoB; replace hcz : wB.cell? ⟨nb, 0, none⟩ = some (.slice a n cap) ∧ wB.cell? ⟨nb, 1, none⟩ = some (.slice a2 n2 cap2) := ⟨cell_later hbB hcz.1, cell_later hbB hcz.2⟩))
    have hoA2 := ownsRow_below hoA hbB
    have hzB := hbz.size
    have f0 := hcz.1
    have f1 := hcz.2
    clear hcz
    have Hbz := Lib.hid hbz; have HoA := Lib.hid hoA; have HbA := Lib.hid hbA; have HoB := Lib.hid hoB; have HbB := Lib.hid hbB; have HoA2 := Lib.hid hoA2; clear hbz hoA hbA hoB hbB hoA2
    go_wp2_with fail
    go_loopw [29] (fun i wr => ∃ k : Nat, k ≤ m ∧ i = .int .i64 k ∧ ∃ q, wr = wB.drewN q) (fun i _ => m - (intOf i).toNat)
    case atStart => exact ⟨0, Nat.zero_le _, rfl, 0, rfl⟩
    case round =>
      obtain ⟨k, hk, rfl, q, rfl⟩ := hrel
      by_cases hlt : k < m
      · obtain ⟨gA, capA, hshA, _, _, _, _, hcA⟩ := ownsRow_some HoA2.out (by omega)
        obtain ⟨gB, capB, hshB, _, _, _, _, hcB⟩ := ownsRow_some HoB.out (by omega)
        simp only [Value.slice.injEq] at hshA hshB
        obtain ⟨rfl, hA2, rfl⟩ := hshA
        obtain ⟨rfl, hB2, rfl⟩ := hshB
        obtain ⟨x, hx⟩ := HPe.out k hlt
        have e0 := hcA k _ hx
        have e1 := hcB k _ hx
        have k5 : (0 : Int) ≤ (k : Int) := by omega
        have k6 : (k : Int) < (m : Int) := by omega
        have k7 : (x != x) = false := by simp
        clear hA2 hB2 hx hcA hcB
        go_wp2_with fail
        go_region
        go_wp2_with fail
        go_roundw
        case rel => exact ⟨k + 1, by omega, by go_num, _, rfl⟩
        case measure => simp [intOf]; omega
      · obtain rfl : m = k := by omega
        have hbz := bel_drewN (bel_drewN Hbz.out q) 1
        have hcz : ((wB.drewN q).drewN 1).cell? ⟨nb, 0, none⟩ = some (.slice a n cap) ∧ ((wB.drewN q).drewN 1).cell? ⟨nb, 1, none⟩ = some (.slice a2 n2 cap2) := ⟨by simpa using f0, by simpa using f1⟩
        go_wp2_with fail
        go_region_held3? (fun w' => w'.cell? ⟨nb, 0, none⟩ = some (.slice a n cap) ∧ w'.cell? ⟨nb, 1, none⟩ = some (.slice a2 n2 cap2)) (first | exact hcz | go_keep) (first | (go_at_call 34; refine (HF.out _).mono ?_; rintro e wC ⟨rfl, hbC⟩; replace hbz := hbz.trans (hbC.mono hbz.size); replace hcz : wC.cell? ⟨nb, 0, none⟩ = some (.slice a n cap) ∧ wC.cell? ⟨nb, 1, none⟩ = some (.slice a2 n2 cap2) := ⟨cell_later hbC hcz.1, cell_later hbC hcz.2⟩) | (go_at_call 39; refine (HI.out _ (by exact hbz)).mono ?_; rintro e wC ⟨rfl, hbC⟩; replace hbz := hbz.trans (hbC.mono hbz.size); replace hcz : wC.cell? ⟨nb, 0, none⟩ = some (.slice a n cap) ∧ wC.cell? ⟨nb, 1, none⟩ = some (.slice a2 n2 cap2) := ⟨cell_later hbC hcz.1, cell_later hbC hcz.2⟩) | (go_at_call 40; refine (HJ.out _ (by exact hbz)).mono ?_; rintro e wC ⟨rfl, hbC⟩; replace hbz := hbz.trans (hbC.mono hbz.size); replace hcz : wC.cell? ⟨nb, 0, none⟩ = some (.slice a n cap) ∧ wC.cell? ⟨nb, 1, none⟩ = some (.slice a2 n2 cap2) := ⟨cell_later hbC hcz.1, cell_later hbC hcz.2⟩) | (go_at_call 41; refine (HV'.out _ (by exact hbz)).mono ?_; rintro e wC ⟨rfl, hbC⟩; replace hbz := hbz.trans (hbC.mono hbz.size); replace hcz : wC.cell? ⟨nb, 0, none⟩ = some (.slice a n cap) ∧ wC.cell? ⟨nb, 1, none⟩ = some (.slice a2 n2 cap2) := ⟨cell_later hbC hcz.1, cell_later hbC hcz.2⟩) | (go_at_call 42; refine (HX'.out _ (by exact hbz)).mono ?_; rintro e wC ⟨rfl, hbC⟩; replace hbz := hbz.trans (hbC.mono hbz.size); replace hcz : wC.cell? ⟨nb, 0, none⟩ = some (.slice a n cap) ∧ wC.cell? ⟨nb, 1, none⟩ = some (.slice a2 n2 cap2) := ⟨cell_later hbC hcz.1, cell_later hbC hcz.2⟩))
        all_goals
          have Hbz := Lib.hid hbz; have Hcz := Lib.hid hcz; clear hbz hcz
          go_wp2_with fail
          go_ret
          exact ⟨by first | rfl | simp, Hbz.out⟩
theorem checkNames_row {w : World} {cs : Array Value} {x : Rcp} (h : RRcp w cs.toList x) (s : ByteArray) : Calls Try.prog 10 #[.agg cs, .string s] w fun e w' => e = .returned (.bool true) ∧ Below w.heap.size w w' := by
  obtain ⟨v, u, rfl, h1, h2⟩ := rcp_arg h
  exact checkNames_true h1 h2 s
end Go.Proofs.Ytnelgellbabkoaa

/- The given statement CheckNamesSaid: for every input the law returns true, and leaves what it was given as it was. No condition. -/
namespace Go.Proofs.Ytnelgellbabkoaa.checkNamesRow
open Go.ChangeShapes Go.WideShapes Go.ChangeAt Go.RowKit
open Go.ChangeMaps (open_string shut_string)
set_option linter.unusedVariables false

theorem own : ownKnob Try.prog.godebug = none := by kernel_rfl
theorem laidOut : laidOutB Try.prog = true := by kernel_rfl

set_option maxRecDepth 100000 in
theorem lifted (os : Os) (started : os.Started) (H : Type) (enc : TypeId × Value → H) :
    ReturnsInHanded {} Try.checked os 10 .any (Rows.checkNamesSpec.pre6 enc Try.prog Try.f10 Rows.checkNamesRow.domain false) (Rows.checkNamesSpec.post enc Try.prog Try.f10 false true false false) := by
  refine returnsInHanded_of_change (C := Try.checked) own started (by kernel_rfl) Try.func10
    (ChangeSpec.witness6 (enc := enc) (C := Try.checked) false ⟨#[], #[.agg #[.slice none 0 0, .slice none 0 0], .string ⟨#[]⟩], []⟩ 8 (by kernel_rfl) (by kernel_rfl) (by kernel_rfl) (by kernel_rfl)) ?_
  intro W base args ds gs before hval0 hW hcnd _
  have hval : ∀ (j : Nat) t v, Try.f10.params[j]? = some t → args[j]? = some v → Value.okWide Try.prog W .any base t v := hval0
  have hW' := hW
  obtain ⟨p, q, hA0, hV, rfl, hfz, hnd⟩ := hW
  have hA : DataW.TrodAll enc Try.prog W 0 (fun _ => true) true Try.f10.params.toList args.toList ds p := hA0
  rw [Try.params10] at hA hval
  obtain ⟨v0, vs0, d0, ds0, p0, q0, hargs, rfl, rfl, h0, rr0⟩ := trodAll_cons hA
  obtain ⟨v1, vs1, d1, ds1, p1, q1, rfl, rfl, rfl, h1, rr1⟩ := trodAll_cons rr0
  obtain ⟨rfl, rfl, rfl⟩ := trodAll_nil rr1
  obtain rfl : args = #[v0, v1] := by cases args; simp_all
  obtain ⟨rfl, rfl⟩ := trodVars_none hV
  have lt0 : ∀ x ∈ p0, x.block < W.heap.size := by obtain ⟨m, hm⟩ := h0; exact DataW.trod_lt m _ _ _ hm
  have kk0 := h0
  have lt1 : ∀ x ∈ p1, x.block < W.heap.size := by obtain ⟨m, hm⟩ := h1; exact DataW.trod_lt m _ _ _ hm
  have kk1 := h1
  obtain ⟨cs0, rfl⟩ := okWide_agg Try.underlying52 (hval 0 52 v0 rfl rfl)
  obtain ⟨fuel0, hf0⟩ := h0
  obtain ⟨l0, r0d⟩ := opens_rcp enc W _ _ _ fuel0 _ _ hf0
  simp only [Value.cells] at r0d
  obtain ⟨a1, rfl, rfl, rfl, w1⟩ := open_string Try.underlying9 (hval 1 9 v1 rfl rfl) h1
  clear hA0 hval0
  refine (checkNames_row r0d a1).mono fun e W' ⟨he, bel⟩ => ?_
  subst he
  exact ⟨_, rfl, _, _, _, [], _, [], hW', trodAll_mk1 (shut_bool Try.underlying4 _), (trodAll_cons_mk (Below.trod laidOut (by kernel_rfl) (of_decide_eq_true (by kernel_rfl)) kk0 bel lt0) (trodAll_cons_mk (Below.trod laidOut (by kernel_rfl) (of_decide_eq_true (by kernel_rfl)) kk1 bel lt1) trodAll_mk0)), rfl, bel.frame _, fun h => by cases h⟩

theorem over : Rows.checkNamesRow.holds Try.pinned (OpenSpec.ofChange Rows.checkNamesSpec) :=
  OpenClaim.holds_of_wide 10 Try.f10 rfl rfl rfl rfl rfl rfl rfl ⟨rfl, rfl, rfl, rfl, rfl⟩ rfl rfl rfl rfl rfl (by kernel_rfl) Try.func10 (by kernel_rfl)
    (of_decide_eq_true (by kernel_rfl)) (by unfold Func.isWrapper; first | (rw [if_pos (by decide +kernel)]; kernel_rfl) | (rw [if_neg (by decide +kernel)]; exact ⟨rfl, rfl⟩))
    (fun os started H enc _ => lifted os started H enc)

theorem proved : Rows.CheckNamesSaid := over
#print axioms proved
end Go.Proofs.Ytnelgellbabkoaa.checkNamesRow
