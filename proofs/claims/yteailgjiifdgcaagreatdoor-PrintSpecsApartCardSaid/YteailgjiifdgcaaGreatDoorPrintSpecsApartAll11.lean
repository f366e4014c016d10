/- Walks and plain facts. Texts merged: PrintSpecsApart. Condition: none beyond what each says. -/
import Derived.Test.YteailgjiifdgcaaGreatDoorPrintSpecsApartAll10
set_option linter.unusedVariables false
set_option linter.unusedSimpArgs false
/- The walk of cooperlaw07.PrintSpecsApart: the law. Condition: the library's variables as they were laid. -/
namespace Go.Proofs.YteailgjiifdgcaaGreatDoor
open Go.Shelf Go.RowKit Go.Lib VerN VarM
open LexM (Wd Ln)
attribute [local go_sem ↓] Go.wp_at_zero Go.wp_at_succ

theorem specR_apart {R : Reader} {s1 s2 : Spc3} {t1 t2 : ByteArray} (h1 : (t1, true) = specR R s1) (h2 : (t2, true) = specR R s2) : decide (t1 = t2) = decide (s1 = s2) := by
 have go : ∀ {s : Spc3} {t : ByteArray}, (t, true) = specR R s → t = specT s ∧ ReadsAs R t s := fun {s t} h => by
  by_cases hr : ReadsAs R (specT s) s
  ·rw [specR_yes hr] at h
   cases h
   exact ⟨rfl, hr⟩
  ·rw [specR_no hr] at h
   cases h
 obtain ⟨e1, r1⟩ := go h1
 obtain ⟨e2, r2⟩ := go h2
 refine decide_eq_decide.2 ⟨fun h => ?_, fun h => by rw [e1, e2, h]⟩
 subst h
 obtain ⟨-, l1, q1, -, q2⟩ := r1
 obtain ⟨-, l2, q3, -, q4⟩ := r2
 rw [q1] at q3
 cases q3
 rw [q2] at q4
 cases q4
 rfl
set_option maxRecDepth 10000 in
set_option maxHeartbeats 8000000 in
theorem apartC_any {w : World} {v1 v2 v3 v4 : Value} {m1 m2 : ByteArray} {L1 L2 : List BSp} {S1 S2 : List Setg} (h1 : RSps w [v1] L1) (h2 : RSets w [v2] S1) (h3 : RSps w [v3] L2) (h4 : RSets w [v4] S2) (hD : Doors w) :
  Calls Tryz.prog 8 #[.agg #[.string m1, v1, v2], .agg #[.string m2, v3, v4], .bool false] w fun e w' => e = .returned (.bool true) ∧ Below w.heap.size w w' := by
 have hG1 := fun (W : World) (k : Below w.heap.size w W) => greatSp_any (nm := m1) (stays_slice stays_spn _ _ _ _ h1 k) (stays_slice stays_set _ _ _ _ h2 k)
 have hG2 := fun (W : World) (k : Below w.heap.size w W) => greatSp_any (nm := m2) (stays_slice stays_spn _ _ _ _ h3 k) (stays_slice stays_set _ _ _ _ h4 k)
 have hFx := fun (W : World) (k : Below w.heap.size w W) => fixed07_any (hD.below k)
 have hSm := fun (W : World) (k : Below w.heap.size w W) => sameSpec_any (n := m1) (m := m2) (stays_slice stays_spn _ _ _ _ h1 k) (stays_slice stays_set _ _ _ _ h2 k) (stays_slice stays_spn _ _ _ _ h3 k) (stays_slice stays_set _ _ _ _ h4 k)
 have hC1 := fun (W : World) (k : Below w.heap.size w W) (l : List Tp) (hl : Sp (m1, L1, S1) l) => printCond_any (stays_slice stays_spn _ _ _ _ h1 k) (stays_slice stays_set _ _ _ _ h2 k) hl (hD.below k)
 have hC2 := fun (W : World) (k : Below w.heap.size w W) (l : List Tp) (hl : Sp (m2, L2, S2) l) => printCond_any (stays_slice stays_spn _ _ _ _ h3 k) (stays_slice stays_set _ _ _ _ h4 k) hl (hD.below k)
 have hW1 := fun (W : World) (k : Below w.heap.size w W) (l : List Tp) (hl : Sp (m1, L1, S1) l) => printWish_any (stays_slice stays_spn _ _ _ _ h1 k) (stays_slice stays_set _ _ _ _ h2 k) hl (hD.below k)
 have hW2 := fun (W : World) (k : Below w.heap.size w W) (l : List Tp) (hl : Sp (m2, L2, S2) l) => printWish_any (stays_slice stays_spn _ _ _ _ h3 k) (stays_slice stays_set _ _ _ _ h4 k) hl (hD.below k)
 obtain ⟨a1, c1, rfl⟩ := sps_shape h1
 obtain ⟨a2, c2, rfl⟩ := sets_shape h2
 obtain ⟨a3, c3, rfl⟩ := sps_shape h3
 obtain ⟨a4, c4, rfl⟩ := sets_shape h4
 obtain ⟨n1, hn1⟩ : ∃ n, n = L1.length := ⟨_, rfl⟩
 obtain ⟨n2, hn2⟩ : ∃ n, n = S1.length := ⟨_, rfl⟩
 obtain ⟨n3, hn3⟩ : ∃ n, n = L2.length := ⟨_, rfl⟩
 obtain ⟨n4, hn4⟩ : ∃ n, n = S2.length := ⟨_, rfl⟩
 simp only [← hn1, ← hn2, ← hn3, ← hn4] at hG1 hG2 hSm hC1 hC2 hW1 hW2 ⊢
 obtain ⟨W1, hW⟩ : ∃ W, W = (w.alloc (.cells #[.string m1, .slice a1 n1 c1, .slice a2 n2 c2] 51)).alloc (.cells #[.string m2, .slice a3 n3 c3, .slice a4 n4 c4] 51) := ⟨_, rfl⟩
 obtain ⟨g, hg⟩ : ∃ g, g = w.heap.size := ⟨_, rfl⟩
 have hb1 : Below w.heap.size w W1 := by rw [hW]; exact (below_alloc1 _ _).alloc (by simp) _
 have p0 : SpcBox g (.string m1) (.slice a1 n1 c1) (.slice a2 n2 c2) W1 := by rw [hW, hg]; exact heap_below (below_alloc1 _ _) (heap_new_at rfl)
 have p1 : SpcBox (g + 1) (.string m2) (.slice a3 n3 c3) (.slice a4 n4 c4) W1 := by rw [hW, hg]; exact heap_new_at (by simp)
 obtain ⟨x0, x1, x2, -⟩ := spc_cells p0
 obtain ⟨y0, y1, y2, -⟩ := spc_cells p1
 obtain ⟨s1, hs1⟩ : ∃ s : Spc3, s = (m1, L1, S1) := ⟨_, rfl⟩
 obtain ⟨s2, hs2⟩ : ∃ s : Spc3, s = (m2, L2, S2) := ⟨_, rfl⟩
 simp only [← hs1, ← hs2] at hG1 hG2 hSm hC1 hC2 hW1 hW2
 obtain ⟨z1, hz1⟩ : ∃ q, q = specR condW s1 := ⟨_, rfl⟩
 obtain ⟨z2, hz2⟩ : ∃ q, q = specR condW s2 := ⟨_, rfl⟩
 obtain ⟨u1, hu1⟩ : ∃ q, q = specR wishW s1 := ⟨_, rfl⟩
 obtain ⟨u2, hu2⟩ : ∃ q, q = specR wishW s2 := ⟨_, rfl⟩
 obtain ⟨same, hsame⟩ : ∃ b, b = decide (s1 = s2) := ⟨_, rfl⟩
 simp only [← hz1, ← hz2, ← hu1, ← hu2, ← hsame] at hC1 hC2 hW1 hW2 hSm
 obtain ⟨z1, zb1⟩ := z1
 obtain ⟨z2, zb2⟩ := z2
 obtain ⟨u1, ub1⟩ := u1
 obtain ⟨u2, ub2⟩ := u2
 dsimp only at hC1 hC2 hW1 hW2
 have Hp0 := Lib.hid p0
 have Hp1 := Lib.hid p1
 clear p0 p1
 obtain ⟨H1, H2, H3, H4, HD, HG1, HG2, HFx, HSm, HC1, HC2, HW1, HW2, Hb1, Hn1, Hn2⟩ := hd16 h1 h2 h3 h4 hD hG1 hG2 hFx hSm hC1 hC2 hW1 hW2 hb1 hn1 hn2; obtain ⟨Hn3, Hn4, Hs1, Hs2, Hz1, Hz2, Hu1, Hu2, Hsame⟩ := hd9 hn3 hn4 hs1 hs2 hz1 hz2 hu1 hu2 hsame; clear h1 h2 h3 h4 hD hG1 hG2 hFx hSm hC1 hC2 hW1 hW2 hb1 hn1 hn2 hn3 hn4 hs1 hs2 hz1 hz2 hu1 hu2 hsame
 go_enter Tryz.func8, Tryz.ntmps8
 go_upto_region 1 with (fail)
 rw [← hW, ← hg]
 clear hW hg
 go_wp2_with fail
 refine (HG1.out _ Hb1.out).mono ?_
 rintro e w2 ⟨⟨r1, rfl, hr1⟩, hs⟩
 have hb2 := Hb1.out.trans (hs.mono Hb1.out.size)
 have q0 := heap_below hs Hp0.out
 clear x0 x1 x2 Hp0
 obtain ⟨x0, x1, x2, -⟩ := spc_cells q0
 have Hp0 := Lib.hid q0
 clear q0
 have q1 := heap_below hs Hp1.out
 clear y0 y1 y2 Hp1
 obtain ⟨y0, y1, y2, -⟩ := spc_cells q1
 have Hp1 := Lib.hid q1
 clear q1
 obtain ⟨Hs, Hb2⟩ := hd2 hs hb2; clear hs hb2
 cases r1 with
 | true =>
  clear hr1
  go_wp2_with fail
  refine (HFx.out _ Hb2.out).mono ?_
  rintro e w3 ⟨rfl, hs⟩
  have hb3 := Hb2.out.trans (hs.mono Hb2.out.size)
  have q0 := heap_below hs Hp0.out
  clear x0 x1 x2 Hp0
  obtain ⟨x0, x1, x2, -⟩ := spc_cells q0
  have Hp0 := Lib.hid q0
  clear q0
  have q1 := heap_below hs Hp1.out
  clear y0 y1 y2 Hp1
  obtain ⟨y0, y1, y2, -⟩ := spc_cells q1
  have Hp1 := Lib.hid q1
  clear q1
  obtain ⟨Hs, Hb3⟩ := hd2 hs hb3; clear hs hb3
  go_wp2_with fail
  go_ret
  exact ⟨by first | rfl | simp, Hb3.out⟩
 | false =>
  obtain ⟨l1, hl1⟩ := sp_small (hr1 rfl)
  clear hr1
  have Hl1 := Lib.hid hl1
  clear hl1
  go_wp2_with fail
  refine (HG2.out _ Hb2.out).mono ?_
  rintro e w3 ⟨⟨r2, rfl, hr2⟩, hs⟩
  have hb3 := Hb2.out.trans (hs.mono Hb2.out.size)
  have q0 := heap_below hs Hp0.out
  clear x0 x1 x2 Hp0
  obtain ⟨x0, x1, x2, -⟩ := spc_cells q0
  have Hp0 := Lib.hid q0
  clear q0
  have q1 := heap_below hs Hp1.out
  clear y0 y1 y2 Hp1
  obtain ⟨y0, y1, y2, -⟩ := spc_cells q1
  have Hp1 := Lib.hid q1
  clear q1
  obtain ⟨Hs, Hb3⟩ := hd2 hs hb3; clear hs hb3
  cases r2 with
  | true =>
   clear hr2
   go_wp2_with fail
   refine (HFx.out _ Hb3.out).mono ?_
   rintro e w4 ⟨rfl, hs⟩
   have hb4 := Hb3.out.trans (hs.mono Hb3.out.size)
   have q0 := heap_below hs Hp0.out
   clear x0 x1 x2 Hp0
   obtain ⟨x0, x1, x2, -⟩ := spc_cells q0
   have Hp0 := Lib.hid q0
   clear q0
   have q1 := heap_below hs Hp1.out
   clear y0 y1 y2 Hp1
   obtain ⟨y0, y1, y2, -⟩ := spc_cells q1
   have Hp1 := Lib.hid q1
   clear q1
   obtain ⟨Hs, Hb4⟩ := hd2 hs hb4; clear hs hb4
   go_wp2_with fail
   go_ret
   exact ⟨by first | rfl | simp, Hb4.out⟩
  | false =>
   obtain ⟨l2, hl2⟩ := sp_small (hr2 rfl)
   clear hr2
   have hC1 := fun W k => HC1.out W k l1 (Hs1.out ▸ Hl1.out)
   have hC2 := fun W k => HC2.out W k l2 (Hs2.out ▸ hl2)
   have hW1 := fun W k => HW1.out W k l1 (Hs1.out ▸ Hl1.out)
   have hW2 := fun W k => HW2.out W k l2 (Hs2.out ▸ hl2)
   clear HC1 HC2 HW1 HW2
   obtain ⟨Hl2, HC1, HC2, HW1, HW2⟩ := hd5 hl2 hC1 hC2 hW1 hW2; clear hl2 hC1 hC2 hW1 hW2
   go_wp2_with fail
   refine (HC1.out _ Hb3.out).mono ?_
   rintro e w4 ⟨rfl, hs⟩
   have hb4 := Hb3.out.trans (hs.mono Hb3.out.size)
   have q0 := heap_below hs Hp0.out
   clear x0 x1 x2 Hp0
   obtain ⟨x0, x1, x2, -⟩ := spc_cells q0
   have Hp0 := Lib.hid q0
   clear q0
   have q1 := heap_below hs Hp1.out
   clear y0 y1 y2 Hp1
   obtain ⟨y0, y1, y2, -⟩ := spc_cells q1
   have Hp1 := Lib.hid q1
   clear q1
   obtain ⟨Hs, Hb4⟩ := hd2 hs hb4; clear hs hb4
   go_wp2_with fail
   refine (HC2.out _ Hb4.out).mono ?_
   rintro e w5 ⟨rfl, hs⟩
   have hb5 := Hb4.out.trans (hs.mono Hb4.out.size)
   have q0 := heap_below hs Hp0.out
   clear x0 x1 x2 Hp0
   obtain ⟨x0, x1, x2, -⟩ := spc_cells q0
   have Hp0 := Lib.hid q0
   clear q0
   have q1 := heap_below hs Hp1.out
   clear y0 y1 y2 Hp1
   obtain ⟨y0, y1, y2, -⟩ := spc_cells q1
   have Hp1 := Lib.hid q1
   clear q1
   obtain ⟨Hs, Hb5⟩ := hd2 hs hb5; clear hs hb5
   cases zb1 with
   | false =>
    go_wp2_with fail
    refine (HFx.out _ Hb5.out).mono ?_
    rintro e w6 ⟨rfl, hs⟩
    have hb6 := Hb5.out.trans (hs.mono Hb5.out.size)
    have q0 := heap_below hs Hp0.out
    clear x0 x1 x2 Hp0
    obtain ⟨x0, x1, x2, -⟩ := spc_cells q0
    have Hp0 := Lib.hid q0
    clear q0
    have q1 := heap_below hs Hp1.out
    clear y0 y1 y2 Hp1
    obtain ⟨y0, y1, y2, -⟩ := spc_cells q1
    have Hp1 := Lib.hid q1
    clear q1
    obtain ⟨Hs, Hb6⟩ := hd2 hs hb6; clear hs hb6
    go_wp2_with fail
    go_ret
    exact ⟨by first | rfl | simp, Hb6.out⟩
   | true =>
    cases zb2 with
    | false =>
     go_wp2_with fail
     refine (HFx.out _ Hb5.out).mono ?_
     rintro e w6 ⟨rfl, hs⟩
     have hb6 := Hb5.out.trans (hs.mono Hb5.out.size)
     have q0 := heap_below hs Hp0.out
     clear x0 x1 x2 Hp0
     obtain ⟨x0, x1, x2, -⟩ := spc_cells q0
     have Hp0 := Lib.hid q0
     clear q0
     have q1 := heap_below hs Hp1.out
     clear y0 y1 y2 Hp1
     obtain ⟨y0, y1, y2, -⟩ := spc_cells q1
     have Hp1 := Lib.hid q1
     clear q1
     obtain ⟨Hs, Hb6⟩ := hd2 hs hb6; clear hs hb6
     go_wp2_with fail
     go_ret
     exact ⟨by first | rfl | simp, Hb6.out⟩
    | true =>
     have heq := Txt.eq_dec z1 z2
     rw [specR_apart Hz1.out Hz2.out, ← Hsame.out] at heq
     go_wp2_with fail
     refine (HFx.out _ Hb5.out).mono ?_
     rintro e w6 ⟨rfl, hs⟩
     have hb6 := Hb5.out.trans (hs.mono Hb5.out.size)
     have q0 := heap_below hs Hp0.out
     clear x0 x1 x2 Hp0
     obtain ⟨x0, x1, x2, -⟩ := spc_cells q0
     have Hp0 := Lib.hid q0
     clear q0
     have q1 := heap_below hs Hp1.out
     clear y0 y1 y2 Hp1
     obtain ⟨y0, y1, y2, -⟩ := spc_cells q1
     have Hp1 := Lib.hid q1
     clear q1
     obtain ⟨Hs, Hb6⟩ := hd2 hs hb6; clear hs hb6
     go_wp2_with fail
     refine (HSm.out _ Hb6.out).mono ?_
     rintro e w7 ⟨rfl, hs⟩
     have hb7 := Hb6.out.trans (hs.mono Hb6.out.size)
     have q0 := heap_below hs Hp0.out
     clear x0 x1 x2 Hp0
     obtain ⟨x0, x1, x2, -⟩ := spc_cells q0
     have Hp0 := Lib.hid q0
     clear q0
     have q1 := heap_below hs Hp1.out
     clear y0 y1 y2 Hp1
     obtain ⟨y0, y1, y2, -⟩ := spc_cells q1
     have Hp1 := Lib.hid q1
     clear q1
     obtain ⟨Hs, Hb7⟩ := hd2 hs hb7; clear hs hb7
     cases same with
     | false =>
      go_wp2_with fail
      go_ret
      exact ⟨by first | rfl | simp, Hb7.out⟩
     | true =>
      go_wp2_with fail
      go_ret
      exact ⟨by first | rfl | simp, Hb7.out⟩
set_option maxRecDepth 10000 in
set_option maxHeartbeats 8000000 in
theorem apartW_any {w : World} {v1 v2 v3 v4 : Value} {m1 m2 : ByteArray} {L1 L2 : List BSp} {S1 S2 : List Setg} (h1 : RSps w [v1] L1) (h2 : RSets w [v2] S1) (h3 : RSps w [v3] L2) (h4 : RSets w [v4] S2) (hD : Doors w) :
  Calls Tryz.prog 8 #[.agg #[.string m1, v1, v2], .agg #[.string m2, v3, v4], .bool true] w fun e w' => e = .returned (.bool true) ∧ Below w.heap.size w w' := by
 have hG1 := fun (W : World) (k : Below w.heap.size w W) => greatSp_any (nm := m1) (stays_slice stays_spn _ _ _ _ h1 k) (stays_slice stays_set _ _ _ _ h2 k)
 have hG2 := fun (W : World) (k : Below w.heap.size w W) => greatSp_any (nm := m2) (stays_slice stays_spn _ _ _ _ h3 k) (stays_slice stays_set _ _ _ _ h4 k)
 have hFx := fun (W : World) (k : Below w.heap.size w W) => fixed07_any (hD.below k)
 have hSm := fun (W : World) (k : Below w.heap.size w W) => sameSpec_any (n := m1) (m := m2) (stays_slice stays_spn _ _ _ _ h1 k) (stays_slice stays_set _ _ _ _ h2 k) (stays_slice stays_spn _ _ _ _ h3 k) (stays_slice stays_set _ _ _ _ h4 k)
 have hC1 := fun (W : World) (k : Below w.heap.size w W) (l : List Tp) (hl : Sp (m1, L1, S1) l) => printCond_any (stays_slice stays_spn _ _ _ _ h1 k) (stays_slice stays_set _ _ _ _ h2 k) hl (hD.below k)
 have hC2 := fun (W : World) (k : Below w.heap.size w W) (l : List Tp) (hl : Sp (m2, L2, S2) l) => printCond_any (stays_slice stays_spn _ _ _ _ h3 k) (stays_slice stays_set _ _ _ _ h4 k) hl (hD.below k)
 have hW1 := fun (W : World) (k : Below w.heap.size w W) (l : List Tp) (hl : Sp (m1, L1, S1) l) => printWish_any (stays_slice stays_spn _ _ _ _ h1 k) (stays_slice stays_set _ _ _ _ h2 k) hl (hD.below k)
 have hW2 := fun (W : World) (k : Below w.heap.size w W) (l : List Tp) (hl : Sp (m2, L2, S2) l) => printWish_any (stays_slice stays_spn _ _ _ _ h3 k) (stays_slice stays_set _ _ _ _ h4 k) hl (hD.below k)
 obtain ⟨a1, c1, rfl⟩ := sps_shape h1
 obtain ⟨a2, c2, rfl⟩ := sets_shape h2
 obtain ⟨a3, c3, rfl⟩ := sps_shape h3
 obtain ⟨a4, c4, rfl⟩ := sets_shape h4
 obtain ⟨n1, hn1⟩ : ∃ n, n = L1.length := ⟨_, rfl⟩
 obtain ⟨n2, hn2⟩ : ∃ n, n = S1.length := ⟨_, rfl⟩
 obtain ⟨n3, hn3⟩ : ∃ n, n = L2.length := ⟨_, rfl⟩
 obtain ⟨n4, hn4⟩ : ∃ n, n = S2.length := ⟨_, rfl⟩
 simp only [← hn1, ← hn2, ← hn3, ← hn4] at hG1 hG2 hSm hC1 hC2 hW1 hW2 ⊢
 obtain ⟨W1, hW⟩ : ∃ W, W = (w.alloc (.cells #[.string m1, .slice a1 n1 c1, .slice a2 n2 c2] 51)).alloc (.cells #[.string m2, .slice a3 n3 c3, .slice a4 n4 c4] 51) := ⟨_, rfl⟩
 obtain ⟨g, hg⟩ : ∃ g, g = w.heap.size := ⟨_, rfl⟩
 have hb1 : Below w.heap.size w W1 := by rw [hW]; exact (below_alloc1 _ _).alloc (by simp) _
 have p0 : SpcBox g (.string m1) (.slice a1 n1 c1) (.slice a2 n2 c2) W1 := by rw [hW, hg]; exact heap_below (below_alloc1 _ _) (heap_new_at rfl)
 have p1 : SpcBox (g + 1) (.string m2) (.slice a3 n3 c3) (.slice a4 n4 c4) W1 := by rw [hW, hg]; exact heap_new_at (by simp)
 obtain ⟨x0, x1, x2, -⟩ := spc_cells p0
 obtain ⟨y0, y1, y2, -⟩ := spc_cells p1
 obtain ⟨s1, hs1⟩ : ∃ s : Spc3, s = (m1, L1, S1) := ⟨_, rfl⟩
 obtain ⟨s2, hs2⟩ : ∃ s : Spc3, s = (m2, L2, S2) := ⟨_, rfl⟩
 simp only [← hs1, ← hs2] at hG1 hG2 hSm hC1 hC2 hW1 hW2
 obtain ⟨z1, hz1⟩ : ∃ q, q = specR condW s1 := ⟨_, rfl⟩
 obtain ⟨z2, hz2⟩ : ∃ q, q = specR condW s2 := ⟨_, rfl⟩
 obtain ⟨u1, hu1⟩ : ∃ q, q = specR wishW s1 := ⟨_, rfl⟩
 obtain ⟨u2, hu2⟩ : ∃ q, q = specR wishW s2 := ⟨_, rfl⟩
 obtain ⟨same, hsame⟩ : ∃ b, b = decide (s1 = s2) := ⟨_, rfl⟩
 simp only [← hz1, ← hz2, ← hu1, ← hu2, ← hsame] at hC1 hC2 hW1 hW2 hSm
 obtain ⟨z1, zb1⟩ := z1
 obtain ⟨z2, zb2⟩ := z2
 obtain ⟨u1, ub1⟩ := u1
 obtain ⟨u2, ub2⟩ := u2
 dsimp only at hC1 hC2 hW1 hW2
 have Hp0 := Lib.hid p0
 have Hp1 := Lib.hid p1
 clear p0 p1
 obtain ⟨H1, H2, H3, H4, HD, HG1, HG2, HFx, HSm, HC1, HC2, HW1, HW2, Hb1, Hn1, Hn2⟩ := hd16 h1 h2 h3 h4 hD hG1 hG2 hFx hSm hC1 hC2 hW1 hW2 hb1 hn1 hn2; obtain ⟨Hn3, Hn4, Hs1, Hs2, Hz1, Hz2, Hu1, Hu2, Hsame⟩ := hd9 hn3 hn4 hs1 hs2 hz1 hz2 hu1 hu2 hsame; clear h1 h2 h3 h4 hD hG1 hG2 hFx hSm hC1 hC2 hW1 hW2 hb1 hn1 hn2 hn3 hn4 hs1 hs2 hz1 hz2 hu1 hu2 hsame
 go_enter Tryz.func8, Tryz.ntmps8
 go_upto_region 1 with (fail)
 rw [← hW, ← hg]
 clear hW hg
 go_wp2_with fail
 refine (HG1.out _ Hb1.out).mono ?_
 rintro e w2 ⟨⟨r1, rfl, hr1⟩, hs⟩
 have hb2 := Hb1.out.trans (hs.mono Hb1.out.size)
 have q0 := heap_below hs Hp0.out
 clear x0 x1 x2 Hp0
 obtain ⟨x0, x1, x2, -⟩ := spc_cells q0
 have Hp0 := Lib.hid q0
 clear q0
 have q1 := heap_below hs Hp1.out
 clear y0 y1 y2 Hp1
 obtain ⟨y0, y1, y2, -⟩ := spc_cells q1
 have Hp1 := Lib.hid q1
 clear q1
 obtain ⟨Hs, Hb2⟩ := hd2 hs hb2; clear hs hb2
 cases r1 with
 | true =>
  clear hr1
  go_wp2_with fail
  refine (HFx.out _ Hb2.out).mono ?_
  rintro e w3 ⟨rfl, hs⟩
  have hb3 := Hb2.out.trans (hs.mono Hb2.out.size)
  have q0 := heap_below hs Hp0.out
  clear x0 x1 x2 Hp0
  obtain ⟨x0, x1, x2, -⟩ := spc_cells q0
  have Hp0 := Lib.hid q0
  clear q0
  have q1 := heap_below hs Hp1.out
  clear y0 y1 y2 Hp1
  obtain ⟨y0, y1, y2, -⟩ := spc_cells q1
  have Hp1 := Lib.hid q1
  clear q1
  obtain ⟨Hs, Hb3⟩ := hd2 hs hb3; clear hs hb3
  go_wp2_with fail
  go_ret
  exact ⟨by first | rfl | simp, Hb3.out⟩
 | false =>
  obtain ⟨l1, hl1⟩ := sp_small (hr1 rfl)
  clear hr1
  have Hl1 := Lib.hid hl1
  clear hl1
  go_wp2_with fail
  refine (HG2.out _ Hb2.out).mono ?_
  rintro e w3 ⟨⟨r2, rfl, hr2⟩, hs⟩
  have hb3 := Hb2.out.trans (hs.mono Hb2.out.size)
  have q0 := heap_below hs Hp0.out
  clear x0 x1 x2 Hp0
  obtain ⟨x0, x1, x2, -⟩ := spc_cells q0
  have Hp0 := Lib.hid q0
  clear q0
  have q1 := heap_below hs Hp1.out
  clear y0 y1 y2 Hp1
  obtain ⟨y0, y1, y2, -⟩ := spc_cells q1
  have Hp1 := Lib.hid q1
  clear q1
  obtain ⟨Hs, Hb3⟩ := hd2 hs hb3; clear hs hb3
  cases r2 with
  | true =>
   clear hr2
   go_wp2_with fail
   refine (HFx.out _ Hb3.out).mono ?_
   rintro e w4 ⟨rfl, hs⟩
   have hb4 := Hb3.out.trans (hs.mono Hb3.out.size)
   have q0 := heap_below hs Hp0.out
   clear x0 x1 x2 Hp0
   obtain ⟨x0, x1, x2, -⟩ := spc_cells q0
   have Hp0 := Lib.hid q0
   clear q0
   have q1 := heap_below hs Hp1.out
   clear y0 y1 y2 Hp1
   obtain ⟨y0, y1, y2, -⟩ := spc_cells q1
   have Hp1 := Lib.hid q1
   clear q1
   obtain ⟨Hs, Hb4⟩ := hd2 hs hb4; clear hs hb4
   go_wp2_with fail
   go_ret
   exact ⟨by first | rfl | simp, Hb4.out⟩
  | false =>
   obtain ⟨l2, hl2⟩ := sp_small (hr2 rfl)
   clear hr2
   have hC1 := fun W k => HC1.out W k l1 (Hs1.out ▸ Hl1.out)
   have hC2 := fun W k => HC2.out W k l2 (Hs2.out ▸ hl2)
   have hW1 := fun W k => HW1.out W k l1 (Hs1.out ▸ Hl1.out)
   have hW2 := fun W k => HW2.out W k l2 (Hs2.out ▸ hl2)
   clear HC1 HC2 HW1 HW2
   obtain ⟨Hl2, HC1, HC2, HW1, HW2⟩ := hd5 hl2 hC1 hC2 hW1 hW2; clear hl2 hC1 hC2 hW1 hW2
   go_wp2_with fail
   refine (HC1.out _ Hb3.out).mono ?_
   rintro e w4 ⟨rfl, hs⟩
   have hb4 := Hb3.out.trans (hs.mono Hb3.out.size)
   have q0 := heap_below hs Hp0.out
   clear x0 x1 x2 Hp0
   obtain ⟨x0, x1, x2, -⟩ := spc_cells q0
   have Hp0 := Lib.hid q0
   clear q0
   have q1 := heap_below hs Hp1.out
   clear y0 y1 y2 Hp1
   obtain ⟨y0, y1, y2, -⟩ := spc_cells q1
   have Hp1 := Lib.hid q1
   clear q1
   obtain ⟨Hs, Hb4⟩ := hd2 hs hb4; clear hs hb4
   go_wp2_with fail
   refine (HC2.out _ Hb4.out).mono ?_
   rintro e w5 ⟨rfl, hs⟩
   have hb5 := Hb4.out.trans (hs.mono Hb4.out.size)
   have q0 := heap_below hs Hp0.out
   clear x0 x1 x2 Hp0
   obtain ⟨x0, x1, x2, -⟩ := spc_cells q0
   have Hp0 := Lib.hid q0
   clear q0
   have q1 := heap_below hs Hp1.out
   clear y0 y1 y2 Hp1
   obtain ⟨y0, y1, y2, -⟩ := spc_cells q1
   have Hp1 := Lib.hid q1
   clear q1
   obtain ⟨Hs, Hb5⟩ := hd2 hs hb5; clear hs hb5
   go_wp2_with fail
   refine (HW1.out _ Hb5.out).mono ?_
   rintro e w6 ⟨rfl, hs⟩
   have hb6 := Hb5.out.trans (hs.mono Hb5.out.size)
   have q0 := heap_below hs Hp0.out
   clear x0 x1 x2 Hp0
   obtain ⟨x0, x1, x2, -⟩ := spc_cells q0
   have Hp0 := Lib.hid q0
   clear q0
   have q1 := heap_below hs Hp1.out
   clear y0 y1 y2 Hp1
   obtain ⟨y0, y1, y2, -⟩ := spc_cells q1
   have Hp1 := Lib.hid q1
   clear q1
   obtain ⟨Hs, Hb6⟩ := hd2 hs hb6; clear hs hb6
   go_wp2_with fail
   refine (HW2.out _ Hb6.out).mono ?_
   rintro e w7 ⟨rfl, hs⟩
   have hb7 := Hb6.out.trans (hs.mono Hb6.out.size)
   have q0 := heap_below hs Hp0.out
   clear x0 x1 x2 Hp0
   obtain ⟨x0, x1, x2, -⟩ := spc_cells q0
   have Hp0 := Lib.hid q0
   clear q0
   have q1 := heap_below hs Hp1.out
   clear y0 y1 y2 Hp1
   obtain ⟨y0, y1, y2, -⟩ := spc_cells q1
   have Hp1 := Lib.hid q1
   clear q1
   obtain ⟨Hs, Hb7⟩ := hd2 hs hb7; clear hs hb7
   cases ub1 with
   | false =>
    go_wp2_with fail
    refine (HFx.out _ Hb7.out).mono ?_
    rintro e w8 ⟨rfl, hs⟩
    have hb8 := Hb7.out.trans (hs.mono Hb7.out.size)
    have q0 := heap_below hs Hp0.out
    clear x0 x1 x2 Hp0
    obtain ⟨x0, x1, x2, -⟩ := spc_cells q0
    have Hp0 := Lib.hid q0
    clear q0
    have q1 := heap_below hs Hp1.out
    clear y0 y1 y2 Hp1
    obtain ⟨y0, y1, y2, -⟩ := spc_cells q1
    have Hp1 := Lib.hid q1
    clear q1
    obtain ⟨Hs, Hb8⟩ := hd2 hs hb8; clear hs hb8
    go_wp2_with fail
    go_ret
    exact ⟨by first | rfl | simp, Hb8.out⟩
   | true =>
    cases ub2 with
    | false =>
     go_wp2_with fail
     refine (HFx.out _ Hb7.out).mono ?_
     rintro e w8 ⟨rfl, hs⟩
     have hb8 := Hb7.out.trans (hs.mono Hb7.out.size)
     have q0 := heap_below hs Hp0.out
     clear x0 x1 x2 Hp0
     obtain ⟨x0, x1, x2, -⟩ := spc_cells q0
     have Hp0 := Lib.hid q0
     clear q0
     have q1 := heap_below hs Hp1.out
     clear y0 y1 y2 Hp1
     obtain ⟨y0, y1, y2, -⟩ := spc_cells q1
     have Hp1 := Lib.hid q1
     clear q1
     obtain ⟨Hs, Hb8⟩ := hd2 hs hb8; clear hs hb8
     go_wp2_with fail
     go_ret
     exact ⟨by first | rfl | simp, Hb8.out⟩
    | true =>
     have heq := Txt.eq_dec u1 u2
     rw [specR_apart Hu1.out Hu2.out, ← Hsame.out] at heq
     go_wp2_with fail
     refine (HFx.out _ Hb7.out).mono ?_
     rintro e w8 ⟨rfl, hs⟩
     have hb8 := Hb7.out.trans (hs.mono Hb7.out.size)
     have q0 := heap_below hs Hp0.out
     clear x0 x1 x2 Hp0
     obtain ⟨x0, x1, x2, -⟩ := spc_cells q0
     have Hp0 := Lib.hid q0
     clear q0
     have q1 := heap_below hs Hp1.out
     clear y0 y1 y2 Hp1
     obtain ⟨y0, y1, y2, -⟩ := spc_cells q1
     have Hp1 := Lib.hid q1
     clear q1
     obtain ⟨Hs, Hb8⟩ := hd2 hs hb8; clear hs hb8
     go_wp2_with fail
     refine (HSm.out _ Hb8.out).mono ?_
     rintro e w9 ⟨rfl, hs⟩
     have hb9 := Hb8.out.trans (hs.mono Hb8.out.size)
     have q0 := heap_below hs Hp0.out
     clear x0 x1 x2 Hp0
     obtain ⟨x0, x1, x2, -⟩ := spc_cells q0
     have Hp0 := Lib.hid q0
     clear q0
     have q1 := heap_below hs Hp1.out
     clear y0 y1 y2 Hp1
     obtain ⟨y0, y1, y2, -⟩ := spc_cells q1
     have Hp1 := Lib.hid q1
     clear q1
     obtain ⟨Hs, Hb9⟩ := hd2 hs hb9; clear hs hb9
     cases same with
     | false =>
      go_wp2_with fail
      go_ret
      exact ⟨by first | rfl | simp, Hb9.out⟩
     | true =>
      go_wp2_with fail
      go_ret
      exact ⟨by first | rfl | simp, Hb9.out⟩
theorem printSpecsApart_any {w : World} {v1 v2 v3 v4 : Value} {m1 m2 : ByteArray} {L1 L2 : List BSp} {S1 S2 : List Setg} (h1 : RSps w [v1] L1) (h2 : RSets w [v2] S1) (h3 : RSps w [v3] L2) (h4 : RSets w [v4] S2) (wish : Bool) (hD : Doors w) :
  Calls Tryz.prog 8 #[.agg #[.string m1, v1, v2], .agg #[.string m2, v3, v4], .bool wish] w fun e w' => e = .returned (.bool true) ∧ Below w.heap.size w w' := by
 cases wish with
 | true => exact apartW_any h1 h2 h3 h4 hD
 | false => exact apartC_any h1 h2 h3 h4 hD
end Go.Proofs.YteailgjiifdgcaaGreatDoor
