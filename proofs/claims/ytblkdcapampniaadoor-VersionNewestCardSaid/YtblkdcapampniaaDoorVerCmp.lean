/- The walk of version.Compare: how two texts stand to each other. Condition: the library's variables as they were laid. -/
import Derived.Test.YtblkdcapampniaaDoorVerAt
import Derived.Test.YtblkdcapampniaaDoorCmpS
import Derived.Deep.RegionHeld3
import Derived.Deep.CutRange
set_option linter.unusedVariables false
set_option linter.unusedSimpArgs false
namespace Go.Proofs.YtblkdcapampniaaDoor
open Go.Shelf Go.RowKit Go.Lib Go.Sort VerN

theorem or3 (r a b c : Int) (h : (if a ≠ 0 then a else if b ≠ 0 then b else c) = r) : orOf [a, b, c] = r := by
  rw [← h]
  unfold orOf orOf orOf orOf
  split
  · rfl
  · split
    · rfl
    · split
      · rfl
      · rename_i h; simpa using Eq.symm (by simpa using h)
theorem or3_any (c1 c2 c3 r : Int) (hO : orOf [c1, c2, c3] = r) (W : World) : Calls Tryd.prog 44 #[.slice (some ⟨W.heap.size, 0, none⟩) 3 3] (W.alloc (.cells #[.int .i64 c1, .int .i64 c2, .int .i64 c3] 3)).drew fun e w' => e = .returned (.int .i64 r) ∧ (W.alloc (.cells #[.int .i64 c1, .int .i64 c2, .int .i64 c3] 3)).drew = w' := by
  rw [← hO]
  exact or_any W.heap.size 0 3 [c1, c2, c3] _ (by simp) (by
    intro i x hx
    show (W.alloc (.cells #[.int .i64 c1, .int .i64 c2, .int .i64 c3] 3)).cell? ⟨W.heap.size, 0 + i, none⟩ = _
    rw [Nat.zero_add, World.cell?_alloc_new]
    match i, hx with
    | 0, hx => simpa using hx
    | 1, hx => simpa using hx
    | 2, hx => simpa using hx)
set_option maxRecDepth 10000 in
set_option maxHeartbeats 4000000 in
theorem verCompare_any (a b : ByteArray) (ha : a.size ≤ 1000000) (hb : b.size ≤ 1000000) {w : World} (hD : Doors w) :
    Calls Tryd.prog 16 #[.string a, .string b] w fun e w' => e = .returned (.int .i64 (compareL a.data.toList b.data.toList)) ∧ Below w.heap.size w w' := by
  obtain ⟨r, hr⟩ : ∃ r, r = compareL a.data.toList b.data.toList := ⟨_, rfl⟩
  have hP := parts_any a ha hD
  have hQ := fun (W : World) (h : Below w.heap.size w W) => parts_any b hb (hD.below h)
  obtain ⟨ps, hps⟩ : ∃ x, x = cutL 46 a.data.toList := ⟨_, rfl⟩
  obtain ⟨qs, hqs⟩ : ∃ x, x = cutL 46 b.data.toList := ⟨_, rfl⟩
  obtain ⟨p, hp⟩ : ∃ x, x = mayL a.data.toList := ⟨_, rfl⟩
  obtain ⟨q, hq⟩ : ∃ x, x = mayL b.data.toList := ⟨_, rfl⟩
  have hcmp : r = if p = false ∧ q = false then 0 else if p = false then -1 else if q = false then 1 else cmpFrom ps qs 0 (max ps.length qs.length) := by rw [hr, hp, hq, hps, hqs]; rfl
  have hp8 : p = true → ps.length ≤ 8 := fun h => by rw [hps]; exact ((may_iff _).1 (by rw [← hp]; exact h)).2.2.2
  have hq8 : q = true → qs.length ≤ 8 := fun h => by rw [hqs]; exact ((may_iff _).1 (by rw [← hq]; exact h)).2.2.2
  rw [← hr]
  unfold partsPost at hP hQ
  rw [← hps, ← hp] at hP
  rw [← hqs, ← hq] at hQ
  have Hr := Lib.hid hr; have HP := Lib.hid hP; have HQ := Lib.hid hQ; have Hps := Lib.hid hps; have Hqs := Lib.hid hqs; have Hp := Lib.hid hp; have Hq := Lib.hid hq; have Hcmp := Lib.hid hcmp; have Hp8 := Lib.hid hp8; have Hq8 := Lib.hid hq8; have HD := Lib.hid hD; clear hr hP hQ hps hqs hp hq hcmp hp8 hq8 hD
  go_enter Tryd.func16, Tryd.ntmps16
  go_wp2_with fail
  refine HP.out.mono ?_
  rintro e w1 ⟨v1, rfl, hv1, hn1, hb1⟩
  have hQ1 := HQ.out w1 hb1
  have Hv1 := Lib.hid hv1; have Hn1 := Lib.hid hn1; have Hb1 := Lib.hid hb1; have HQ1 := Lib.hid hQ1; clear hv1 hn1 hb1 hQ1
  go_wp2_with fail
  refine HQ1.out.mono ?_
  rintro e w2 ⟨v2, rfl, hv2, hn2, hb2⟩
  have hb := Hb1.out.trans (hb2.mono Hb1.out.size)
  have Hv2 := Lib.hid hv2; have Hn2 := Lib.hid hn2; have Hb2 := Lib.hid hb2; have Hb := Lib.hid hb; clear hv2 hn2 hb2 hb
  cases p with
  | false =>
    cases q with
    | false =>
      have h0 : r = 0 := by rw [Hcmp.out]; rfl
      have H0 := Lib.hid h0; clear h0
      go_wp2_with fail
      go_ret
      exact ⟨ret_int H0.out.symm, Hb.out⟩
    | true =>
      have h0 : r = -1 := by rw [Hcmp.out]; rfl
      have H0 := Lib.hid h0; clear h0
      go_wp2_with fail
      go_ret
      exact ⟨ret_int H0.out.symm, Hb.out⟩
  | true =>
    cases q with
    | false =>
      have h0 : r = 1 := by rw [Hcmp.out]; rfl
      have H0 := Lib.hid h0; clear h0
      go_wp2_with fail
      go_ret
      exact ⟨ret_int H0.out.symm, Hb.out⟩
    | true =>
      have h8 := Hp8.out rfl
      have h9 := Hq8.out rfl
      have o1 := ownsRow_below (Hv1.out rfl) Hb2.out
      have o2 := Hv2.out rfl
      obtain ⟨a1, cap1, rfl⟩ := own_shape o1
      obtain ⟨a2, cap2, rfl⟩ := own_shape o2
      have h0 : r = cmpFrom ps qs 0 (max ps.length qs.length) := by rw [Hcmp.out]; rfl
      obtain ⟨m, hm⟩ : ∃ m, m = ps.length := ⟨_, rfl⟩
      obtain ⟨n, hn⟩ : ∃ n, n = qs.length := ⟨_, rfl⟩
      rw [← hm] at h8 o1 h0 ⊢
      rw [← hn] at h9 o2 h0 ⊢
      obtain ⟨N, hN⟩ : ∃ N, N = max m n := ⟨_, rfl⟩
      rw [← hN] at h0
      have hN8 : N ≤ 8 := by omega
      have hNi : max (m : Int) (n : Int) = (N : Int) := by omega
      have H0 := Lib.hid h0; have Ho1 := Lib.hid o1; have Ho2 := Lib.hid o2; have Hm := Lib.hid hm; have Hn := Lib.hid hn; clear h0 o1 o2 hm hn
      clear Hv1 Hv2 Hn1 Hn2 Hcmp Hp8 Hq8 HP HQ HQ1
      go_wp2_with fail
      go_loopw [41] (fun i wr => ∃ k : Nat, k ≤ N ∧ i = .int .i64 k ∧ r = cmpFrom ps qs k (N - k) ∧ Below w2.heap.size w2 wr) (fun i _ => N - (intOf i).toNat)
      case atStart => exact ⟨0, Nat.zero_le _, rfl, H0.out, Below.refl _ _⟩
      case round =>
        obtain ⟨k, hk, rfl, hrk, hbk⟩ := hrel
        by_cases hlt : k < N
        · have p1 := ownsRow_below Ho1.out hbk
          have p2 := ownsRow_below Ho2.out hbk
          have em := Hm.out
          have en := Hn.out
          rw [em] at p1
          rw [en] at p2
          have hA := at_any p1 (by omega) k (by omega)
          have hB := fun (W : World) (h : Below wr.heap.size wr W) => at_any (ownsRow_below p2 h) (by omega) k (by omega)
          rw [← em] at hA
          rw [← en] at hB
          obtain ⟨x, hx⟩ : ∃ x, x = ps.getD k [] := ⟨_, rfl⟩
          obtain ⟨y, hy⟩ : ∃ x, x = qs.getD k [] := ⟨_, rfl⟩
          rw [← hx] at hA
          rw [← hy] at hB
          have hr2 : r = if pcmp x y ≠ 0 then pcmp x y else cmpFrom ps qs (k + 1) (N - (k + 1)) := by
            rw [hrk, show N - k = (N - (k + 1)) + 1 by omega, hx, hy]; rfl
          obtain ⟨c, hc⟩ : ∃ c, c = pcmp x y := ⟨_, rfl⟩
          rw [← hc] at hr2
          obtain ⟨r1, hr1⟩ : ∃ v, v = rankOf x := ⟨_, rfl⟩
          obtain ⟨m1, hm1⟩ : ∃ v, v = numOf x := ⟨_, rfl⟩
          obtain ⟨t1, ht1⟩ : ∃ v, v = (⟨(wordOf x).toArray⟩ : ByteArray) := ⟨_, rfl⟩
          obtain ⟨r2, hrr2⟩ : ∃ v, v = rankOf y := ⟨_, rfl⟩
          obtain ⟨m2, hm2⟩ : ∃ v, v = numOf y := ⟨_, rfl⟩
          obtain ⟨t2, ht2⟩ : ∃ v, v = (⟨(wordOf y).toArray⟩ : ByteArray) := ⟨_, rfl⟩
          rw [← hr1, ← hm1, ← ht1] at hA
          rw [← hrr2, ← hm2, ← ht2] at hB
          obtain ⟨c1, hc1⟩ : ∃ v, v = compareInt r1 r2 := ⟨_, rfl⟩
          obtain ⟨c2, hc2⟩ : ∃ v, v = compareInt m1 m2 := ⟨_, rfl⟩
          obtain ⟨c3, hc3⟩ : ∃ v, v = cmpW t1.data.toList t2.data.toList := ⟨_, rfl⟩
          have hC1 := fun W => compare_any r1 r2 W
          have hC2 := fun W => compare_any m1 m2 W
          have hC3 := fun W => compareW_any t1 t2 W
          rw [← hc1] at hC1
          rw [← hc2] at hC2
          rw [← hc3] at hC3
          have hF := or3_any c1 c2 c3 c (or3 c c1 c2 c3 (by rw [hc, hc1, hc2, hc3, hr1, hrr2, hm1, hm2, ht1, ht2]; rfl))
          clear hr1 hrr2 hm1 hm2 ht1 ht2 hc1 hc2 hc3 hc em en
          have Hp1 := Lib.hid p1; have Hp2 := Lib.hid p2; have HA := Lib.hid hA; have HB := Lib.hid hB; have Hx := Lib.hid hx; have Hy := Lib.hid hy; have Hrk := Lib.hid hrk; have Hr2 := Lib.hid hr2; have HC1 := Lib.hid hC1; have HC2 := Lib.hid hC2; have HC3 := Lib.hid hC3; have HF := Lib.hid hF; have Hbk := Lib.hid hbk; clear p1 p2 hA hB hx hy hrk hr2 hC1 hC2 hC3 hF hbk
          go_wp2_with fail
          refine HA.out.mono ?_
          rintro e w3 ⟨rfl, hb3⟩
          have hB3 := HB.out w3 hb3
          have HB3 := Lib.hid hB3; have Hb3 := Lib.hid hb3; clear hB3 hb3
          clear HB
          go_wp2_with fail
          refine HB3.out.mono ?_
          rintro e w4 ⟨rfl, hb4⟩
          have hb5 := Hbk.out.trans ((Hb3.out.trans (hb4.mono Hb3.out.size)).mono Hbk.out.size)
          have Hb4 := Lib.hid hb4; have Hb5 := Lib.hid hb5; clear hb4 hb5
          obtain ⟨A, hA⟩ : ∃ A, A = Obj.cells #[.int .i64 r1, .int .i64 m1, .string t1] 53 := ⟨_, rfl⟩
          obtain ⟨B, hB⟩ : ∃ A, A = Obj.cells #[.int .i64 r2, .int .i64 m2, .string t2] 53 := ⟨_, rfl⟩
          obtain ⟨pa, hpa⟩ : ∃ n, n = w4.heap.size := ⟨_, rfl⟩
          obtain ⟨pb, hpb⟩ : ∃ n, n = w4.heap.size + 1 := ⟨_, rfl⟩
          obtain ⟨W0, hW0⟩ : ∃ W, W = (w4.alloc A).alloc B := ⟨_, rfl⟩
          have hX : W0.heap[pa]? = some (.cells #[.int .i64 r1, .int .i64 m1, .string t1] 53 (0, 0)) := by
            rw [hW0, hpa]; exact heap_below (below_alloc1 _ _) (by rw [hA]; exact heap_alloc_new _ _)
          have hY : W0.heap[pb]? = some (.cells #[.int .i64 r2, .int .i64 m2, .string t2] 53 (0, 0)) := by
            rw [hW0, hpb, hB, show w4.heap.size + 1 = (w4.alloc A).heap.size by simp]; exact heap_alloc_new _ _
          have hbW : Below w2.heap.size w2 W0 := by
            rw [hW0]
            exact (Hb5.out.alloc Hb5.out.size _).alloc (by have := Hb5.out.size; simp; omega) _
          obtain ⟨x0, x1, x2, _, _, _⟩ := trip_cells hX
          obtain ⟨y0, y1, y2, _, _, _⟩ := trip_cells hY
          have HA := Lib.hid hA; have HB := Lib.hid hB; have Hpa := Lib.hid hpa; have Hpb := Lib.hid hpb; have HW0 := Lib.hid hW0; have HX := Lib.hid hX; have HY := Lib.hid hY; have HbW := Lib.hid hbW; clear hA hB hpa hpb hW0 hX hY hbW
          go_upto_region 13 with fail
          rw [← HA.out, ← HB.out, ← HW0.out, ← Hpb.out, ← Hpa.out]
          have hS : W0.cell? ⟨pa, 0, none⟩ = some (.int .i64 r1) ∧ W0.cell? ⟨pa, 1, none⟩ = some (.int .i64 m1) ∧ W0.cell? ⟨pa, 2, none⟩ = some (.string t1) ∧ W0.cell? ⟨pb, 0, none⟩ = some (.int .i64 r2) ∧ W0.cell? ⟨pb, 1, none⟩ = some (.int .i64 m2) ∧ W0.cell? ⟨pb, 2, none⟩ = some (.string t2) := ⟨x0, x1, x2, y0, y1, y2⟩
          have hS1 : ∀ o, (W0.drew.alloc o).cell? ⟨pa, 0, none⟩ = some (.int .i64 r1) ∧ (W0.drew.alloc o).cell? ⟨pa, 1, none⟩ = some (.int .i64 m1) ∧ (W0.drew.alloc o).cell? ⟨pa, 2, none⟩ = some (.string t1) ∧ (W0.drew.alloc o).cell? ⟨pb, 0, none⟩ = some (.int .i64 r2) ∧ (W0.drew.alloc o).cell? ⟨pb, 1, none⟩ = some (.int .i64 m2) ∧ (W0.drew.alloc o).cell? ⟨pb, 2, none⟩ = some (.string t2) := fun o =>
            ⟨cell_later (below_alloc1 W0.drew o) x0, cell_later (below_alloc1 W0.drew o) x1, cell_later (below_alloc1 W0.drew o) x2, cell_later (below_alloc1 W0.drew o) y0, cell_later (below_alloc1 W0.drew o) y1, cell_later (below_alloc1 W0.drew o) y2⟩
          have hbW2 : ∀ o, Below w2.heap.size w2 (W0.alloc o).drew := fun o => (HbW.out.alloc HbW.out.size o).drew
          have HS := Lib.hid hS; have HS1 := Lib.hid hS1; have HbW2 := Lib.hid hbW2; clear hS hS1 hbW2
          clear HA HB HW0 Hpa Hpb HX HY
          go_region_held3 (fun w' => w'.cell? ⟨pa, 0, none⟩ = some (.int .i64 r1) ∧ w'.cell? ⟨pa, 1, none⟩ = some (.int .i64 m1) ∧ w'.cell? ⟨pa, 2, none⟩ = some (.string t1) ∧ w'.cell? ⟨pb, 0, none⟩ = some (.int .i64 r2) ∧ w'.cell? ⟨pb, 1, none⟩ = some (.int .i64 m2) ∧ w'.cell? ⟨pb, 2, none⟩ = some (.string t2)) (first | exact HS.out | exact HS1.out _) (first
            | (go_at_call_of 45 (Value.int .i64 r1); refine (HC1.out _).mono ?_; rintro e w5 ⟨rfl, rfl⟩)
            | (go_at_call_of 45 (Value.int .i64 m1); refine (HC2.out _).mono ?_; rintro e w5 ⟨rfl, rfl⟩)
            | (go_at_call_of 46 (Value.string t1); refine (HC3.out _).mono ?_; rintro e w5 ⟨rfl, rfl⟩)
            | (go_at_call 44; refine (HF.out W0).mono ?_; rintro e w5 ⟨rfl, rfl⟩))
          all_goals
            have hbz := HbW2.out (.cells #[.int .i64 c1, .int .i64 c2, .int .i64 c3] 3)
            generalize (W0.alloc (.cells #[.int .i64 c1, .int .i64 c2, .int .i64 c3] 3)).drew = W9 at hbz ⊢
            by_cases hc0 : c = 0
            · have e1 : (c != 0) = false := by rw [hc0]; rfl
              have hn_ : r = cmpFrom ps qs (k + 1) (N - (k + 1)) := by rw [Hr2.out, if_neg (by rw [hc0]; simp)]
              have Hbz := Lib.hid hbz; have Hc0 := Lib.hid hc0; have Hn_ := Lib.hid hn_; clear hbz hc0 hn_
              go_wp2_with fail
              go_roundw
              case rel => exact ⟨k + 1, by omega, by go_num, Hn_.out, Hbz.out⟩
              case measure => simp [intOf]; omega
            · have e1 : (c != 0) = true := by simpa using hc0
              have hn_ : r = c := by rw [Hr2.out, if_pos hc0]
              have hb9 := Hb.out.trans (hbz.mono Hb.out.size)
              have Hbz := Lib.hid hbz; have Hc0 := Lib.hid hc0; have Hn_ := Lib.hid hn_; have Hb9 := Lib.hid hb9; clear hbz hc0 hn_ hb9
              go_wp2_with fail
              go_ret
              exact ⟨ret_int Hn_.out.symm, Hb9.out⟩
        · obtain rfl : k = N := by omega
          have hfin : r = 0 := by rw [hrk, Nat.sub_self]; rfl
          have hb9 := Hb.out.trans (hbk.mono Hb.out.size)
          have Hrk := Lib.hid hrk; have Hbk := Lib.hid hbk; have Hfin := Lib.hid hfin; have Hb9 := Lib.hid hb9; clear hrk hbk hfin hb9
          go_wp2_with fail
          go_ret
          exact ⟨ret_int Hfin.out.symm, Hb9.out⟩
end Go.Proofs.YtblkdcapampniaaDoor
