/- Walks and plain facts. Texts merged: VerAt, VerCmp, Txs, SpnA, SpnB, SpnC, SpnT, SpnD, SpnK, SpnMt, StbA, SpsF, SpsR, SpsK, App, SortA. Condition: none beyond what each says. -/
import Derived.Deep.RegionHeld3
import Derived.Deep.CutRange
import Derived.Lib.SmallJoins
import Derived.Lib.CutLaws
import Derived.Deep.DeepCutAuto
import Derived.Sort.LotA
import Derived.Sort.WalkA
import Derived.Shelf.SlSortCmp.Insertion
import Derived.Test.YteailgjiifdgcaaGreatDoorRequestJoinsAll3
set_option linter.unusedVariables false
set_option linter.unusedSimpArgs false
/- The walk of version.at: the part at a place, or the end. Condition: few parts. -/
namespace Go.Proofs.YteailgjiifdgcaaGreatDoor
open Go.RowKit Go.Lib VerN

theorem bodyPost_part1 {fn : Func} {p : Tmp} (hres : fn.results = #[.cell p 241]) {R : Ending → World → Prop} {a : Act} {w : World} {g : Nat} {x y z : Value} (hp : a.tmps.getD p undef = .pointer (some ⟨g, 0, none⟩))
  (hg : w.heap[g]? = some (.cells #[x, y, z] 241 (0, 0))) (hd : a.defers = []) (hR : R (.returned (.agg #[x, y, z])) w) : bodyPost Tryz.prog fn R .ret a w :=
 bodyPost_ret (results_cell_row hres a.tmps w g _ _ _ _ hp hg Tryz.underlying241 rfl (by kernel_rfl)) hd hR
theorem partsCells_at : ∀ (ps : List (List UInt8)) (i j : Nat) (h : i < ps.length), j < 3 → (partsCells ps)[i * 3 + j]? = (partCells ps[i])[j]?
 | p :: r, 0, j, _, hj => by
  simp only [partsCells, List.flatMap_cons, Nat.zero_mul, Nat.zero_add, List.getElem_cons_zero]
  rw [List.getElem?_append_left (by simpa [partCells] using hj)]
 | p :: r, i + 1, j, h, hj => by
  have := partsCells_at r i j (by simpa using h) hj
  simp only [partsCells, List.flatMap_cons, List.getElem_cons_succ] at this ⊢
  rw [List.getElem?_append_right (by simp [partCells]; omega), ← this]
  congr 1
  simp [partCells]
  omega
theorem parts_cell {w : World} {B : Nat} {v : Value} {n : Nat} {ps : List (List UInt8)} (h : w.ownsRow B 241 3 v n (partsCells ps)) (hn : n = ps.length) (i : Nat) (hi : i < ps.length) :
  ∃ g cap, v = .slice (some ⟨g, 0, none⟩) n cap ∧ n ≤ cap ∧ w.cell? ⟨g, i * 3, none⟩ = some (.int .i64 (rankOf ps[i])) ∧ w.cell? ⟨g, i * 3 + 1, none⟩ = some (.int .i64 (numOf ps[i])) ∧ w.cell? ⟨g, i * 3 + 2, none⟩ = some (.string ⟨(wordOf ps[i]).toArray⟩) := by
 obtain ⟨g, cap, rfl, _, _, h1, _, h2⟩ := ownsRow_some h (by omega)
 exact ⟨g, cap, rfl, h1, h2 _ _ (partsCells_at ps i 0 hi (by omega)), h2 _ _ (partsCells_at ps i 1 hi (by omega)), h2 _ _ (partsCells_at ps i 2 hi (by omega))⟩
set_option maxRecDepth 10000 in
set_option maxHeartbeats 1000000 in
theorem at_any {w : World} {B : Nat} {v : Value} {ps : List (List UInt8)} (h : w.ownsRow B 241 3 v ps.length (partsCells ps)) (h8 : ps.length ≤ 8) (i : Nat) (hi8 : i < 8) :
  Calls Tryz.prog 197 #[v, .int .i64 i] w fun e w' => e = .returned (.agg #[.int .i64 (rankOf (ps.getD i [])), .int .i64 (numOf (ps.getD i [])), .string ⟨(wordOf (ps.getD i [])).toArray⟩]) ∧ Below w.heap.size w w' := by
 have hb1 : Below w.heap.size w (w.alloc (.cells #[.int .i64 0, .int .i64 0, .string ⟨#[]⟩] 241)) := below_alloc1 _ _
 have hr1 : (w.alloc (.cells #[.int .i64 0, .int .i64 0, .string ⟨#[]⟩] 241)).heap[w.heap.size]? = some (.cells #[.int .i64 0, .int .i64 0, .string ⟨#[]⟩] 241 (0, 0)) := heap_new_at rfl
 by_cases hi : i < ps.length
 ·obtain ⟨g, cap, rfl, hcap, c0, c1, c2⟩ := parts_cell h rfl i hi
  rw [getD_lt hi]
  have d0 := cell_later hb1 c0
  have d1 := cell_later hb1 c1
  have d2 := cell_later hb1 c2
  obtain ⟨n, hn⟩ : ∃ n, n = ps.length := ⟨_, rfl⟩
  obtain ⟨x, hx⟩ : ∃ x, x = rankOf ps[i] := ⟨_, rfl⟩
  obtain ⟨y, hy⟩ : ∃ y, y = numOf ps[i] := ⟨_, rfl⟩
  obtain ⟨z, hz⟩ : ∃ z, z = (⟨(wordOf ps[i]).toArray⟩ : ByteArray) := ⟨_, rfl⟩
  rw [← hx] at c0 d0 ⊢
  rw [← hy] at c1 d1 ⊢
  rw [← hz] at c2 d2 ⊢
  rw [← hn] at h h8 hi hcap ⊢
  have k1 : (i : Int) < (n : Int) := by omega
  have k2 : decide ((i : Int) < (n : Int)) = true := decide_eq_true k1
  obtain ⟨Hh, Hn, Hx, Hy, Hz, Hb1, Hr1⟩ := hd7 h hn hx hy hz hb1 hr1; clear h hn hx hy hz hb1 hr1
  clear c0 c1 c2
  go_enter Tryz.func197, Tryz.ntmps197
  go_wp2_with fail
  exact bodyPost_part1 rfl rfl (heap_new_at rfl) rfl ⟨by rw [Hx.out, Hy.out, Hz.out], below_alloc1 _ _⟩
 ·obtain ⟨a, cap, rfl⟩ := own_shape h
  rw [getD_ge (by omega)]
  obtain ⟨n, hn⟩ : ∃ n, n = ps.length := ⟨_, rfl⟩
  rw [← hn] at h h8 hi ⊢
  have k1 : decide ((i : Int) < (n : Int)) = false := decide_eq_false (by omega)
  obtain ⟨Hh, Hn, Hb1, Hr1⟩ := hd4 h hn hb1 hr1; clear h hn hb1 hr1
  go_enter Tryz.func197, Tryz.ntmps197
  go_wp2_with fail
  exact bodyPost_part1 rfl rfl (heap_new_at rfl) rfl ⟨rfl, below_alloc1 _ _⟩
end Go.Proofs.YteailgjiifdgcaaGreatDoor

/- The walk of version.Compare: how two texts stand to each other. Condition: the library's variables as they were laid. -/
namespace Go.Proofs.YteailgjiifdgcaaGreatDoor
open Go.Shelf Go.RowKit Go.Lib Go.Sort VerN

theorem or3 (r a b c : Int) (h : (if a ≠ 0 then a else if b ≠ 0 then b else c) = r) : orOf [a, b, c] = r := by
 rw [← h]
 unfold orOf orOf orOf orOf
 split
 ·rfl
 ·split
  ·rfl
  ·split
   ·rfl
   ·rename_i h; simpa using Eq.symm (by simpa using h)
theorem or3_any (c1 c2 c3 r : Int) (hO : orOf [c1, c2, c3] = r) (W : World) : Calls Tryz.prog 198 #[.slice (some ⟨W.heap.size, 0, none⟩) 3 3] (W.alloc (.cells #[.int .i64 c1, .int .i64 c2, .int .i64 c3] 3)).drew fun e w' => e = .returned (.int .i64 r) ∧ (W.alloc (.cells #[.int .i64 c1, .int .i64 c2, .int .i64 c3] 3)).drew = w' := by
 rw [← hO]
 exact or_any W.heap.size 0 3 [c1, c2, c3] _ (by simp) (by
  intro i x hx
  show (W.alloc (.cells #[.int .i64 c1, .int .i64 c2, .int .i64 c3] 3)).cell? ⟨W.heap.size, 0 + i, none⟩ = _
  rw [Nat.zero_add, World.cell?_alloc_new]
  match i, hx with
  | 0, hx => simpa using hx
  | 1, hx => simpa using hx
  | 2, hx => simpa using hx)
set_option maxRecDepth 10000 in
set_option maxHeartbeats 4000000 in
theorem verCompare_any (a b : ByteArray) (ha : a.size ≤ 1000000) (hb : b.size ≤ 1000000) {w : World} (hD : Doors w) :
  Calls Tryz.prog 164 #[.string a, .string b] w fun e w' => e = .returned (.int .i64 (compareL a.data.toList b.data.toList)) ∧ Below w.heap.size w w' := by
 obtain ⟨r, hr⟩ : ∃ r, r = compareL a.data.toList b.data.toList := ⟨_, rfl⟩
 have hP := parts_any a ha hD
 have hQ := fun (W : World) (h : Below w.heap.size w W) => parts_any b hb (hD.below h)
 obtain ⟨ps, hps⟩ : ∃ x, x = cutL 46 a.data.toList := ⟨_, rfl⟩
 obtain ⟨qs, hqs⟩ : ∃ x, x = cutL 46 b.data.toList := ⟨_, rfl⟩
 obtain ⟨p, hp⟩ : ∃ x, x = mayL a.data.toList := ⟨_, rfl⟩
 obtain ⟨q, hq⟩ : ∃ x, x = mayL b.data.toList := ⟨_, rfl⟩
 have hcmp : r = if p = false ∧ q = false then 0 else if p = false then -1 else if q = false then 1 else cmpFrom ps qs 0 (max ps.length qs.length) := by rw [hr, hp, hq, hps, hqs]; rfl
 have hp8 : p = true → ps.length ≤ 8 := fun h => by rw [hps]; exact ((may_iff _).1 (by rw [← hp]; exact h)).2.2.2
 have hq8 : q = true → qs.length ≤ 8 := fun h => by rw [hqs]; exact ((may_iff _).1 (by rw [← hq]; exact h)).2.2.2
 rw [← hr]
 unfold partsPost at hP hQ
 rw [← hps, ← hp] at hP
 rw [← hqs, ← hq] at hQ
 obtain ⟨Hr, HP, HQ, Hps, Hqs, Hp, Hq, Hcmp, Hp8, Hq8, HD⟩ := hd11 hr hP hQ hps hqs hp hq hcmp hp8 hq8 hD; clear hr hP hQ hps hqs hp hq hcmp hp8 hq8 hD
 go_enter Tryz.func164, Tryz.ntmps164
 go_wp2_with fail
 refine HP.out.mono ?_
 rintro e w1 ⟨v1, rfl, hv1, hn1, hb1⟩
 have hQ1 := HQ.out w1 hb1
 obtain ⟨Hv1, Hn1, Hb1, HQ1⟩ := hd4 hv1 hn1 hb1 hQ1; clear hv1 hn1 hb1 hQ1
 go_wp2_with fail
 refine HQ1.out.mono ?_
 rintro e w2 ⟨v2, rfl, hv2, hn2, hb2⟩
 have hb := Hb1.out.trans (hb2.mono Hb1.out.size)
 obtain ⟨Hv2, Hn2, Hb2, Hb⟩ := hd4 hv2 hn2 hb2 hb; clear hv2 hn2 hb2 hb
 cases p with
 | false =>
  cases q with
  | false =>
   have h0 : r = 0 := by rw [Hcmp.out]; rfl
   have H0 := hd h0; clear h0
   go_wp2_with fail
   go_ret
   exact ⟨ret_int H0.out.symm, Hb.out⟩
  | true =>
   have h0 : r = -1 := by rw [Hcmp.out]; rfl
   have H0 := hd h0; clear h0
   go_wp2_with fail
   go_ret
   exact ⟨ret_int H0.out.symm, Hb.out⟩
 | true =>
  cases q with
  | false =>
   have h0 : r = 1 := by rw [Hcmp.out]; rfl
   have H0 := hd h0; clear h0
   go_wp2_with fail
   go_ret
   exact ⟨ret_int H0.out.symm, Hb.out⟩
  | true =>
   have h8 := Hp8.out rfl
   have h9 := Hq8.out rfl
   have o1 := ownsRow_below (Hv1.out rfl) Hb2.out
   have o2 := Hv2.out rfl
   obtain ⟨a1, cap1, rfl⟩ := own_shape o1
   obtain ⟨a2, cap2, rfl⟩ := own_shape o2
   have h0 : r = cmpFrom ps qs 0 (max ps.length qs.length) := by rw [Hcmp.out]; rfl
   obtain ⟨m, hm⟩ : ∃ m, m = ps.length := ⟨_, rfl⟩
   obtain ⟨n, hn⟩ : ∃ n, n = qs.length := ⟨_, rfl⟩
   rw [← hm] at h8 o1 h0 ⊢
   rw [← hn] at h9 o2 h0 ⊢
   obtain ⟨N, hN⟩ : ∃ N, N = max m n := ⟨_, rfl⟩
   rw [← hN] at h0
   have hN8 : N ≤ 8 := by omega
   have hNi : max (m : Int) (n : Int) = (N : Int) := by omega
   obtain ⟨H0, Ho1, Ho2, Hm, Hn⟩ := hd5 h0 o1 o2 hm hn; clear h0 o1 o2 hm hn
   clear Hv1 Hv2 Hn1 Hn2 Hcmp Hp8 Hq8 HP HQ HQ1
   go_wp2_with fail
   go_loopw [41] (fun i wr => ∃ k : Nat, k ≤ N ∧ i = .int .i64 k ∧ r = cmpFrom ps qs k (N - k) ∧ Below w2.heap.size w2 wr) (fun i _ => N - (RowKit.intOf i).toNat)
   case atStart => exact ⟨0, Nat.zero_le _, rfl, H0.out, Below.refl _ _⟩
   case round =>
    obtain ⟨k, hk, rfl, hrk, hbk⟩ := hrel
    by_cases hlt : k < N
    ·have p1 := ownsRow_below Ho1.out hbk
     have p2 := ownsRow_below Ho2.out hbk
     have em := Hm.out
     have en := Hn.out
     rw [em] at p1
     rw [en] at p2
     have hA := at_any p1 (by omega) k (by omega)
     have hB := fun (W : World) (h : Below wr.heap.size wr W) => at_any (ownsRow_below p2 h) (by omega) k (by omega)
     rw [← em] at hA
     rw [← en] at hB
     obtain ⟨x, hx⟩ : ∃ x, x = ps.getD k [] := ⟨_, rfl⟩
     obtain ⟨y, hy⟩ : ∃ x, x = qs.getD k [] := ⟨_, rfl⟩
     rw [← hx] at hA
     rw [← hy] at hB
     have hr2 : r = if pcmp x y ≠ 0 then pcmp x y else cmpFrom ps qs (k + 1) (N - (k + 1)) := by
      rw [hrk, show N - k = (N - (k + 1)) + 1 by omega, hx, hy]; rfl
     obtain ⟨c, hc⟩ : ∃ c, c = pcmp x y := ⟨_, rfl⟩
     rw [← hc] at hr2
     obtain ⟨r1, hr1⟩ : ∃ v, v = rankOf x := ⟨_, rfl⟩
     obtain ⟨m1, hm1⟩ : ∃ v, v = numOf x := ⟨_, rfl⟩
     obtain ⟨t1, ht1⟩ : ∃ v, v = (⟨(wordOf x).toArray⟩ : ByteArray) := ⟨_, rfl⟩
     obtain ⟨r2, hrr2⟩ : ∃ v, v = rankOf y := ⟨_, rfl⟩
     obtain ⟨m2, hm2⟩ : ∃ v, v = numOf y := ⟨_, rfl⟩
     obtain ⟨t2, ht2⟩ : ∃ v, v = (⟨(wordOf y).toArray⟩ : ByteArray) := ⟨_, rfl⟩
     rw [← hr1, ← hm1, ← ht1] at hA
     rw [← hrr2, ← hm2, ← ht2] at hB
     obtain ⟨c1, hc1⟩ : ∃ v, v = compareInt r1 r2 := ⟨_, rfl⟩
     obtain ⟨c2, hc2⟩ : ∃ v, v = compareInt m1 m2 := ⟨_, rfl⟩
     obtain ⟨c3, hc3⟩ : ∃ v, v = cmpW t1.data.toList t2.data.toList := ⟨_, rfl⟩
     have hC1 := fun W => compare_any r1 r2 W
     have hC2 := fun W => compare_any m1 m2 W
     have hC3 := fun W => compareW_any t1 t2 W
     rw [← hc1] at hC1
     rw [← hc2] at hC2
     rw [← hc3] at hC3
     have hF := or3_any c1 c2 c3 c (or3 c c1 c2 c3 (by rw [hc, hc1, hc2, hc3, hr1, hrr2, hm1, hm2, ht1, ht2]; rfl))
     clear hr1 hrr2 hm1 hm2 ht1 ht2 hc1 hc2 hc3 hc em en
     obtain ⟨Hp1, Hp2, HA, HB, Hx, Hy, Hrk, Hr2, HC1, HC2, HC3, HF, Hbk⟩ := hd13 p1 p2 hA hB hx hy hrk hr2 hC1 hC2 hC3 hF hbk; clear p1 p2 hA hB hx hy hrk hr2 hC1 hC2 hC3 hF hbk
     go_wp2_with fail
     refine HA.out.mono ?_
     rintro e w3 ⟨rfl, hb3⟩
     have hB3 := HB.out w3 hb3
     obtain ⟨HB3, Hb3⟩ := hd2 hB3 hb3; clear hB3 hb3
     clear HB
     go_wp2_with fail
     refine HB3.out.mono ?_
     rintro e w4 ⟨rfl, hb4⟩
     have hb5 := Hbk.out.trans ((Hb3.out.trans (hb4.mono Hb3.out.size)).mono Hbk.out.size)
     obtain ⟨Hb4, Hb5⟩ := hd2 hb4 hb5; clear hb4 hb5
     obtain ⟨A, hA⟩ : ∃ A, A = Obj.cells #[.int .i64 r1, .int .i64 m1, .string t1] 241 := ⟨_, rfl⟩
     obtain ⟨B, hB⟩ : ∃ A, A = Obj.cells #[.int .i64 r2, .int .i64 m2, .string t2] 241 := ⟨_, rfl⟩
     obtain ⟨pa, hpa⟩ : ∃ n, n = w4.heap.size := ⟨_, rfl⟩
     obtain ⟨pb, hpb⟩ : ∃ n, n = w4.heap.size + 1 := ⟨_, rfl⟩
     obtain ⟨W0, hW0⟩ : ∃ W, W = (w4.alloc A).alloc B := ⟨_, rfl⟩
     have hX : W0.heap[pa]? = some (.cells #[.int .i64 r1, .int .i64 m1, .string t1] 241 (0, 0)) := by
      rw [hW0, hpa]; exact heap_below (below_alloc1 _ _) (by rw [hA]; exact heap_alloc_new _ _)
     have hY : W0.heap[pb]? = some (.cells #[.int .i64 r2, .int .i64 m2, .string t2] 241 (0, 0)) := by
      rw [hW0, hpb, hB, show w4.heap.size + 1 = (w4.alloc A).heap.size by simp]; exact heap_alloc_new _ _
     have hbW : Below w2.heap.size w2 W0 := by
      rw [hW0]
      exact (Hb5.out.alloc Hb5.out.size _).alloc (by have := Hb5.out.size; simp; omega) _
     obtain ⟨x0, x1, x2, _, _, _⟩ := trip_cells hX
     obtain ⟨y0, y1, y2, _, _, _⟩ := trip_cells hY
     obtain ⟨HA, HB, Hpa, Hpb, HW0, HX, HY, HbW⟩ := hd8 hA hB hpa hpb hW0 hX hY hbW; clear hA hB hpa hpb hW0 hX hY hbW
     go_upto_region 13 with fail
     rw [← HA.out, ← HB.out, ← HW0.out, ← Hpb.out, ← Hpa.out]
     have hS : W0.cell? ⟨pa, 0, none⟩ = some (.int .i64 r1) ∧ W0.cell? ⟨pa, 1, none⟩ = some (.int .i64 m1) ∧ W0.cell? ⟨pa, 2, none⟩ = some (.string t1) ∧ W0.cell? ⟨pb, 0, none⟩ = some (.int .i64 r2) ∧ W0.cell? ⟨pb, 1, none⟩ = some (.int .i64 m2) ∧ W0.cell? ⟨pb, 2, none⟩ = some (.string t2) := ⟨x0, x1, x2, y0, y1, y2⟩
     have hS1 : ∀ o, (W0.drew.alloc o).cell? ⟨pa, 0, none⟩ = some (.int .i64 r1) ∧ (W0.drew.alloc o).cell? ⟨pa, 1, none⟩ = some (.int .i64 m1) ∧ (W0.drew.alloc o).cell? ⟨pa, 2, none⟩ = some (.string t1) ∧ (W0.drew.alloc o).cell? ⟨pb, 0, none⟩ = some (.int .i64 r2) ∧ (W0.drew.alloc o).cell? ⟨pb, 1, none⟩ = some (.int .i64 m2) ∧ (W0.drew.alloc o).cell? ⟨pb, 2, none⟩ = some (.string t2) := fun o =>
      ⟨cell_later (below_alloc1 W0.drew o) x0, cell_later (below_alloc1 W0.drew o) x1, cell_later (below_alloc1 W0.drew o) x2, cell_later (below_alloc1 W0.drew o) y0, cell_later (below_alloc1 W0.drew o) y1, cell_later (below_alloc1 W0.drew o) y2⟩
     have hbW2 : ∀ o, Below w2.heap.size w2 (W0.alloc o).drew := fun o => (HbW.out.alloc HbW.out.size o).drew
     obtain ⟨HS, HS1, HbW2⟩ := hd3 hS hS1 hbW2; clear hS hS1 hbW2
     clear HA HB HW0 Hpa Hpb HX HY
     go_region_held3 (fun w' => w'.cell? ⟨pa, 0, none⟩ = some (.int .i64 r1) ∧ w'.cell? ⟨pa, 1, none⟩ = some (.int .i64 m1) ∧ w'.cell? ⟨pa, 2, none⟩ = some (.string t1) ∧ w'.cell? ⟨pb, 0, none⟩ = some (.int .i64 r2) ∧ w'.cell? ⟨pb, 1, none⟩ = some (.int .i64 m2) ∧ w'.cell? ⟨pb, 2, none⟩ = some (.string t2)) (first | exact HS.out | exact HS1.out _) (first
      | (go_at_call_of 199 (Value.int .i64 r1); refine (HC1.out _).mono ?_; rintro e w5 ⟨rfl, rfl⟩)
      | (go_at_call_of 199 (Value.int .i64 m1); refine (HC2.out _).mono ?_; rintro e w5 ⟨rfl, rfl⟩)
      | (go_at_call_of 200 (Value.string t1); refine (HC3.out _).mono ?_; rintro e w5 ⟨rfl, rfl⟩)
      | (go_at_call 198; refine (HF.out W0).mono ?_; rintro e w5 ⟨rfl, rfl⟩))
     all_goals
      have hbz := HbW2.out (.cells #[.int .i64 c1, .int .i64 c2, .int .i64 c3] 3)
      generalize (W0.alloc (.cells #[.int .i64 c1, .int .i64 c2, .int .i64 c3] 3)).drew = W9 at hbz ⊢
      by_cases hc0 : c = 0
      ·have e1 : (c != 0) = false := by rw [hc0]; rfl
       have hn_ : r = cmpFrom ps qs (k + 1) (N - (k + 1)) := by rw [Hr2.out, if_neg (by rw [hc0]; simp)]
       obtain ⟨Hbz, Hc0, Hn_⟩ := hd3 hbz hc0 hn_; clear hbz hc0 hn_
       go_wp2_with fail
       go_roundw
       case rel => exact ⟨k + 1, by omega, by go_num, Hn_.out, Hbz.out⟩
       case measure => simp [RowKit.intOf]; omega
      ·have e1 : (c != 0) = true := by simpa using hc0
       have hn_ : r = c := by rw [Hr2.out, if_pos hc0]
       have hb9 := Hb.out.trans (hbz.mono Hb.out.size)
       obtain ⟨Hbz, Hc0, Hn_, Hb9⟩ := hd4 hbz hc0 hn_ hb9; clear hbz hc0 hn_ hb9
       go_wp2_with fail
       go_ret
       exact ⟨ret_int Hn_.out.symm, Hb9.out⟩
    ·obtain rfl : k = N := by omega
     have hfin : r = 0 := by rw [hrk, Nat.sub_self]; rfl
     have hb9 := Hb.out.trans (hbk.mono Hb.out.size)
     obtain ⟨Hrk, Hbk, Hfin, Hb9⟩ := hd4 hrk hbk hfin hb9; clear hrk hbk hfin hb9
     go_wp2_with fail
     go_ret
     exact ⟨ret_int Hfin.out.symm, Hb9.out⟩
end Go.Proofs.YteailgjiifdgcaaGreatDoor

/- Rows of texts: how they are read, and what stays. No condition. -/
namespace Go.Proofs.YteailgjiifdgcaaGreatDoor
open Go.RowKit Go.Lib

end Go.Proofs.YteailgjiifdgcaaGreatDoor

/- The walks of version.May, span.bound, span.ahead, span.later, span.sooner and the document's bound. Condition: the library's variables as they were laid; texts of at most a million bytes. -/
namespace Go.Proofs.YteailgjiifdgcaaGreatDoor
open Go.RowKit Go.Lib VerN

theorem calls_to {f : Nat} {args : Array Value} {w W : World} {E : Ending} (h : Below w.heap.size w W) (c : Calls Tryz.prog f args W fun e w' => e = E ∧ Below W.heap.size W w') : Calls Tryz.prog f args W fun e w' => e = E ∧ Below w.heap.size w w' :=
 c.mono fun _ _ ⟨he, hb⟩ => ⟨he, h.trans (hb.mono h.size)⟩
set_option maxRecDepth 10000 in
theorem verMay_any (s : ByteArray) (hs : s.size ≤ 1000000) {w : World} (hD : Doors w) : Calls Tryz.prog 124 #[.string s] w fun e w' => e = .returned (.bool (mayL s.data.toList)) ∧ Below w.heap.size w w' := by
 have hP := parts_any s hs hD
 unfold partsPost at hP
 obtain ⟨p, hp⟩ : ∃ p, p = mayL s.data.toList := ⟨_, rfl⟩
 rw [← hp] at hP ⊢
 obtain ⟨HP, Hp, HD⟩ := hd3 hP hp hD; clear hP hp hD
 go_enter Tryz.func124, Tryz.ntmps124
 go_wp2_with fail
 refine HP.out.mono ?_
 rintro e w1 ⟨v, rfl, _, _, hb1⟩
 have Hb1 := hd hb1; clear hb1
 go_wp2_with fail
 go_ret
 exact ⟨rfl, Hb1.out⟩
theorem bound_yes {s : ByteArray} (h : s.size = 0) : boundB s.data.toList = true := by unfold boundB; rw [(nil_size s).2 h]; rfl
theorem bound_no {s : ByteArray} (h : s.size ≠ 0) : boundB s.data.toList = mayL s.data.toList := by unfold boundB; rw [decide_eq_false (fun e => h ((nil_size s).1 e))]; rfl
set_option maxRecDepth 10000 in
theorem bound_any (s : ByteArray) (hs : s.size ≤ 1000000) {w : World} (hD : Doors w) : Calls Tryz.prog 162 #[.string s] w fun e w' => e = .returned (.bool (boundB s.data.toList)) ∧ Below w.heap.size w w' := by
 by_cases h0 : s.size = 0
 ·rw [bound_yes h0]
  have k1 : s.toList.isEmpty = true := by rw [Txt.no_dec, decide_eq_true h0]
  have HD := hd hD; clear hD
  go_enter Tryz.func162, Tryz.ntmps162
  go_wp2_with fail
  go_ret
  exact ⟨rfl, Below.refl _ _⟩
 ·have hP := verMay_any s hs hD
  rw [bound_no h0]
  have k1 : s.toList.isEmpty = false := by rw [Txt.no_dec, decide_eq_false h0]
  obtain ⟨p, hp⟩ : ∃ p, p = mayL s.data.toList := ⟨_, rfl⟩
  rw [← hp] at hP ⊢
  obtain ⟨HP, Hp, HD⟩ := hd3 hP hp hD; clear hP hp hD
  go_enter Tryz.func162, Tryz.ntmps162
  go_wp2_with fail
  refine HP.out.mono ?_
  rintro e w1 ⟨rfl, hb1⟩
  have Hb1 := hd hb1; clear hb1
  go_wp2_with fail
  go_ret
  exact ⟨rfl, Hb1.out⟩
theorem ahead_l {a b : ByteArray} (h : a.size = 0) : aheadB a.data.toList b.data.toList = false := by unfold aheadB; rw [(nil_size a).2 h]; rfl
theorem ahead_r {a b : ByteArray} (h : b.size = 0) : aheadB a.data.toList b.data.toList = false := by unfold aheadB; rw [(nil_size b).2 h]; simp
theorem ahead_c {a b : ByteArray} (h : a.size ≠ 0) (k : b.size ≠ 0) : aheadB a.data.toList b.data.toList = decide (compareL a.data.toList b.data.toList < 0) := by
 have h1 : decide (a.data.toList ≠ []) = true := decide_eq_true (fun e => h ((nil_size a).1 e))
 have h2 : decide (b.data.toList ≠ []) = true := decide_eq_true (fun e => k ((nil_size b).1 e))
 unfold aheadB
 rw [h1, h2]
 rfl
set_option maxRecDepth 10000 in
theorem ahead_any (a b : ByteArray) (ha : a.size ≤ 1000000) (hb : b.size ≤ 1000000) {w : World} (hD : Doors w) : Calls Tryz.prog 125 #[.string a, .string b] w fun e w' => e = .returned (.bool (aheadB a.data.toList b.data.toList)) ∧ Below w.heap.size w w' := by
 by_cases h0 : a.size = 0
 ·rw [ahead_l h0]
  have k1 : a.toList.isEmpty = true := by rw [Txt.no_dec, decide_eq_true h0]
  have HD := hd hD; clear hD
  go_enter Tryz.func125, Tryz.ntmps125
  go_wp2_with fail
  go_ret
  exact ⟨rfl, Below.refl _ _⟩
 ·have k1 : a.toList.isEmpty = false := by rw [Txt.no_dec, decide_eq_false h0]
  by_cases h1 : b.size = 0
  ·rw [ahead_r h1]
   have k2 : b.toList.isEmpty = true := by rw [Txt.no_dec, decide_eq_true h1]
   have HD := hd hD; clear hD
   go_enter Tryz.func125, Tryz.ntmps125
   go_wp2_with fail
   go_ret
   exact ⟨rfl, Below.refl _ _⟩
  ·have k2 : b.toList.isEmpty = false := by rw [Txt.no_dec, decide_eq_false h1]
   have hP := verCompare_any a b ha hb hD
   rw [ahead_c h0 h1]
   obtain ⟨p, hp⟩ : ∃ p, p = compareL a.data.toList b.data.toList := ⟨_, rfl⟩
   rw [← hp] at hP ⊢
   obtain ⟨HP, Hp, HD⟩ := hd3 hP hp hD; clear hP hp hD
   go_enter Tryz.func125, Tryz.ntmps125
   go_wp2_with fail
   refine HP.out.mono ?_
   rintro e w1 ⟨rfl, hb1⟩
   have Hb1 := hd hb1; clear hb1
   go_wp2_with fail
   go_ret
   exact ⟨rfl, Hb1.out⟩
def laterS (a b : ByteArray) : ByteArray := if a.size = 0 ∨ aheadB a.data.toList b.data.toList = true then b else a
def soonerS (a b : ByteArray) : ByteArray := if a.size = 0 ∨ aheadB b.data.toList a.data.toList = true then b else a
theorem laterS_data (a b : ByteArray) : (laterS a b).data.toList = laterB a.data.toList b.data.toList := by
 unfold laterS laterB
 simp only [nil_size]
 split <;> rfl
theorem soonerS_data (a b : ByteArray) : (soonerS a b).data.toList = soonerB a.data.toList b.data.toList := by
 unfold soonerS soonerB
 simp only [nil_size]
 split <;> rfl
theorem laterS_size {a b : ByteArray} {n : Nat} (ha : a.size ≤ n) (hb : b.size ≤ n) : (laterS a b).size ≤ n := by unfold laterS; split <;> assumption
theorem soonerS_size {a b : ByteArray} {n : Nat} (ha : a.size ≤ n) (hb : b.size ≤ n) : (soonerS a b).size ≤ n := by unfold soonerS; split <;> assumption
set_option maxRecDepth 10000 in
theorem later_any (a b : ByteArray) (ha : a.size ≤ 1000000) (hb : b.size ≤ 1000000) {w : World} (hD : Doors w) : Calls Tryz.prog 166 #[.string a, .string b] w fun e w' => e = .returned (.string (laterS a b)) ∧ Below w.heap.size w w' := by
 by_cases h0 : a.size = 0
 ·have hv : laterS a b = b := by unfold laterS; rw [if_pos (.inl h0)]
  rw [hv]
  have k1 : a.toList.isEmpty = true := by rw [Txt.no_dec, decide_eq_true h0]
  obtain ⟨HD, Hv⟩ := hd2 hD hv; clear hD hv
  go_enter Tryz.func166, Tryz.ntmps166
  go_wp2_with fail
  go_ret
  exact ⟨rfl, Below.refl _ _⟩
 ·have k1 : a.toList.isEmpty = false := by rw [Txt.no_dec, decide_eq_false h0]
  have hA := ahead_any a b ha hb hD
  obtain ⟨p, hp⟩ : ∃ p, p = aheadB a.data.toList b.data.toList := ⟨_, rfl⟩
  rw [← hp] at hA
  cases p with
  | true =>
   have hv : laterS a b = b := by unfold laterS; rw [if_pos (.inr hp.symm)]
   rw [hv]
   obtain ⟨HA, Hp, HD, Hv⟩ := hd4 hA hp hD hv; clear hA hp hD hv
   go_enter Tryz.func166, Tryz.ntmps166
   go_wp2_with fail
   refine HA.out.mono ?_
   rintro e w1 ⟨rfl, hb1⟩
   have Hb1 := hd hb1; clear hb1
   go_wp2_with fail
   go_ret
   exact ⟨rfl, Hb1.out⟩
  | false =>
   have hv : laterS a b = a := by unfold laterS; rw [if_neg (by rintro (h | h); exact h0 h; rw [h] at hp; cases hp)]
   rw [hv]
   obtain ⟨HA, Hp, HD, Hv⟩ := hd4 hA hp hD hv; clear hA hp hD hv
   go_enter Tryz.func166, Tryz.ntmps166
   go_wp2_with fail
   refine HA.out.mono ?_
   rintro e w1 ⟨rfl, hb1⟩
   have Hb1 := hd hb1; clear hb1
   go_wp2_with fail
   go_ret
   exact ⟨rfl, Hb1.out⟩
set_option maxRecDepth 10000 in
theorem sooner_any (a b : ByteArray) (ha : a.size ≤ 1000000) (hb : b.size ≤ 1000000) {w : World} (hD : Doors w) : Calls Tryz.prog 165 #[.string a, .string b] w fun e w' => e = .returned (.string (soonerS a b)) ∧ Below w.heap.size w w' := by
 by_cases h0 : a.size = 0
 ·have hv : soonerS a b = b := by unfold soonerS; rw [if_pos (.inl h0)]
  rw [hv]
  have k1 : a.toList.isEmpty = true := by rw [Txt.no_dec, decide_eq_true h0]
  obtain ⟨HD, Hv⟩ := hd2 hD hv; clear hD hv
  go_enter Tryz.func165, Tryz.ntmps165
  go_wp2_with fail
  go_ret
  exact ⟨rfl, Below.refl _ _⟩
 ·have k1 : a.toList.isEmpty = false := by rw [Txt.no_dec, decide_eq_false h0]
  have hA := ahead_any b a hb ha hD
  obtain ⟨p, hp⟩ : ∃ p, p = aheadB b.data.toList a.data.toList := ⟨_, rfl⟩
  rw [← hp] at hA
  cases p with
  | true =>
   have hv : soonerS a b = b := by unfold soonerS; rw [if_pos (.inr hp.symm)]
   rw [hv]
   obtain ⟨HA, Hp, HD, Hv⟩ := hd4 hA hp hD hv; clear hA hp hD hv
   go_enter Tryz.func165, Tryz.ntmps165
   go_wp2_with fail
   refine HA.out.mono ?_
   rintro e w1 ⟨rfl, hb1⟩
   have Hb1 := hd hb1; clear hb1
   go_wp2_with fail
   go_ret
   exact ⟨rfl, Hb1.out⟩
  | false =>
   have hv : soonerS a b = a := by unfold soonerS; rw [if_neg (by rintro (h | h); exact h0 h; rw [h] at hp; cases hp)]
   rw [hv]
   obtain ⟨HA, Hp, HD, Hv⟩ := hd4 hA hp hD hv; clear hA hp hD hv
   go_enter Tryz.func165, Tryz.ntmps165
   go_wp2_with fail
   refine HA.out.mono ?_
   rintro e w1 ⟨rfl, hb1⟩
   have Hb1 := hd hb1; clear hb1
   go_wp2_with fail
   go_ret
   exact ⟨rfl, Hb1.out⟩
end Go.Proofs.YteailgjiifdgcaaGreatDoor

/- The walks of span.May, Has and the document's. Condition: the library's variables as they were laid; texts of at most a million bytes. -/
namespace Go.Proofs.YteailgjiifdgcaaGreatDoor
open Go.RowKit Go.Lib VerN

theorem below_on {w W0 W : World} (h : Below w.heap.size w W0) (k : Below W0.heap.size W0 W) : Below w.heap.size w W := h.trans (k.mono h.size)
theorem spn_box (lo hi : ByteArray) (w W : World) (h : Below (w.alloc (.cells #[.string lo, .string hi] 34)).heap.size (w.alloc (.cells #[.string lo, .string hi] 34)) W) : W.cell? ⟨w.heap.size, 0, none⟩ = some (.string lo) ∧ W.cell? ⟨w.heap.size, 1, none⟩ = some (.string hi) := by
 have h1 := heap_below h (heap_alloc_new w (.cells #[.string lo, .string hi] 34))
 exact ⟨cells_at h1 0, cells_at h1 1⟩
theorem empty_bool (s : ByteArray) : s.toList.isEmpty = decide (s.data.toList = []) := by rw [Txt.no_dec]; exact decide_eq_decide.2 (nil_size s).symm
set_option maxRecDepth 10000 in
set_option maxHeartbeats 1000000 in
theorem spanMay_any (lo hi : ByteArray) (hl : lo.size ≤ 1000000) (hh : hi.size ≤ 1000000) {w : World} (hD : Doors w) : Calls Tryz.prog 104 #[.agg #[.string lo, .string hi]] w fun e w' => e = .returned (.bool (mayS (lo.data.toList, hi.data.toList))) ∧ Below w.heap.size w w' := by
 obtain ⟨W0, hW0⟩ : ∃ W0, W0 = w.alloc (.cells #[.string lo, .string hi] 34) := ⟨_, rfl⟩
 obtain ⟨nb, hnb⟩ : ∃ nb, nb = w.heap.size := ⟨_, rfl⟩
 have hw : Below w.heap.size w W0 := by rw [hW0]; exact below_alloc1 _ _
 have hbx : ∀ W, Below W0.heap.size W0 W → W.cell? ⟨nb, 0, none⟩ = some (.string lo) ∧ W.cell? ⟨nb, 1, none⟩ = some (.string hi) := by rw [hW0, hnb]; exact spn_box _ _ _
 obtain ⟨c0, c1⟩ := hbx W0 (Below.refl _ _)
 have hb0 : Below W0.heap.size W0 W0 := Below.refl _ _
 have hA := fun (W : World) (k : Below W0.heap.size W0 W) => calls_to k (bound_any lo hl (hD.below (below_on hw k)))
 have hB := fun (W : World) (k : Below W0.heap.size W0 W) => calls_to k (bound_any hi hh (hD.below (below_on hw k)))
 have hC := fun (W : World) (k : Below W0.heap.size W0 W) => calls_to k (ahead_any hi lo hh hl (hD.below (below_on hw k)))
 obtain ⟨p, hp⟩ : ∃ p, p = boundB lo.data.toList := ⟨_, rfl⟩
 obtain ⟨q, hq⟩ : ∃ p, p = boundB hi.data.toList := ⟨_, rfl⟩
 obtain ⟨r, hr⟩ : ∃ p, p = aheadB hi.data.toList lo.data.toList := ⟨_, rfl⟩
 have hm : mayS (lo.data.toList, hi.data.toList) = (p && q && !r) := by rw [hp, hq, hr]; rfl
 rw [← hp] at hA
 rw [← hq] at hB
 rw [← hr] at hC
 rw [hm]
 clear hm hp hq hr hD
 obtain ⟨HA, HB, HC, Hw, Hbx, Hb0⟩ := hd6 hA hB hC hw hbx hb0; clear hA hB hC hw hbx hb0
 go_enter Tryz.func104, Tryz.ntmps104
 go_upto_region 1 with (fail)
 rw [← hW0, ← hnb]
 clear hW0 hnb
 go_wp2_with fail
 refine (HA.out _ Hb0.out).mono ?_
 rintro e w1 ⟨rfl, hb1⟩
 obtain ⟨c0, c1⟩ := Hbx.out _ hb1
 have Hb1 := hd hb1; clear hb1
 cases p with
 | false =>
  go_wp2_with fail
  go_ret
  exact ⟨rfl, below_on Hw.out Hb1.out⟩
 | true =>
  go_wp2_with fail
  refine (HB.out _ Hb1.out).mono ?_
  rintro e w2 ⟨rfl, hb2⟩
  obtain ⟨c0, c1⟩ := Hbx.out _ hb2
  have Hb2 := hd hb2; clear hb2
  cases q with
  | false =>
   go_wp2_with fail
   go_ret
   exact ⟨rfl, below_on Hw.out Hb2.out⟩
  | true =>
   go_wp2_with fail
   refine (HC.out _ Hb2.out).mono ?_
   rintro e w3 ⟨rfl, hb3⟩
   obtain ⟨c0, c1⟩ := Hbx.out _ hb3
   have Hb3 := hd hb3; clear hb3
   go_wp2_with fail
   go_ret
   exact ⟨rfl, below_on Hw.out Hb3.out⟩
end Go.Proofs.YteailgjiifdgcaaGreatDoor

/- The walks of span.Text, Within, and the document's Text, Great. Condition: the library's variables as they were laid; texts of at most a million bytes. -/
namespace Go.Proofs.YteailgjiifdgcaaGreatDoor
open Go.RowKit Go.Lib VerN

def txR (lo hi : ByteArray) : ByteArray := if lo = hi ∧ lo.size ≠ 0 then lo else lo ++ ⟨#[58]⟩ ++ hi
def txS (lo hi : ByteArray) : ByteArray := if mayS (lo.data.toList, hi.data.toList) = true then txR lo hi else ⟨#[]⟩
theorem colon_data (h a : ByteArray) : (h ++ ⟨#[58]⟩ ++ a).data.toList = h.data.toList ++ 58 :: a.data.toList := by
 rw [Go.Joins.data_append, Go.Joins.data_append, List.append_assoc]
 rfl
theorem colon_size (h a : ByteArray) : (h ++ ⟨#[58]⟩ ++ a).size = h.size + 1 + a.size := by
 rw [← Txt.len, colon_data, List.length_append, List.length_cons, Txt.len, Txt.len]
 omega
theorem ba_eq {a b : ByteArray} : a = b ↔ a.data.toList = b.data.toList := ⟨fun h => by rw [h], Txt.ext⟩
theorem txR_data (lo hi : ByteArray) : (txR lo hi).data.toList = textR (lo.data.toList, hi.data.toList) := by
 unfold txR textR
 simp only [ba_eq, ne_eq, nil_size]
 split
 ·rfl
 ·exact colon_data _ _
theorem txS_data (lo hi : ByteArray) : (txS lo hi).data.toList = textS (lo.data.toList, hi.data.toList) := by
 unfold txS textS
 split
 ·exact txR_data _ _
 ·rfl
theorem txR_size (lo hi : ByteArray) : (txR lo hi).size ≤ lo.size + 1 + hi.size := by
 unfold txR
 split
 ·omega
 ·rw [colon_size]
  exact Nat.le_refl _
set_option maxRecDepth 10000 in
set_option maxHeartbeats 1000000 in
theorem spanText_any (lo hi : ByteArray) (hl : lo.size ≤ 1000000) (hh : hi.size ≤ 1000000) {w : World} (hD : Doors w) : Calls Tryz.prog 57 #[.agg #[.string lo, .string hi]] w fun e w' => e = .returned (.string (txS lo hi)) ∧ Below w.heap.size w w' := by
 obtain ⟨W0, hW0⟩ : ∃ W0, W0 = w.alloc (.cells #[.string lo, .string hi] 34) := ⟨_, rfl⟩
 obtain ⟨nb, hnb⟩ : ∃ nb, nb = w.heap.size := ⟨_, rfl⟩
 have hw : Below w.heap.size w W0 := by rw [hW0]; exact below_alloc1 _ _
 have hbx : ∀ W, Below W0.heap.size W0 W → W.cell? ⟨nb, 0, none⟩ = some (.string lo) ∧ W.cell? ⟨nb, 1, none⟩ = some (.string hi) := by rw [hW0, hnb]; exact spn_box _ _ _
 obtain ⟨c0, c1⟩ := hbx W0 (Below.refl _ _)
 have hb0 : Below W0.heap.size W0 W0 := Below.refl _ _
 obtain ⟨d1, k1⟩ : ∃ p, lo.toList.isEmpty = p := ⟨_, rfl⟩
 obtain ⟨d2, k2⟩ : ∃ p, (lo.toList == hi.toList) = p := ⟨_, rfl⟩
 have e0 : (lo ++ ⟨#[58]⟩).size = lo.size + 1 := by rw [← Txt.len, Go.Joins.data_append, List.length_append, Txt.len]; rfl
 have hA := fun (W : World) (k : Below W0.heap.size W0 W) => calls_to k (spanMay_any lo hi hl hh (hD.below (below_on hw k)))
 obtain ⟨p, hp⟩ : ∃ p, p = mayS (lo.data.toList, hi.data.toList) := ⟨_, rfl⟩
 have hm : txS lo hi = if p = true then (if d2 = true then (if d1 = true then lo ++ ⟨#[58]⟩ ++ hi else lo) else lo ++ ⟨#[58]⟩ ++ hi) else ⟨#[]⟩ := by
  rw [← k1, ← k2, Txt.no_dec, Txt.eq_dec]
  unfold txS txR
  rw [← hp]
  by_cases h1 : lo = hi <;> by_cases h2 : lo.size = 0 <;> simp [h1, h2]
 rw [hm]
 rw [← hp] at hA
 clear hm hp hD
 obtain ⟨HA, Hw, Hbx, Hb0⟩ := hd4 hA hw hbx hb0; clear hA hw hbx hb0
 go_enter Tryz.func57, Tryz.ntmps57
 go_upto_region 1 with (fail)
 rw [← hW0, ← hnb]
 clear hW0 hnb
 go_wp2_with fail
 refine (HA.out _ Hb0.out).mono ?_
 rintro e w1 ⟨rfl, hb1⟩
 obtain ⟨c0, c1⟩ := Hbx.out _ hb1
 have Hb1 := hd hb1; clear hb1
 cases p with
 | false =>
  go_wp2_with fail
  go_ret
  exact ⟨rfl, below_on Hw.out Hb1.out⟩
 | true =>
  cases d2 with
  | false =>
   go_wp2_with fail
   go_ret
   exact ⟨rfl, below_on Hw.out Hb1.out⟩
  | true =>
   cases d1 with
   | false =>
    go_wp2_with fail
    go_ret
    exact ⟨rfl, below_on Hw.out Hb1.out⟩
   | true =>
    go_wp2_with fail
    go_ret
    exact ⟨rfl, below_on Hw.out Hb1.out⟩
end Go.Proofs.YteailgjiifdgcaaGreatDoor

/- Plain facts on spans' texts: a text is read as it was; the program's way of reading and the document's. -/
namespace Go.Proofs.YteailgjiifdgcaaGreatDoor.VerN
open Go.Lib

theorem indexByte_none (c : UInt8) : ∀ l : List UInt8, c ∉ l → indexByte l c = -1
 | [], _ => rfl
 | x :: r, h => by
  have hx : x ≠ c := fun e => h (by simp [e])
  have hr := indexByte_none c r (fun e => h (by simp [e]))
  unfold indexByte
  simp [hx, hr]
theorem indexByte_at (c : UInt8) : ∀ a b : List UInt8, c ∉ a → indexByte (a ++ c :: b) c = a.length
 | [], _, _ => by show indexByte (c :: _) c = _; unfold indexByte; simp
 | x :: r, b, h => by
  have hx : x ≠ c := fun e => h (by simp [e])
  have hr := indexByte_at c r b (fun e => h (by simp [e]))
  show indexByte (x :: (r ++ c :: b)) c = _
  unfold indexByte
  rw [hr]
  simp [hx]
theorem cut_none {l : List UInt8} (h : (58 : UInt8) ∉ l) : cut l [58] = (l, [], false) := by
 unfold cut
 rw [index_one, indexByte_none _ _ h, if_neg (by omega)]
theorem cut_at {a b : List UInt8} (h : (58 : UInt8) ∉ a) : cut (a ++ 58 :: b) [58] = (a, b, true) := by
 unfold cut
 rw [index_one, indexByte_at _ _ _ h, if_pos (by omega)]
 simp
theorem colon_cases (l : List UInt8) : (58 : UInt8) ∉ l ∨ ∃ a b, l = a ++ 58 :: b ∧ (58 : UInt8) ∉ a := by
 by_cases h : (58 : UInt8) ∈ l
 ·exact .inr (List.eq_append_cons_of_mem h)
 ·exact .inl h
def spO (l : List UInt8) : Sp := if (cut l [58]).2.2 = true then ((cut l [58]).1, (cut l [58]).2.1) else ((cut l [58]).1, (cut l [58]).1)
def spOk (l : List UInt8) : Bool := mayS (spO l) && decide (textS (spO l) = l)
end Go.Proofs.YteailgjiifdgcaaGreatDoor.VerN

/- The walk of span.Read. Condition: the library's variables as they were laid; a text of at most a million bytes. -/
namespace Go.Proofs.YteailgjiifdgcaaGreatDoor
open Go.RowKit Go.Lib VerN

theorem bodyPost_spn2 {fn : Func} {p u : Tmp} (hres : fn.results = #[.cell p 34, .tmp u]) {R : Ending → World → Prop} {a : Act} {w : World} {g : Nat} {x y b : Value} (hp : a.tmps.getD p undef = .pointer (some ⟨g, 0, none⟩)) (hu : a.tmps.getD u undef = b)
  (hg : w.heap[g]? = some (.cells #[x, y] 34 (0, 0))) (hd : a.defers = []) (hR : R (.returned (.tuple #[.agg #[x, y], b])) w) : bodyPost Tryz.prog fn R .ret a w := by
 refine bodyPost_ret (v := .tuple #[.agg #[x, y], b]) ?_ hd hR
 rw [results_cell_tmp hres, hp, hu]
 simp only [asAddr, Sem.run_pure, Result.andThen, run_loadVar_row w g 34 34 _ _ _ hg Tryz.underlying34 rfl (by kernel_rfl)]
theorem bodyPost_spn1 {fn : Func} {p : Tmp} (hres : fn.results = #[.cell p 34]) {R : Ending → World → Prop} {a : Act} {w : World} {g : Nat} {x y : Value} (hp : a.tmps.getD p undef = .pointer (some ⟨g, 0, none⟩)) (hg : w.heap[g]? = some (.cells #[x, y] 34 (0, 0))) (hd : a.defers = []) (hR : R (.returned (.agg #[x, y])) w) : bodyPost Tryz.prog fn R .ret a w :=
 bodyPost_ret (results_cell_row hres a.tmps w g _ _ _ _ hp hg Tryz.underlying34 rfl (by kernel_rfl)) hd hR
theorem pair_cells {w : World} {g : Nat} {t : TypeId} {x y : Value} (h : w.heap[g]? = some (.cells #[x, y] t (0, 0))) : w.cell? ⟨g, 0, none⟩ = some x ∧ w.cell? ⟨g, 1, none⟩ = some y ∧ w.frozen? ⟨g, 0, none⟩ = false ∧ w.frozen? ⟨g, 1, none⟩ = false :=
 ⟨cells_at h 0, cells_at h 1, frozen_at h 0, frozen_at h 1⟩
theorem pair_set {w : World} {g : Nat} {t : TypeId} {x y : Value} (u v : Value) (h : w.heap[g]? = some (.cells #[x, y] t (0, 0))) : ((w.setCell ⟨g, 0, none⟩ u).setCell ⟨g, 1, none⟩ v).heap[g]? = some (.cells #[u, v] t (0, 0)) := by
 have k0 := heap_setCell_same _ g 0 _ _ u h
 have k1 := heap_setCell_same _ g 1 _ _ v k0
 exact k1
theorem pair_bel {B : Nat} {a w : World} {g : Nat} (u v : Value) (h : Below B a w) (hg : B ≤ g) : Below B a ((w.setCell ⟨g, 0, none⟩ u).setCell ⟨g, 1, none⟩ v) := (h.setCell (p := ⟨g, 0, none⟩) hg _).setCell (p := ⟨g, 1, none⟩) hg _
theorem ret_spn2 {a b c d : ByteArray} {p q : Bool} (h1 : a = c) (h2 : b = d) (h3 : p = q) : Ending.returned (.tuple #[.agg #[.string a, .string b], .bool p]) = .returned (.tuple #[.agg #[.string c, .string d], .bool q]) := by rw [h1, h2, h3]
def spB (s : ByteArray) : ByteArray × ByteArray := if (cut s.data.toList [58]).2.2 = true then (⟨(cut s.data.toList [58]).1.toArray⟩, ⟨(cut s.data.toList [58]).2.1.toArray⟩) else (⟨(cut s.data.toList [58]).1.toArray⟩, ⟨(cut s.data.toList [58]).1.toArray⟩)
def spV (s : ByteArray) : ByteArray × ByteArray := if spOk s.data.toList = true then spB s else (⟨#[]⟩, ⟨#[]⟩)
theorem spB_data (s : ByteArray) : ((spB s).1.data.toList, (spB s).2.data.toList) = spO s.data.toList := by
 unfold spB spO
 split <;> rfl
theorem cut_small (s : ByteArray) : (cut s.data.toList [58]).1.length ≤ s.size ∧ (cut s.data.toList [58]).2.1.length ≤ s.size := by
 rw [← Txt.len]
 rcases colon_cases s.data.toList with h | ⟨a, b, hab, h⟩
 ·rw [cut_none h]
  exact ⟨Nat.le_refl _, Nat.zero_le _⟩
 ·rw [hab, cut_at h]
  constructor <;> simp
  omega
set_option maxRecDepth 10000 in
set_option maxHeartbeats 2000000 in
theorem spanRead_any (s : ByteArray) (hs : s.size ≤ 100000) {w : World} (hD : Doors w) : Calls Tryz.prog 53 #[.string s] w fun e w' => e = .returned (.tuple #[.agg #[.string (spV s).1, .string (spV s).2], .bool (spOk s.data.toList)]) ∧ Below w.heap.size w w' := by
 obtain ⟨W0, hW0⟩ : ∃ W0, W0 = w.alloc (.cells #[.string ⟨#[]⟩, .string ⟨#[]⟩] 34) := ⟨_, rfl⟩
 obtain ⟨nb, hnb⟩ : ∃ nb, nb = w.heap.size := ⟨_, rfl⟩
 have hw : Below w.heap.size w W0 := by rw [hW0]; exact below_alloc1 _ _
 have hbx : W0.heap[nb]? = some (.cells #[.string ⟨#[]⟩, .string ⟨#[]⟩] 34 (0, 0)) := by rw [hW0, hnb]; exact heap_alloc_new _ _
 obtain ⟨lo, hlo⟩ : ∃ x : ByteArray, x = ⟨(cut s.data.toList [58]).1.toArray⟩ := ⟨_, rfl⟩
 obtain ⟨hi, hhi⟩ : ∃ x : ByteArray, x = ⟨(cut s.data.toList [58]).2.1.toArray⟩ := ⟨_, rfl⟩
 obtain ⟨two, htwo⟩ : ∃ x : Bool, x = (cut s.data.toList [58]).2.2 := ⟨_, rfl⟩
 have hB : spB s = if two = true then (lo, hi) else (lo, lo) := by unfold spB; rw [← hlo, ← hhi, ← htwo]
 have hl : lo.size ≤ 100000 := by have := (cut_small s).1; rw [hlo]; show (cut s.data.toList [58]).1.toArray.size ≤ _; simp; omega
 have hh : hi.size ≤ 100000 := by have := (cut_small s).2; rw [hhi]; show (cut s.data.toList [58]).2.1.toArray.size ≤ _; simp; omega
 obtain ⟨mx, hmx⟩ := (hD.below hw).max
 have hC := Tryz.strings_Cut s ⟨#[58]⟩ _ W0 (by omega) hmx
 clear hmx
 simp only [← hlo, ← hhi, ← htwo] at hC
 obtain ⟨HC, Hw, Hbx, HB, Hlo, Hhi, Htwo, HD⟩ := hd8 hC hw hbx hB hlo hhi htwo hD; clear hC hw hbx hB hlo hhi htwo hD
 go_enter Tryz.func53, Tryz.ntmps53
 go_upto_region 1 with (fail)
 rw [← hW0, ← hnb]
 have hle : w.heap.size ≤ nb := Nat.le_of_eq hnb.symm
 clear hW0 hnb
 have Hle := hd hle; clear hle
 go_wp2_with fail
 refine HC.out.mono ?_
 rintro e w1 ⟨rfl, n, rfl⟩
 have hb1 : Below W0.heap.size W0 (W0.drewN n) := bel_drewN (Below.refl _ _) n
 generalize W0.drewN n = W1 at hb1 ⊢
 have Hb1 := hd hb1; clear hb1
 cases two with
 | true =>
  go_upto_region 5 with (fail)
  obtain ⟨W2, hW2⟩ : ∃ W2, W2 = W1.alloc (.cells #[.string lo, .string hi] 34) := ⟨_, rfl⟩
  obtain ⟨g, hg⟩ : ∃ g, g = W1.heap.size := ⟨_, rfl⟩
  have hb2 : Below W0.heap.size W0 W2 := by rw [hW2]; exact Hb1.out.alloc Hb1.out.size _
  have hgx : W2.heap[g]? = some (.cells #[.string lo, .string hi] 34 (0, 0)) := by rw [hW2, hg]; exact heap_alloc_new _ _
  have hr2 := heap_below hb2 Hbx.out
  have hA := fun (W : World) (k : Below W2.heap.size W2 W) => calls_to k (spanMay_any lo hi (by omega) (by omega) (HD.out.below (below_on Hw.out (hb2.trans (k.mono hb2.size)))))
  have hT := fun (W : World) (k : Below W2.heap.size W2 W) => calls_to k (spanText_any lo hi (by omega) (by omega) (HD.out.below (below_on Hw.out (hb2.trans (k.mono hb2.size)))))
  obtain ⟨p, hp⟩ : ∃ x, x = mayS (lo.data.toList, hi.data.toList) := ⟨_, rfl⟩
  obtain ⟨tx, htx⟩ : ∃ x, x = txS lo hi := ⟨_, rfl⟩
  obtain ⟨d, k1⟩ : ∃ x, (tx.toList == s.toList) = x := ⟨_, rfl⟩
  have hB2 : spB s = (lo, hi) := by rw [HB.out]; rfl
  have hok : spOk s.data.toList = (p && d) := by
   unfold spOk
   rw [← spB_data, hB2, ← txS_data, ← k1, ← htx, hp, Txt.eq_dec]
   exact congrArg _ (decide_eq_decide.2 ba_eq.symm)
  have hval : spV s = if (p && d) = true then (lo, hi) else (⟨#[]⟩, ⟨#[]⟩) := by unfold spV; rw [hok, hB2]
  rw [← hp] at hA
  rw [← htx] at hT
  have hb0 : Below W2.heap.size W2 W2 := Below.refl _ _
  have hgw := fun (W : World) (k : Below W2.heap.size W2 W) => pair_cells (heap_below k hgx)
  have hrw := fun (W : World) (k : Below W2.heap.size W2 W) => pair_cells (heap_below k hr2)
  obtain ⟨c0, c1, f0, f1⟩ := hgw W2 hb0
  obtain ⟨x0, x1, y0, y1⟩ := hrw W2 hb0
  rw [← hW2, ← hg]
  clear hW2 hg hp htx hB2
  obtain ⟨Hb2, Hgx, Hr2, HA, HT, Hok, Hval, Hgw, Hrw, Hb0⟩ := hd10 hb2 hgx hr2 hA hT hok hval hgw hrw hb0; clear hb2 hgx hr2 hA hT hok hval hgw hrw hb0
  go_wp2_with fail
  refine (HA.out _ Hb0.out).mono ?_
  rintro e w2 ⟨rfl, hb3⟩
  obtain ⟨c0, c1, f0, f1⟩ := Hgw.out _ hb3
  obtain ⟨x0, x1, y0, y1⟩ := Hrw.out _ hb3
  have Hb3 := hd hb3; clear hb3
  cases p with
  | false =>
   have hr3 := heap_below Hb3.out Hr2.out
   have hb9 := Hb2.out.trans (Hb3.out.mono Hb2.out.size)
   obtain ⟨Hr3, Hb9⟩ := hd2 hr3 hb9; clear hr3 hb9
   go_wp2_with fail
   refine bodyPost_spn2 rfl rfl rfl (pair_set _ _ Hr3.out) rfl ?_
   exact ⟨ret_spn2 (by rw [Hval.out]; rfl) (by rw [Hval.out]; rfl) Hok.out.symm, pair_bel _ _ (below_on Hw.out Hb9.out) Hle.out⟩
  | true =>
   go_wp2_with fail
   refine (HT.out _ Hb3.out).mono ?_
   rintro e w3 ⟨rfl, hb4⟩
   obtain ⟨c0, c1, f0, f1⟩ := Hgw.out _ hb4
   obtain ⟨x0, x1, y0, y1⟩ := Hrw.out _ hb4
   have hr3 := heap_below hb4 Hr2.out
   have hb9 := Hb2.out.trans (hb4.mono Hb2.out.size)
   obtain ⟨Hb4, Hr3, Hb9⟩ := hd3 hb4 hr3 hb9; clear hb4 hr3 hb9
   cases d with
   | false =>
    go_wp2_with fail
    refine bodyPost_spn2 rfl rfl rfl (pair_set _ _ Hr3.out) rfl ?_
    exact ⟨ret_spn2 (by rw [Hval.out]; rfl) (by rw [Hval.out]; rfl) Hok.out.symm, pair_bel _ _ (below_on Hw.out Hb9.out) Hle.out⟩
   | true =>
    go_wp2_with fail
    refine bodyPost_spn2 rfl rfl rfl (pair_set _ _ Hr3.out) rfl ?_
    exact ⟨ret_spn2 (by rw [Hval.out]; rfl) (by rw [Hval.out]; rfl) Hok.out.symm, pair_bel _ _ (below_on Hw.out Hb9.out) Hle.out⟩
 | false =>
  go_upto_region 5 with (fail)
  obtain ⟨W2, hW2⟩ : ∃ W2, W2 = W1.alloc (.cells #[.string lo, .string lo] 34) := ⟨_, rfl⟩
  obtain ⟨g, hg⟩ : ∃ g, g = W1.heap.size := ⟨_, rfl⟩
  have hb2 : Below W0.heap.size W0 W2 := by rw [hW2]; exact Hb1.out.alloc Hb1.out.size _
  have hgx : W2.heap[g]? = some (.cells #[.string lo, .string lo] 34 (0, 0)) := by rw [hW2, hg]; exact heap_alloc_new _ _
  have hr2 := heap_below hb2 Hbx.out
  have hA := fun (W : World) (k : Below W2.heap.size W2 W) => calls_to k (spanMay_any lo lo (by omega) (by omega) (HD.out.below (below_on Hw.out (hb2.trans (k.mono hb2.size)))))
  have hT := fun (W : World) (k : Below W2.heap.size W2 W) => calls_to k (spanText_any lo lo (by omega) (by omega) (HD.out.below (below_on Hw.out (hb2.trans (k.mono hb2.size)))))
  obtain ⟨p, hp⟩ : ∃ x, x = mayS (lo.data.toList, lo.data.toList) := ⟨_, rfl⟩
  obtain ⟨tx, htx⟩ : ∃ x, x = txS lo lo := ⟨_, rfl⟩
  obtain ⟨d, k1⟩ : ∃ x, (tx.toList == s.toList) = x := ⟨_, rfl⟩
  have hB2 : spB s = (lo, lo) := by rw [HB.out]; rfl
  have hok : spOk s.data.toList = (p && d) := by
   unfold spOk
   rw [← spB_data, hB2, ← txS_data, ← k1, ← htx, hp, Txt.eq_dec]
   exact congrArg _ (decide_eq_decide.2 ba_eq.symm)
  have hval : spV s = if (p && d) = true then (lo, lo) else (⟨#[]⟩, ⟨#[]⟩) := by unfold spV; rw [hok, hB2]
  rw [← hp] at hA
  rw [← htx] at hT
  have hb0 : Below W2.heap.size W2 W2 := Below.refl _ _
  have hgw := fun (W : World) (k : Below W2.heap.size W2 W) => pair_cells (heap_below k hgx)
  have hrw := fun (W : World) (k : Below W2.heap.size W2 W) => pair_cells (heap_below k hr2)
  obtain ⟨c0, c1, f0, f1⟩ := hgw W2 hb0
  obtain ⟨x0, x1, y0, y1⟩ := hrw W2 hb0
  rw [← hW2, ← hg]
  clear hW2 hg hp htx hB2
  obtain ⟨Hb2, Hgx, Hr2, HA, HT, Hok, Hval, Hgw, Hrw, Hb0⟩ := hd10 hb2 hgx hr2 hA hT hok hval hgw hrw hb0; clear hb2 hgx hr2 hA hT hok hval hgw hrw hb0
  go_wp2_with fail
  refine (HA.out _ Hb0.out).mono ?_
  rintro e w2 ⟨rfl, hb3⟩
  obtain ⟨c0, c1, f0, f1⟩ := Hgw.out _ hb3
  obtain ⟨x0, x1, y0, y1⟩ := Hrw.out _ hb3
  have Hb3 := hd hb3; clear hb3
  cases p with
  | false =>
   have hr3 := heap_below Hb3.out Hr2.out
   have hb9 := Hb2.out.trans (Hb3.out.mono Hb2.out.size)
   obtain ⟨Hr3, Hb9⟩ := hd2 hr3 hb9; clear hr3 hb9
   go_wp2_with fail
   refine bodyPost_spn2 rfl rfl rfl (pair_set _ _ Hr3.out) rfl ?_
   exact ⟨ret_spn2 (by rw [Hval.out]; rfl) (by rw [Hval.out]; rfl) Hok.out.symm, pair_bel _ _ (below_on Hw.out Hb9.out) Hle.out⟩
  | true =>
   go_wp2_with fail
   refine (HT.out _ Hb3.out).mono ?_
   rintro e w3 ⟨rfl, hb4⟩
   obtain ⟨c0, c1, f0, f1⟩ := Hgw.out _ hb4
   obtain ⟨x0, x1, y0, y1⟩ := Hrw.out _ hb4
   have hr3 := heap_below hb4 Hr2.out
   have hb9 := Hb2.out.trans (hb4.mono Hb2.out.size)
   obtain ⟨Hb4, Hr3, Hb9⟩ := hd3 hb4 hr3 hb9; clear hb4 hr3 hb9
   cases d with
   | false =>
    go_wp2_with fail
    refine bodyPost_spn2 rfl rfl rfl (pair_set _ _ Hr3.out) rfl ?_
    exact ⟨ret_spn2 (by rw [Hval.out]; rfl) (by rw [Hval.out]; rfl) Hok.out.symm, pair_bel _ _ (below_on Hw.out Hb9.out) Hle.out⟩
   | true =>
    go_wp2_with fail
    refine bodyPost_spn2 rfl rfl rfl (pair_set _ _ Hr3.out) rfl ?_
    exact ⟨ret_spn2 (by rw [Hval.out]; rfl) (by rw [Hval.out]; rfl) Hok.out.symm, pair_bel _ _ (below_on Hw.out Hb9.out) Hle.out⟩
end Go.Proofs.YteailgjiifdgcaaGreatDoor

/- Boxes of spans; == at spans. No condition. -/
namespace Go.Proofs.YteailgjiifdgcaaGreatDoor
open Go.RowKit Go.Lib VerN

abbrev PrObj (x y : Value) : Obj := .cells #[x, y] 34 (0, 0)
theorem pbox2_0 (w : World) (x y z u : Value) : ((w.alloc (.cells #[x, y] 34)).alloc (.cells #[z, u] 34)).heap[w.heap.size]? = some (PrObj x y) := heap_below (below_alloc1 _ _) (heap_alloc_new _ _)
theorem pbox2_1 (w : World) (x y z u : Value) : ((w.alloc (.cells #[x, y] 34)).alloc (.cells #[z, u] 34)).heap[w.heap.size + 1]? = some (PrObj z u) := heap_new_at (by simp)
theorem pbox3_0 (w : World) (x y z u p q : Value) : (((w.alloc (.cells #[x, y] 34)).alloc (.cells #[z, u] 34)).alloc (.cells #[p, q] 34)).heap[w.heap.size]? = some (PrObj x y) := heap_below (below_alloc1 _ _) (pbox2_0 _ _ _ _ _)
theorem pbox3_1 (w : World) (x y z u p q : Value) : (((w.alloc (.cells #[x, y] 34)).alloc (.cells #[z, u] 34)).alloc (.cells #[p, q] 34)).heap[w.heap.size + 1]? = some (PrObj z u) := heap_below (below_alloc1 _ _) (pbox2_1 _ _ _ _ _)
theorem pbox3_2 (w : World) (x y z u p q : Value) : (((w.alloc (.cells #[x, y] 34)).alloc (.cells #[z, u] 34)).alloc (.cells #[p, q] 34)).heap[w.heap.size + 1 + 1]? = some (PrObj p q) := heap_new_at (by simp)
end Go.Proofs.YteailgjiifdgcaaGreatDoor

/- The walks of span.Meet, Joins, Join. Condition: the library's variables as they were laid; texts of at most a million bytes. -/
namespace Go.Proofs.YteailgjiifdgcaaGreatDoor
open Go.RowKit Go.Lib VerN

def mtV (lo hi lp hj : ByteArray) : ByteArray × ByteArray := if meetOk (lo.data.toList, hi.data.toList) (lp.data.toList, hj.data.toList) = true then (laterS lo lp, soonerS hi hj) else (⟨#[]⟩, ⟨#[]⟩)
theorem if_data (P : Prop) [Decidable P] (x y : ByteArray) : (if P then x else y).data.toList = if P then x.data.toList else y.data.toList := by split <;> rfl
def jnV (lo hi lp hj : ByteArray) : ByteArray × ByteArray := if mayS (lo.data.toList, hi.data.toList) = true ∧ mayS (lp.data.toList, hj.data.toList) = true then (if lo.size ≠ 0 ∧ lp.size ≠ 0 then soonerS lo lp else ⟨#[]⟩, if hi.size ≠ 0 ∧ hj.size ≠ 0 then laterS hi hj else ⟨#[]⟩) else (⟨#[]⟩, ⟨#[]⟩)
theorem jnV_data (lo hi lp hj : ByteArray) : ((jnV lo hi lp hj).1.data.toList, (jnV lo hi lp hj).2.data.toList) = joinS (lo.data.toList, hi.data.toList) (lp.data.toList, hj.data.toList) := by
 unfold jnV joinS
 split
 ·simp only [ne_eq, nil_size]
  exact Prod.ext (by rw [← soonerS_data]; exact if_data _ _ _) (by rw [← laterS_data]; exact if_data _ _ _)
 ·rfl
theorem ret_spn1 {a b c d : ByteArray} (h1 : a = c) (h2 : b = d) : Ending.returned (.agg #[.string a, .string b]) = .returned (.agg #[.string c, .string d]) := by rw [h1, h2]
def CutBox (w0 : World) (x y : ByteArray) (v : Value) (W : World) : Prop := ∃ g, v = .pointer (some ⟨g, 0, none⟩) ∧ W.heap[g]? = some (.cells #[.string x, .string y] 34 (0, 0)) ∧ Below w0.heap.size w0 W
set_option maxRecDepth 10000 in
set_option maxHeartbeats 4000000 in
theorem meet_any (lo hi lp hj : ByteArray) (hl : lo.size ≤ 1000000) (hh : hi.size ≤ 1000000) (hl2 : lp.size ≤ 1000000) (hh2 : hj.size ≤ 1000000) {w : World} (hD : Doors w) : Calls Tryz.prog 121 #[.agg #[.string lo, .string hi], .agg #[.string lp, .string hj]] w fun e w' => e = .returned (.tuple #[.agg #[.string (mtV lo hi lp hj).1, .string (mtV lo hi lp hj).2], .bool (meetOk (lo.data.toList, hi.data.toList) (lp.data.toList, hj.data.toList))]) ∧ Below w.heap.size w w' := by
 obtain ⟨w0, hW0⟩ : ∃ W0, W0 = ((w.alloc (.cells #[.string lo, .string hi] 34)).alloc (.cells #[.string lp, .string hj] 34)).alloc (.cells #[.string ⟨#[]⟩, .string ⟨#[]⟩] 34) := ⟨_, rfl⟩
 obtain ⟨nb, hnb⟩ : ∃ nb, nb = w.heap.size := ⟨_, rfl⟩
 have hw : Below w.heap.size w w0 := by rw [hW0]; exact ((below_alloc1 _ _).alloc (below_alloc1 _ _).size _).alloc ((below_alloc1 _ _).alloc (below_alloc1 _ _).size _).size _
 have hb0 : Below w0.heap.size w0 w0 := Below.refl _ _
 have ha : w0.heap[nb]? = some (.cells #[.string lo, .string hi] 34 (0, 0)) := by rw [hW0, hnb]; exact pbox3_0 _ _ _ _ _ _ _
 obtain ⟨a0, a1, a2, a3⟩ := pair_cells ha
 have hb : w0.heap[nb + 1]? = some (.cells #[.string lp, .string hj] 34 (0, 0)) := by rw [hW0, hnb]; exact pbox3_1 _ _ _ _ _ _ _
 obtain ⟨b0, b1, b2, b3⟩ := pair_cells hb
 have hr : w0.heap[nb + 1 + 1]? = some (.cells #[.string ⟨#[]⟩, .string ⟨#[]⟩] 34 (0, 0)) := by rw [hW0, hnb]; exact pbox3_2 _ _ _ _ _ _ _
 obtain ⟨r0, r1, r2, r3⟩ := pair_cells hr
 have hl3 := laterS_size hl hl2
 have hh3 := soonerS_size hh hh2
 obtain ⟨lt, hlt⟩ : ∃ x, x = laterS lo lp := ⟨_, rfl⟩
 obtain ⟨st, hst⟩ : ∃ x, x = soonerS hi hj := ⟨_, rfl⟩
 rw [← hlt] at hl3
 rw [← hst] at hh3
 have hA := fun (W : World) (k : Below w0.heap.size w0 W) => spanMay_any lo hi hl hh (hD.below (below_on hw k))
 have hB := fun (W : World) (k : Below w0.heap.size w0 W) => spanMay_any lp hj hl2 hh2 (hD.below (below_on hw k))
 have hO := fun (W : World) (k : Below w0.heap.size w0 W) => spanMay_any lt st hl3 hh3 (hD.below (below_on hw k))
 have hL := fun (W : World) (k : Below w0.heap.size w0 W) => later_any lo lp hl hl2 (hD.below (below_on hw k))
 have hS := fun (W : World) (k : Below w0.heap.size w0 W) => sooner_any hi hj hh hh2 (hD.below (below_on hw k))
 obtain ⟨p, hp⟩ : ∃ x, x = mayS (lo.data.toList, hi.data.toList) := ⟨_, rfl⟩
 obtain ⟨q, hq⟩ : ∃ x, x = mayS (lp.data.toList, hj.data.toList) := ⟨_, rfl⟩
 obtain ⟨s, hs⟩ : ∃ x, x = mayS (lt.data.toList, st.data.toList) := ⟨_, rfl⟩
 have hok : meetOk (lo.data.toList, hi.data.toList) (lp.data.toList, hj.data.toList) = (p && q && s) := by
  unfold meetOk meetO
  rw [hp, hq, hs, hlt, hst, laterS_data, soonerS_data]
 have hval : mtV lo hi lp hj = if (p && q && s) = true then (lt, st) else (⟨#[]⟩, ⟨#[]⟩) := by unfold mtV; rw [hok, hlt, hst]
 have hle : w.heap.size ≤ nb + 1 + 1 := by omega
 rw [← hlt] at hL
 rw [← hst] at hS
 rw [← hp] at hA
 rw [← hq] at hB
 rw [← hs] at hO
 clear hp hq hs hlt hst
 obtain ⟨HA, HB, HO, HL, HS, Hok, Hval, Hle, Hw, Hb0, HD, Ha, Hb, Hr⟩ := hd14 hA hB hO hL hS hok hval hle hw hb0 hD ha hb hr; clear hA hB hO hL hS hok hval hle hw hb0 hD ha hb hr
 go_enter Tryz.func121, Tryz.ntmps121
 go_upto_region 1 with (fail)
 rw [← hW0, ← hnb]
 clear hW0 hnb
 have hczf : ∀ w', Below w0.heap.size w0 w' → w'.cell? ⟨nb, 0, none⟩ = some (.string lo) ∧ w'.cell? ⟨nb, 1, none⟩ = some (.string hi) ∧ w'.cell? ⟨nb + 1, 0, none⟩ = some (.string lp) ∧ w'.cell? ⟨nb + 1, 1, none⟩ = some (.string hj) := fun W k => by
  have h1 := pair_cells (heap_below k Ha.out)
  have h2 := pair_cells (heap_below k Hb.out)
  exact ⟨h1.1, h1.2.1, h2.1, h2.2.1⟩
 go_cut [6] (fun x W => CutBox w0 lt st x W)
 case first =>
  have hbz := bel_drewN Hb0.out 1
  have hcz := hczf _ hbz
  have Hcz := Lib.hid hczf
  clear hczf
  go_region_held3 (fun w' => w'.cell? ⟨nb, 0, none⟩ = some (.string lo) ∧ w'.cell? ⟨nb, 1, none⟩ = some (.string hi) ∧ w'.cell? ⟨nb + 1, 0, none⟩ = some (.string lp) ∧ w'.cell? ⟨nb + 1, 1, none⟩ = some (.string hj)) (first | exact hcz | exact Hcz.out _ (hbz.alloc hbz.size _) | exact Hcz.out _ (pair_bel _ _ hbz hgez) | go_keep) (first
   | (go_at_call 166; refine (HL.out _ (by exact hbz)).mono ?_; rintro e wz ⟨rfl, hsz⟩; (try (replace hgz := heap_below hsz hgz; obtain ⟨z0, z1, z2, z3⟩ := pair_cells hgz)); replace hbz := Below.trans (by exact hbz) (hsz.mono (Below.size (by exact hbz))); replace hcz := Hcz.out _ hbz)
   | (go_at_call 166; refine (HL.out _ (by exact hbz.alloc hbz.size _)).mono ?_; rintro e wz ⟨rfl, hsz⟩; have hgz := heap_below hsz (heap_alloc_new _ _); have hgez := hbz.size; obtain ⟨z0, z1, z2, z3⟩ := pair_cells hgz; replace hbz := Below.trans (by exact hbz.alloc hbz.size _) (hsz.mono (Below.size (by exact hbz.alloc hbz.size _))); replace hcz := Hcz.out _ hbz)
   | (go_at_call 165; refine (HS.out _ (by exact hbz)).mono ?_; rintro e wz ⟨rfl, hsz⟩; (try (replace hgz := heap_below hsz hgz; obtain ⟨z0, z1, z2, z3⟩ := pair_cells hgz)); replace hbz := Below.trans (by exact hbz) (hsz.mono (Below.size (by exact hbz))); replace hcz := Hcz.out _ hbz)
   | (go_at_call 165; refine (HS.out _ (by exact hbz.alloc hbz.size _)).mono ?_; rintro e wz ⟨rfl, hsz⟩; have hgz := heap_below hsz (heap_alloc_new _ _); have hgez := hbz.size; obtain ⟨z0, z1, z2, z3⟩ := pair_cells hgz; replace hbz := Below.trans (by exact hbz.alloc hbz.size _) (hsz.mono (Below.size (by exact hbz.alloc hbz.size _))); replace hcz := Hcz.out _ hbz))
  all_goals
   go_wp2_with fail
   go_meet
   first
    | exact ⟨_, rfl, heap_alloc_new _ _, hbz.alloc hbz.size _⟩
    | exact ⟨_, rfl, pair_set _ _ hgz, pair_bel _ _ hbz hgez⟩
 case rest =>
  obtain ⟨go, rfl, ho, hb1⟩ := hcut
  have ha := heap_below hb1 Ha.out
  have hb := heap_below hb1 Hb.out
  have hr := heap_below hb1 Hr.out
  clear Ha a0 a1 a2 a3 Hb b0 b1 b2 b3 Hr r0 r1 r2 r3 hczf
  obtain ⟨a0, a1, a2, a3⟩ := pair_cells ha
  obtain ⟨b0, b1, b2, b3⟩ := pair_cells hb
  obtain ⟨r0, r1, r2, r3⟩ := pair_cells hr
  obtain ⟨o0, o1, o2, o3⟩ := pair_cells ho
  obtain ⟨Hb1, Ha, Hb, Hr, Ho⟩ := hd5 hb1 ha hb hr ho; clear hb1 ha hb hr ho
  go_wp2_with fail
  refine (HA.out _ Hb1.out).mono ?_
  rintro e w2 ⟨rfl, hs⟩
  have hb2 := Hb1.out.trans (hs.mono Hb1.out.size)
  have ha := heap_below hs Ha.out
  clear Ha a0 a1 a2 a3
  obtain ⟨a0, a1, a2, a3⟩ := pair_cells ha
  have hb := heap_below hs Hb.out
  clear Hb b0 b1 b2 b3
  obtain ⟨b0, b1, b2, b3⟩ := pair_cells hb
  have hr := heap_below hs Hr.out
  clear Hr r0 r1 r2 r3
  obtain ⟨r0, r1, r2, r3⟩ := pair_cells hr
  have ho := heap_below hs Ho.out
  clear Ho o0 o1 o2 o3
  obtain ⟨o0, o1, o2, o3⟩ := pair_cells ho
  obtain ⟨Hs, Hb2, Ha, Hb, Hr, Ho⟩ := hd6 hs hb2 ha hb hr ho; clear hs hb2 ha hb hr ho
  cases p with
  | false =>
   go_wp2_with fail
   refine bodyPost_spn2 rfl rfl rfl (pair_set _ _ Hr.out) rfl ?_
   exact ⟨ret_spn2 (by rw [Hval.out]; rfl) (by rw [Hval.out]; rfl) (by rw [Hok.out]; rfl), pair_bel _ _ (below_on Hw.out Hb2.out) Hle.out⟩
  | true =>
   go_wp2_with fail
   refine (HB.out _ Hb2.out).mono ?_
   rintro e w3 ⟨rfl, hs⟩
   have hb3 := Hb2.out.trans (hs.mono Hb2.out.size)
   have ha := heap_below hs Ha.out
   clear Ha a0 a1 a2 a3
   obtain ⟨a0, a1, a2, a3⟩ := pair_cells ha
   have hb := heap_below hs Hb.out
   clear Hb b0 b1 b2 b3
   obtain ⟨b0, b1, b2, b3⟩ := pair_cells hb
   have hr := heap_below hs Hr.out
   clear Hr r0 r1 r2 r3
   obtain ⟨r0, r1, r2, r3⟩ := pair_cells hr
   have ho := heap_below hs Ho.out
   clear Ho o0 o1 o2 o3
   obtain ⟨o0, o1, o2, o3⟩ := pair_cells ho
   obtain ⟨Hs, Hb3, Ha, Hb, Hr, Ho⟩ := hd6 hs hb3 ha hb hr ho; clear hs hb3 ha hb hr ho
   cases q with
   | false =>
    go_wp2_with fail
    refine bodyPost_spn2 rfl rfl rfl (pair_set _ _ Hr.out) rfl ?_
    exact ⟨ret_spn2 (by rw [Hval.out]; rfl) (by rw [Hval.out]; rfl) (by rw [Hok.out]; rfl), pair_bel _ _ (below_on Hw.out Hb3.out) Hle.out⟩
   | true =>
    go_wp2_with fail
    refine (HO.out _ Hb3.out).mono ?_
    rintro e w4 ⟨rfl, hs⟩
    have hb4 := Hb3.out.trans (hs.mono Hb3.out.size)
    have ha := heap_below hs Ha.out
    clear Ha a0 a1 a2 a3
    obtain ⟨a0, a1, a2, a3⟩ := pair_cells ha
    have hb := heap_below hs Hb.out
    clear Hb b0 b1 b2 b3
    obtain ⟨b0, b1, b2, b3⟩ := pair_cells hb
    have hr := heap_below hs Hr.out
    clear Hr r0 r1 r2 r3
    obtain ⟨r0, r1, r2, r3⟩ := pair_cells hr
    have ho := heap_below hs Ho.out
    clear Ho o0 o1 o2 o3
    obtain ⟨o0, o1, o2, o3⟩ := pair_cells ho
    obtain ⟨Hs, Hb4, Ha, Hb, Hr, Ho⟩ := hd6 hs hb4 ha hb hr ho; clear hs hb4 ha hb hr ho
    cases s with
    | false =>
     go_wp2_with fail
     refine bodyPost_spn2 rfl rfl rfl (pair_set _ _ Hr.out) rfl ?_
     exact ⟨ret_spn2 (by rw [Hval.out]; rfl) (by rw [Hval.out]; rfl) (by rw [Hok.out]; rfl), pair_bel _ _ (below_on Hw.out Hb4.out) Hle.out⟩
    | true =>
     go_wp2_with fail
     refine bodyPost_spn2 rfl rfl rfl (pair_set _ _ Hr.out) rfl ?_
     exact ⟨ret_spn2 (by rw [Hval.out]; rfl) (by rw [Hval.out]; rfl) (by rw [Hok.out]; rfl), pair_bel _ _ (below_on Hw.out Hb4.out) Hle.out⟩
set_option maxRecDepth 10000 in
set_option maxHeartbeats 2000000 in
theorem joins_any (lo hi lp hj : ByteArray) (hl : lo.size ≤ 1000000) (hh : hi.size ≤ 1000000) (hl2 : lp.size ≤ 1000000) (hh2 : hj.size ≤ 1000000) {w : World} (hD : Doors w) : Calls Tryz.prog 108 #[.agg #[.string lo, .string hi], .agg #[.string lp, .string hj]] w fun e w' => e = .returned (.bool (meetOk (lo.data.toList, hi.data.toList) (lp.data.toList, hj.data.toList))) ∧ Below w.heap.size w w' := by
 obtain ⟨w0, hW0⟩ : ∃ W0, W0 = (w.alloc (.cells #[.string lo, .string hi] 34)).alloc (.cells #[.string lp, .string hj] 34) := ⟨_, rfl⟩
 obtain ⟨nb, hnb⟩ : ∃ nb, nb = w.heap.size := ⟨_, rfl⟩
 have hw : Below w.heap.size w w0 := by rw [hW0]; exact (below_alloc1 _ _).alloc (below_alloc1 _ _).size _
 have hb0 : Below w0.heap.size w0 w0 := Below.refl _ _
 have ha : w0.heap[nb]? = some (.cells #[.string lo, .string hi] 34 (0, 0)) := by rw [hW0, hnb]; exact pbox2_0 _ _ _ _ _
 obtain ⟨a0, a1, a2, a3⟩ := pair_cells ha
 have hb : w0.heap[nb + 1]? = some (.cells #[.string lp, .string hj] 34 (0, 0)) := by rw [hW0, hnb]; exact pbox2_1 _ _ _ _ _
 obtain ⟨b0, b1, b2, b3⟩ := pair_cells hb
 have hA := fun (W : World) (k : Below w0.heap.size w0 W) => meet_any lo hi lp hj hl hh hl2 hh2 (hD.below (below_on hw k))
 obtain ⟨p, hp⟩ : ∃ x, x = meetOk (lo.data.toList, hi.data.toList) (lp.data.toList, hj.data.toList) := ⟨_, rfl⟩
 obtain ⟨v, hv⟩ : ∃ x, x = mtV lo hi lp hj := ⟨_, rfl⟩
 rw [← hp]
 rw [← hp, ← hv] at hA
 clear hp hv hD
 obtain ⟨HA, Hw, Hb0, Ha, Hb⟩ := hd5 hA hw hb0 ha hb; clear hA hw hb0 ha hb
 go_enter Tryz.func108, Tryz.ntmps108
 go_upto_region 1 with (fail)
 rw [← hW0, ← hnb]
 clear hW0 hnb
 go_wp2_with fail
 refine (HA.out _ Hb0.out).mono ?_
 rintro e w1 ⟨rfl, hs⟩
 have hb1 := Hb0.out.trans (hs.mono Hb0.out.size)
 have ha := heap_below hs Ha.out
 clear Ha a0 a1 a2 a3
 obtain ⟨a0, a1, a2, a3⟩ := pair_cells ha
 have hb := heap_below hs Hb.out
 clear Hb b0 b1 b2 b3
 obtain ⟨b0, b1, b2, b3⟩ := pair_cells hb
 obtain ⟨Hs, Hb1, Ha, Hb⟩ := hd4 hs hb1 ha hb; clear hs hb1 ha hb
 go_wp2_with fail
 go_ret
 exact ⟨rfl, below_on Hw.out (Hb1.out.alloc Hb1.out.size _)⟩
set_option maxRecDepth 10000 in
set_option maxHeartbeats 4000000 in
theorem join_any (lo hi lp hj : ByteArray) (hl : lo.size ≤ 1000000) (hh : hi.size ≤ 1000000) (hl2 : lp.size ≤ 1000000) (hh2 : hj.size ≤ 1000000) {w : World} (hD : Doors w) : Calls Tryz.prog 109 #[.agg #[.string lo, .string hi], .agg #[.string lp, .string hj]] w fun e w' => e = .returned (.agg #[.string (jnV lo hi lp hj).1, .string (jnV lo hi lp hj).2]) ∧ Below w.heap.size w w' := by
 obtain ⟨w0, hW0⟩ : ∃ W0, W0 = ((w.alloc (.cells #[.string lo, .string hi] 34)).alloc (.cells #[.string lp, .string hj] 34)).alloc (.cells #[.string ⟨#[]⟩, .string ⟨#[]⟩] 34) := ⟨_, rfl⟩
 obtain ⟨nb, hnb⟩ : ∃ nb, nb = w.heap.size := ⟨_, rfl⟩
 have hw : Below w.heap.size w w0 := by rw [hW0]; exact ((below_alloc1 _ _).alloc (below_alloc1 _ _).size _).alloc ((below_alloc1 _ _).alloc (below_alloc1 _ _).size _).size _
 have hb0 : Below w0.heap.size w0 w0 := Below.refl _ _
 have ha : w0.heap[nb]? = some (.cells #[.string lo, .string hi] 34 (0, 0)) := by rw [hW0, hnb]; exact pbox3_0 _ _ _ _ _ _ _
 obtain ⟨a0, a1, a2, a3⟩ := pair_cells ha
 have hb : w0.heap[nb + 1]? = some (.cells #[.string lp, .string hj] 34 (0, 0)) := by rw [hW0, hnb]; exact pbox3_1 _ _ _ _ _ _ _
 obtain ⟨b0, b1, b2, b3⟩ := pair_cells hb
 have hr : w0.heap[nb + 1 + 1]? = some (.cells #[.string ⟨#[]⟩, .string ⟨#[]⟩] 34 (0, 0)) := by rw [hW0, hnb]; exact pbox3_2 _ _ _ _ _ _ _
 obtain ⟨r0, r1, r2, r3⟩ := pair_cells hr
 have hA := fun (W : World) (k : Below w0.heap.size w0 W) => spanMay_any lo hi hl hh (hD.below (below_on hw k))
 have hB := fun (W : World) (k : Below w0.heap.size w0 W) => spanMay_any lp hj hl2 hh2 (hD.below (below_on hw k))
 have hS := fun (W : World) (k : Below w0.heap.size w0 W) => sooner_any lo lp hl hl2 (hD.below (below_on hw k))
 have hL := fun (W : World) (k : Below w0.heap.size w0 W) => later_any hi hj hh hh2 (hD.below (below_on hw k))
 obtain ⟨lt, hlt⟩ : ∃ x, x = laterS hi hj := ⟨_, rfl⟩
 obtain ⟨st, hst⟩ : ∃ x, x = soonerS lo lp := ⟨_, rfl⟩
 obtain ⟨p, hp⟩ : ∃ x, x = mayS (lo.data.toList, hi.data.toList) := ⟨_, rfl⟩
 obtain ⟨q, hq⟩ : ∃ x, x = mayS (lp.data.toList, hj.data.toList) := ⟨_, rfl⟩
 obtain ⟨d1, k1⟩ : ∃ x, lo.toList.isEmpty = x := ⟨_, rfl⟩
 obtain ⟨d2, k2⟩ : ∃ x, lp.toList.isEmpty = x := ⟨_, rfl⟩
 obtain ⟨d3, k3⟩ : ∃ x, hi.toList.isEmpty = x := ⟨_, rfl⟩
 obtain ⟨d4, k4⟩ : ∃ x, hj.toList.isEmpty = x := ⟨_, rfl⟩
 have hval : jnV lo hi lp hj = if p = true ∧ q = true then (if d1 = false ∧ d2 = false then st else ⟨#[]⟩, if d3 = false ∧ d4 = false then lt else ⟨#[]⟩) else (⟨#[]⟩, ⟨#[]⟩) := by
  unfold jnV
  rw [← hp, ← hq, ← hlt, ← hst]
  simp only [← k1, ← k2, ← k3, ← k4, Txt.no_dec, decide_eq_false_iff_not, ne_eq]
 have hle : w.heap.size ≤ nb + 1 + 1 := by omega
 rw [← hlt] at hL
 rw [← hst] at hS
 rw [← hp] at hA
 rw [← hq] at hB
 clear hp hq hlt hst hD
 obtain ⟨HA, HB, HL, HS, Hval, Hle, Hw, Hb0, Ha, Hb, Hr⟩ := hd11 hA hB hL hS hval hle hw hb0 ha hb hr; clear hA hB hL hS hval hle hw hb0 ha hb hr
 go_enter Tryz.func109, Tryz.ntmps109
 go_upto_region 1 with (fail)
 rw [← hW0, ← hnb]
 clear hW0 hnb
 go_wp2_with fail
 refine (HA.out _ Hb0.out).mono ?_
 rintro e w1 ⟨rfl, hs⟩
 have hb1 := Hb0.out.trans (hs.mono Hb0.out.size)
 have ha := heap_below hs Ha.out
 clear Ha a0 a1 a2 a3
 obtain ⟨a0, a1, a2, a3⟩ := pair_cells ha
 have hb := heap_below hs Hb.out
 clear Hb b0 b1 b2 b3
 obtain ⟨b0, b1, b2, b3⟩ := pair_cells hb
 have hr := heap_below hs Hr.out
 clear Hr r0 r1 r2 r3
 obtain ⟨r0, r1, r2, r3⟩ := pair_cells hr
 obtain ⟨Hs, Hb1, Ha, Hb, Hr⟩ := hd5 hs hb1 ha hb hr; clear hs hb1 ha hb hr
 cases p with
 | false =>
  go_wp2_with fail
  refine bodyPost_spn1 rfl rfl (pair_set _ _ Hr.out) rfl ?_
  exact ⟨ret_spn1 (by rw [Hval.out]; rfl) (by rw [Hval.out]; rfl), pair_bel _ _ (below_on Hw.out Hb1.out) Hle.out⟩
 | true =>
  go_wp2_with fail
  refine (HB.out _ Hb1.out).mono ?_
  rintro e w2 ⟨rfl, hs⟩
  have hb2 := Hb1.out.trans (hs.mono Hb1.out.size)
  have ha := heap_below hs Ha.out
  clear Ha a0 a1 a2 a3
  obtain ⟨a0, a1, a2, a3⟩ := pair_cells ha
  have hb := heap_below hs Hb.out
  clear Hb b0 b1 b2 b3
  obtain ⟨b0, b1, b2, b3⟩ := pair_cells hb
  have hr := heap_below hs Hr.out
  clear Hr r0 r1 r2 r3
  obtain ⟨r0, r1, r2, r3⟩ := pair_cells hr
  obtain ⟨Hs, Hb2, Ha, Hb, Hr⟩ := hd5 hs hb2 ha hb hr; clear hs hb2 ha hb hr
  cases q with
  | false =>
   go_wp2_with fail
   refine bodyPost_spn1 rfl rfl (pair_set _ _ Hr.out) rfl ?_
   exact ⟨ret_spn1 (by rw [Hval.out]; rfl) (by rw [Hval.out]; rfl), pair_bel _ _ (below_on Hw.out Hb2.out) Hle.out⟩
  | true =>
   go_upto_region 4 with (fail)
   obtain ⟨w3, hv⟩ : ∃ W, W = w2.alloc (.cells #[.string ⟨#[]⟩, .string ⟨#[]⟩] 34) := ⟨_, rfl⟩
   obtain ⟨go, hg⟩ : ∃ g, g = w2.heap.size := ⟨_, rfl⟩
   have hs : Below w2.heap.size w2 w3 := by rw [hv]; exact below_alloc1 _ _
   have hb3 := Hb2.out.trans (hs.mono Hb2.out.size)
   have hgeo : w0.heap.size ≤ go := by rw [hg]; exact Hb2.out.size
   have hneao : nb ≠ go := by have := (Array.getElem?_eq_some_iff.1 Ha.out).1; omega
   have hnebo : nb + 1 ≠ go := by have := (Array.getElem?_eq_some_iff.1 Hb.out).1; omega
   have hnero : nb + 1 + 1 ≠ go := by have := (Array.getElem?_eq_some_iff.1 Hr.out).1; omega
   have ha := heap_below hs Ha.out
   clear Ha a0 a1 a2 a3
   obtain ⟨a0, a1, a2, a3⟩ := pair_cells ha
   have hb := heap_below hs Hb.out
   clear Hb b0 b1 b2 b3
   obtain ⟨b0, b1, b2, b3⟩ := pair_cells hb
   have hr := heap_below hs Hr.out
   clear Hr r0 r1 r2 r3
   obtain ⟨r0, r1, r2, r3⟩ := pair_cells hr
   have ho : w3.heap[go]? = some (.cells #[.string ⟨#[]⟩, .string ⟨#[]⟩] 34 (0, 0)) := by rw [hv, hg]; exact heap_alloc_new _ _
   obtain ⟨o0, o1, o2, o3⟩ := pair_cells ho
   rw [← hv, ← hg]
   clear hv hg
   obtain ⟨Hs, Hb3, Hgeo, Ha, Hb, Hr, Ho, Hneao, Hnebo, Hnero⟩ := hd10 hs hb3 hgeo ha hb hr ho hneao hnebo hnero; clear hs hb3 hgeo ha hb hr ho hneao hnebo hnero
   cases d1 with
   | false =>
    cases d2 with
    | false =>
     go_wp2_with fail
     refine (HS.out _ Hb3.out).mono ?_
     rintro e w4 ⟨rfl, hs⟩
     have hb4 := Hb3.out.trans (hs.mono Hb3.out.size)
     have ha := heap_below hs Ha.out
     clear Ha a0 a1 a2 a3
     obtain ⟨a0, a1, a2, a3⟩ := pair_cells ha
     have hb := heap_below hs Hb.out
     clear Hb b0 b1 b2 b3
     obtain ⟨b0, b1, b2, b3⟩ := pair_cells hb
     have hr := heap_below hs Hr.out
     clear Hr r0 r1 r2 r3
     obtain ⟨r0, r1, r2, r3⟩ := pair_cells hr
     have ho := heap_below hs Ho.out
     clear Ho o0 o1 o2 o3
     obtain ⟨o0, o1, o2, o3⟩ := pair_cells ho
     obtain ⟨Hs, Hb4, Ha, Hb, Hr, Ho⟩ := hd6 hs hb4 ha hb hr ho; clear hs hb4 ha hb hr ho
     go_upto_region 6 with (fail)
     obtain ⟨w5, hv⟩ : ∃ W, W = w4.setCell ⟨go, 0, none⟩ (.string st) := ⟨_, rfl⟩
     have hb5 : Below w0.heap.size w0 w5 := by rw [hv]; exact Hb4.out.setCell (p := ⟨go, 0, none⟩) Hgeo.out _
     have ha : w5.heap[nb]? = some (.cells #[.string lo, .string hi] 34 (0, 0)) := by rw [hv, Below.heap_setCell _ _ _ _ Hneao.out]; exact Ha.out
     clear Ha a0 a1 a2 a3
     obtain ⟨a0, a1, a2, a3⟩ := pair_cells ha
     have hb : w5.heap[nb + 1]? = some (.cells #[.string lp, .string hj] 34 (0, 0)) := by rw [hv, Below.heap_setCell _ _ _ _ Hnebo.out]; exact Hb.out
     clear Hb b0 b1 b2 b3
     obtain ⟨b0, b1, b2, b3⟩ := pair_cells hb
     have hr : w5.heap[nb + 1 + 1]? = some (.cells #[.string ⟨#[]⟩, .string ⟨#[]⟩] 34 (0, 0)) := by rw [hv, Below.heap_setCell _ _ _ _ Hnero.out]; exact Hr.out
     clear Hr r0 r1 r2 r3
     obtain ⟨r0, r1, r2, r3⟩ := pair_cells hr
     have ho : w5.heap[go]? = some (.cells #[.string st, .string ⟨#[]⟩] 34 (0, 0)) := by rw [hv]; exact heap_setCell_same _ go 0 _ _ _ Ho.out
     clear Ho o0 o1 o2 o3
     obtain ⟨o0, o1, o2, o3⟩ := pair_cells ho
     rw [← hv]
     clear hv
     obtain ⟨Hb5, Ha, Hb, Hr, Ho⟩ := hd5 hb5 ha hb hr ho; clear hb5 ha hb hr ho
     cases d3 with
     | false =>
      cases d4 with
      | false =>
       go_wp2_with fail
       refine (HL.out _ Hb5.out).mono ?_
       rintro e w6 ⟨rfl, hs⟩
       have hb6 := Hb5.out.trans (hs.mono Hb5.out.size)
       have ha := heap_below hs Ha.out
       clear Ha a0 a1 a2 a3
       obtain ⟨a0, a1, a2, a3⟩ := pair_cells ha
       have hb := heap_below hs Hb.out
       clear Hb b0 b1 b2 b3
       obtain ⟨b0, b1, b2, b3⟩ := pair_cells hb
       have hr := heap_below hs Hr.out
       clear Hr r0 r1 r2 r3
       obtain ⟨r0, r1, r2, r3⟩ := pair_cells hr
       have ho := heap_below hs Ho.out
       clear Ho o0 o1 o2 o3
       obtain ⟨o0, o1, o2, o3⟩ := pair_cells ho
       obtain ⟨Hs, Hb6, Ha, Hb, Hr, Ho⟩ := hd6 hs hb6 ha hb hr ho; clear hs hb6 ha hb hr ho
       go_upto_region 8 with (fail)
       obtain ⟨w7, hv⟩ : ∃ W, W = w6.setCell ⟨go, 1, none⟩ (.string lt) := ⟨_, rfl⟩
       have hb7 : Below w0.heap.size w0 w7 := by rw [hv]; exact Hb6.out.setCell (p := ⟨go, 1, none⟩) Hgeo.out _
       have ha : w7.heap[nb]? = some (.cells #[.string lo, .string hi] 34 (0, 0)) := by rw [hv, Below.heap_setCell _ _ _ _ Hneao.out]; exact Ha.out
       clear Ha a0 a1 a2 a3
       obtain ⟨a0, a1, a2, a3⟩ := pair_cells ha
       have hb : w7.heap[nb + 1]? = some (.cells #[.string lp, .string hj] 34 (0, 0)) := by rw [hv, Below.heap_setCell _ _ _ _ Hnebo.out]; exact Hb.out
       clear Hb b0 b1 b2 b3
       obtain ⟨b0, b1, b2, b3⟩ := pair_cells hb
       have hr : w7.heap[nb + 1 + 1]? = some (.cells #[.string ⟨#[]⟩, .string ⟨#[]⟩] 34 (0, 0)) := by rw [hv, Below.heap_setCell _ _ _ _ Hnero.out]; exact Hr.out
       clear Hr r0 r1 r2 r3
       obtain ⟨r0, r1, r2, r3⟩ := pair_cells hr
       have ho : w7.heap[go]? = some (.cells #[.string st, .string lt] 34 (0, 0)) := by rw [hv]; exact heap_setCell_same _ go 1 _ _ _ Ho.out
       clear Ho o0 o1 o2 o3
       obtain ⟨o0, o1, o2, o3⟩ := pair_cells ho
       rw [← hv]
       clear hv
       obtain ⟨Hb7, Ha, Hb, Hr, Ho⟩ := hd5 hb7 ha hb hr ho; clear hb7 ha hb hr ho
       go_wp2_with fail
       refine bodyPost_spn1 rfl rfl (pair_set _ _ Hr.out) rfl ?_
       exact ⟨ret_spn1 (by rw [Hval.out]; rfl) (by rw [Hval.out]; rfl), pair_bel _ _ (below_on Hw.out Hb7.out) Hle.out⟩
      | true =>
       go_wp2_with fail
       refine bodyPost_spn1 rfl rfl (pair_set _ _ Hr.out) rfl ?_
       exact ⟨ret_spn1 (by rw [Hval.out]; rfl) (by rw [Hval.out]; rfl), pair_bel _ _ (below_on Hw.out Hb5.out) Hle.out⟩
     | true =>
      go_wp2_with fail
      refine bodyPost_spn1 rfl rfl (pair_set _ _ Hr.out) rfl ?_
      exact ⟨ret_spn1 (by rw [Hval.out]; rfl) (by rw [Hval.out]; rfl), pair_bel _ _ (below_on Hw.out Hb5.out) Hle.out⟩
    | true =>
     cases d3 with
     | false =>
      cases d4 with
      | false =>
       go_wp2_with fail
       refine (HL.out _ Hb3.out).mono ?_
       rintro e w4 ⟨rfl, hs⟩
       have hb4 := Hb3.out.trans (hs.mono Hb3.out.size)
       have ha := heap_below hs Ha.out
       clear Ha a0 a1 a2 a3
       obtain ⟨a0, a1, a2, a3⟩ := pair_cells ha
       have hb := heap_below hs Hb.out
       clear Hb b0 b1 b2 b3
       obtain ⟨b0, b1, b2, b3⟩ := pair_cells hb
       have hr := heap_below hs Hr.out
       clear Hr r0 r1 r2 r3
       obtain ⟨r0, r1, r2, r3⟩ := pair_cells hr
       have ho := heap_below hs Ho.out
       clear Ho o0 o1 o2 o3
       obtain ⟨o0, o1, o2, o3⟩ := pair_cells ho
       obtain ⟨Hs, Hb4, Ha, Hb, Hr, Ho⟩ := hd6 hs hb4 ha hb hr ho; clear hs hb4 ha hb hr ho
       go_upto_region 8 with (fail)
       obtain ⟨w5, hv⟩ : ∃ W, W = w4.setCell ⟨go, 1, none⟩ (.string lt) := ⟨_, rfl⟩
       have hb5 : Below w0.heap.size w0 w5 := by rw [hv]; exact Hb4.out.setCell (p := ⟨go, 1, none⟩) Hgeo.out _
       have ha : w5.heap[nb]? = some (.cells #[.string lo, .string hi] 34 (0, 0)) := by rw [hv, Below.heap_setCell _ _ _ _ Hneao.out]; exact Ha.out
       clear Ha a0 a1 a2 a3
       obtain ⟨a0, a1, a2, a3⟩ := pair_cells ha
       have hb : w5.heap[nb + 1]? = some (.cells #[.string lp, .string hj] 34 (0, 0)) := by rw [hv, Below.heap_setCell _ _ _ _ Hnebo.out]; exact Hb.out
       clear Hb b0 b1 b2 b3
       obtain ⟨b0, b1, b2, b3⟩ := pair_cells hb
       have hr : w5.heap[nb + 1 + 1]? = some (.cells #[.string ⟨#[]⟩, .string ⟨#[]⟩] 34 (0, 0)) := by rw [hv, Below.heap_setCell _ _ _ _ Hnero.out]; exact Hr.out
       clear Hr r0 r1 r2 r3
       obtain ⟨r0, r1, r2, r3⟩ := pair_cells hr
       have ho : w5.heap[go]? = some (.cells #[.string ⟨#[]⟩, .string lt] 34 (0, 0)) := by rw [hv]; exact heap_setCell_same _ go 1 _ _ _ Ho.out
       clear Ho o0 o1 o2 o3
       obtain ⟨o0, o1, o2, o3⟩ := pair_cells ho
       rw [← hv]
       clear hv
       obtain ⟨Hb5, Ha, Hb, Hr, Ho⟩ := hd5 hb5 ha hb hr ho; clear hb5 ha hb hr ho
       go_wp2_with fail
       refine bodyPost_spn1 rfl rfl (pair_set _ _ Hr.out) rfl ?_
       exact ⟨ret_spn1 (by rw [Hval.out]; rfl) (by rw [Hval.out]; rfl), pair_bel _ _ (below_on Hw.out Hb5.out) Hle.out⟩
      | true =>
       go_wp2_with fail
       refine bodyPost_spn1 rfl rfl (pair_set _ _ Hr.out) rfl ?_
       exact ⟨ret_spn1 (by rw [Hval.out]; rfl) (by rw [Hval.out]; rfl), pair_bel _ _ (below_on Hw.out Hb3.out) Hle.out⟩
     | true =>
      go_wp2_with fail
      refine bodyPost_spn1 rfl rfl (pair_set _ _ Hr.out) rfl ?_
      exact ⟨ret_spn1 (by rw [Hval.out]; rfl) (by rw [Hval.out]; rfl), pair_bel _ _ (below_on Hw.out Hb3.out) Hle.out⟩
   | true =>
    cases d3 with
    | false =>
     cases d4 with
     | false =>
      go_wp2_with fail
      refine (HL.out _ Hb3.out).mono ?_
      rintro e w4 ⟨rfl, hs⟩
      have hb4 := Hb3.out.trans (hs.mono Hb3.out.size)
      have ha := heap_below hs Ha.out
      clear Ha a0 a1 a2 a3
      obtain ⟨a0, a1, a2, a3⟩ := pair_cells ha
      have hb := heap_below hs Hb.out
      clear Hb b0 b1 b2 b3
      obtain ⟨b0, b1, b2, b3⟩ := pair_cells hb
      have hr := heap_below hs Hr.out
      clear Hr r0 r1 r2 r3
      obtain ⟨r0, r1, r2, r3⟩ := pair_cells hr
      have ho := heap_below hs Ho.out
      clear Ho o0 o1 o2 o3
      obtain ⟨o0, o1, o2, o3⟩ := pair_cells ho
      obtain ⟨Hs, Hb4, Ha, Hb, Hr, Ho⟩ := hd6 hs hb4 ha hb hr ho; clear hs hb4 ha hb hr ho
      go_upto_region 8 with (fail)
      obtain ⟨w5, hv⟩ : ∃ W, W = w4.setCell ⟨go, 1, none⟩ (.string lt) := ⟨_, rfl⟩
      have hb5 : Below w0.heap.size w0 w5 := by rw [hv]; exact Hb4.out.setCell (p := ⟨go, 1, none⟩) Hgeo.out _
      have ha : w5.heap[nb]? = some (.cells #[.string lo, .string hi] 34 (0, 0)) := by rw [hv, Below.heap_setCell _ _ _ _ Hneao.out]; exact Ha.out
      clear Ha a0 a1 a2 a3
      obtain ⟨a0, a1, a2, a3⟩ := pair_cells ha
      have hb : w5.heap[nb + 1]? = some (.cells #[.string lp, .string hj] 34 (0, 0)) := by rw [hv, Below.heap_setCell _ _ _ _ Hnebo.out]; exact Hb.out
      clear Hb b0 b1 b2 b3
      obtain ⟨b0, b1, b2, b3⟩ := pair_cells hb
      have hr : w5.heap[nb + 1 + 1]? = some (.cells #[.string ⟨#[]⟩, .string ⟨#[]⟩] 34 (0, 0)) := by rw [hv, Below.heap_setCell _ _ _ _ Hnero.out]; exact Hr.out
      clear Hr r0 r1 r2 r3
      obtain ⟨r0, r1, r2, r3⟩ := pair_cells hr
      have ho : w5.heap[go]? = some (.cells #[.string ⟨#[]⟩, .string lt] 34 (0, 0)) := by rw [hv]; exact heap_setCell_same _ go 1 _ _ _ Ho.out
      clear Ho o0 o1 o2 o3
      obtain ⟨o0, o1, o2, o3⟩ := pair_cells ho
      rw [← hv]
      clear hv
      obtain ⟨Hb5, Ha, Hb, Hr, Ho⟩ := hd5 hb5 ha hb hr ho; clear hb5 ha hb hr ho
      go_wp2_with fail
      refine bodyPost_spn1 rfl rfl (pair_set _ _ Hr.out) rfl ?_
      exact ⟨ret_spn1 (by rw [Hval.out]; rfl) (by rw [Hval.out]; rfl), pair_bel _ _ (below_on Hw.out Hb5.out) Hle.out⟩
     | true =>
      go_wp2_with fail
      refine bodyPost_spn1 rfl rfl (pair_set _ _ Hr.out) rfl ?_
      exact ⟨ret_spn1 (by rw [Hval.out]; rfl) (by rw [Hval.out]; rfl), pair_bel _ _ (below_on Hw.out Hb3.out) Hle.out⟩
    | true =>
     go_wp2_with fail
     refine bodyPost_spn1 rfl rfl (pair_set _ _ Hr.out) rfl ?_
     exact ⟨ret_spn1 (by rw [Hval.out]; rfl) (by rw [Hval.out]; rfl), pair_bel _ _ (below_on Hw.out Hb3.out) Hle.out⟩
end Go.Proofs.YteailgjiifdgcaaGreatDoor

/- Plain facts: what the walks of the stable sort do to an array, told by lists: swaps, exchanges of runs, rotations, binary search, symMerge. -/
namespace Go.Proofs.YteailgjiifdgcaaGreatDoor.StbA
open Go.Sort Go.Proofs.YteailgjiifdgcaaGreatDoor.SortM
variable {α : Type}
theorem set_mid (p q : List α) (x y : α) (i : Nat) (hi : i = p.length) : (p ++ x :: q).set i y = p ++ y :: q := by subst hi; simp
def RInv (tgt : List α) (m i j : Nat) (d : Array α) : Prop := ∃ p u v q, d.toList = p ++ u ++ v ++ q ∧ u.length = i ∧ v.length = j ∧ p.length + i = m ∧ tgt = p ++ v ++ u ++ q
theorem RInv.start {d : Array α} {p u v q : List α} (h : d.toList = p ++ u ++ v ++ q) {m i j : Nat} (hi : i = u.length) (hj : j = v.length) (hm : m = p.length + u.length) : RInv (p ++ v ++ u ++ q) m i j d := ⟨p, u, v, q, h, hi.symm, hj.symm, by omega, rfl⟩
theorem RInv.size {tgt : List α} {m i j : Nat} {d : Array α} (h : RInv tgt m i j d) : d.size = tgt.length := by
 obtain ⟨p, u, v, q, h1, _, _, _, h5⟩ := h
 rw [← Array.length_toList, h1, h5]; simp; omega
theorem RInv.le {tgt : List α} {m i j : Nat} {d : Array α} (h : RInv tgt m i j d) : i ≤ m ∧ m + j ≤ d.size := by
 obtain ⟨p, u, v, q, h1, h2, h3, h4, h5⟩ := h
 rw [← Array.length_toList, h1]; simp; omega
theorem swo_of {lt : α → α → Bool} (h : Swo lt) : SWO lt := ⟨irrefl h, fun x y z h1 h2 => by
  cases e : lt x z
  ·have := h.ntrans y z x (h.asymm _ _ h2) e
   rw [h1] at this; cases this
  ·rfl, fun x y z h1 h2 => h.ntrans z y x h2 h1⟩
variable [Inhabited α]
theorem get_of {d : Array α} {p q : List α} {x : α} (h : d.toList = p ++ x :: q) {i : Nat} (hi : i = p.length) : d[i]! = x := by
 subst hi
 have hl : p.length < d.size := by rw [← Array.length_toList, h]; simp
 rw [getElem!_pos d _ hl, ← Array.getElem_toList]
 simp [h]
theorem toList_swp (d : Array α) (i j : Nat) : (swp d i j).toList = (d.toList.set i d[j]!).set j d[i]! := by simp [swp]
theorem swp_split {d : Array α} {p m q : List α} {x y : α} (h : d.toList = p ++ x :: (m ++ y :: q)) {i j : Nat} (hi : i = p.length) (hj : j = p.length + 1 + m.length) : (swp d i j).toList = p ++ y :: (m ++ x :: q) := by
 have h1 : d[i]! = x := get_of h hi
 have h2 : d[j]! = y := get_of (p := p ++ x :: m) (q := q) (by rw [h]; simp) (by simp; omega)
 rw [toList_swp, h1, h2, h, set_mid p _ x y i hi]
 have e : p ++ y :: (m ++ y :: q) = (p ++ y :: m) ++ y :: q := by simp
 rw [e, set_mid _ _ _ _ _ (by simp; omega)]
 simp
theorem swp_comm (d : Array α) (i j : Nat) : swp d i j = swp d j i := by
 apply Array.ext'
 rw [toList_swp, toList_swp]
 by_cases h : i = j
 ·subst h; rfl
 ·exact List.set_comm _ _ h
theorem swp_split' {d : Array α} {p m q : List α} {x y : α} (h : d.toList = p ++ x :: (m ++ y :: q)) {i j : Nat} (hi : i = p.length) (hj : j = p.length + 1 + m.length) : (swp d j i).toList = p ++ y :: (m ++ x :: q) := by
 rw [swp_comm]; exact swp_split h hi hj

def swr (d : Array α) (a b : Nat) : Nat → Array α
 | 0 => d
 | i + 1 => swp (swr d a b i) (a + i) (b + i)
theorem size_swr (d : Array α) (a b n : Nat) : (swr d a b n).size = d.size := by
 induction n with
 | zero => rfl
 | succ n ih => rw [swr, size_swp, ih]
theorem swr_rev (d : Array α) : ∀ (x y p m q : List α), x.length = y.length → d.toList = p ++ x.reverse ++ m ++ y.reverse ++ q → (swr d p.length (p.length + x.length + m.length) x.length).toList = p ++ y.reverse ++ m ++ x.reverse ++ q := by
 intro x
 induction x with
 | nil =>
  intro y p m q hl h
  obtain rfl : y = [] := List.eq_nil_of_length_eq_zero hl.symm
  exact h
 | cons u x ih =>
  intro y p m q hl h
  match y with
  | [] => simp at hl
  | v :: y =>
   have hl' : x.length = y.length := by simpa using hl
   have h1 := ih y p (u :: m) (v :: q) hl' (by rw [h]; simp)
   have e : p.length + (u :: x).length + m.length = p.length + x.length + (u :: m).length := by simp; omega
   rw [e, show (u :: x).length = x.length + 1 from rfl, swr]
   have h2 := swp_split (d := swr d p.length (p.length + x.length + (u :: m).length) x.length) (p := p ++ y.reverse) (m := m ++ x.reverse) (q := q) (x := u) (y := v) (by rw [h1]; simp) (i := p.length + x.length) (j := p.length + x.length + (u :: m).length + x.length) (by simp; omega) (by simp; omega)
   rw [h2]; simp
theorem swr_split {d : Array α} {p x m y q : List α} (hl : x.length = y.length) (h : d.toList = p ++ x ++ m ++ y ++ q) {a b n : Nat} (ha : a = p.length) (hb : b = p.length + x.length + m.length) (hn : n = x.length) : (swr d a b n).toList = p ++ y ++ m ++ x ++ q := by
 subst ha hb hn
 have := swr_rev d x.reverse y.reverse p m q (by simpa using hl) (by simpa using h)
 simpa using this

theorem RInv.gt {tgt : List α} {m i j : Nat} {d : Array α} (h : RInv tgt m i j d) (hij : j < i) : RInv tgt m (i - j) j (swr d (m - i) m j) := by
 obtain ⟨p, u, v, q, h1, h2, h3, h4, h5⟩ := h
 have hu : u = u.take j ++ u.drop j := (List.take_append_drop _ _).symm
 have hx : (u.take j).length = j := by simp; omega
 have hy : (u.drop j).length = i - j := by simp; omega
 generalize u.take j = x at hu hx
 generalize u.drop j = y at hu hy
 subst hu
 refine ⟨p ++ v, y, x, q, ?_, hy, hx, by simp; omega, by rw [h5]; simp⟩
 have := swr_split (d := d) (p := p) (x := x) (m := y) (y := v) (q := q) (by omega) (by rw [h1]; simp) (a := m - i) (b := m) (n := j) (by omega) (by simp at h2; omega) hx.symm
 rw [this]
theorem RInv.lt {tgt : List α} {m i j : Nat} {d : Array α} (h : RInv tgt m i j d) (hij : i < j) : RInv tgt m i (j - i) (swr d (m - i) (m + j - i) i) := by
 obtain ⟨p, u, v, q, h1, h2, h3, h4, h5⟩ := h
 have hv : v = v.take (j - i) ++ v.drop (j - i) := (List.take_append_drop _ _).symm
 have hx : (v.take (j - i)).length = j - i := by simp; omega
 have hy : (v.drop (j - i)).length = i := by simp; omega
 generalize v.take (j - i) = x at hv hx
 generalize v.drop (j - i) = y at hv hy
 subst hv
 refine ⟨p, y, x, u ++ q, ?_, hy, hx, by omega, by rw [h5]; simp⟩
 have := swr_split (d := d) (p := p) (x := u) (m := x) (y := y) (q := q) (by omega) (by rw [h1]; simp) (a := m - i) (b := m + j - i) (n := i) (by omega) (by omega) h2.symm
 rw [this]; simp
theorem RInv.eq {tgt : List α} {m i : Nat} {d : Array α} (h : RInv tgt m i i d) : (swr d (m - i) m i).toList = tgt := by
 obtain ⟨p, u, v, q, h1, h2, h3, h4, h5⟩ := h
 rw [h5]
 have := swr_split (d := d) (p := p) (x := u) (m := []) (y := v) (q := q) (by omega) (by rw [h1]; simp) (a := m - i) (b := m) (n := i) (by omega) (by simp; omega) h2.symm
 rw [this]; simp
def upN (d : Array α) (a : Nat) : Nat → Array α
 | 0 => d
 | n + 1 => swp (upN d a n) (a + n) (a + n + 1)
def dnN (d : Array α) (m : Nat) : Nat → Array α
 | 0 => d
 | n + 1 => swp (dnN d m n) (m - n) (m - n - 1)
theorem size_upN (d : Array α) (a n : Nat) : (upN d a n).size = d.size := by
 induction n with
 | zero => rfl
 | succ n ih => rw [upN, size_swp, ih]
theorem size_dnN (d : Array α) (a n : Nat) : (dnN d a n).size = d.size := by
 induction n with
 | zero => rfl
 | succ n ih => rw [dnN, size_swp, ih]
theorem upN_rev (d : Array α) (x : α) (p : List α) : ∀ (v q : List α), d.toList = p ++ x :: (v.reverse ++ q) → (upN d p.length v.length).toList = p ++ v.reverse ++ x :: q := by
 intro v
 induction v with
 | nil => intro q h; simpa [upN] using h
 | cons y v ih =>
  intro q h
  have h1 := ih (y :: q) (by rw [h]; simp)
  have h2 := swp_split (d := upN d p.length v.length) (p := p ++ v.reverse) (m := []) (q := q) (x := x) (y := y) (by rw [h1]; simp) (i := p.length + v.length) (j := p.length + v.length + 1) (by simp) (by simp)
  rw [show (y :: v).length = v.length + 1 from rfl, upN, h2]; simp
theorem upN_split {d : Array α} {x : α} {p v q : List α} (h : d.toList = p ++ x :: (v ++ q)) {a n : Nat} (ha : a = p.length) (hn : n = v.length) : (upN d a n).toList = p ++ v ++ x :: q := by
 subst ha hn
 have := upN_rev d x p v.reverse q (by simpa using h)
 simpa using this
theorem dnN_split' (d : Array α) (x : α) (q : List α) (m : Nat) : ∀ (v p : List α), m = p.length + v.length → d.toList = p ++ v ++ x :: q → (dnN d m v.length).toList = p ++ x :: (v ++ q) := by
 intro v
 induction v with
 | nil => intro p _ h; simpa [dnN] using h
 | cons y v ih =>
  intro p hm h
  have hm' : m = p.length + (v.length + 1) := by simpa using hm
  have h1 := ih (p ++ [y]) (by simp; omega) (by rw [h]; simp)
  have h2 := swp_split' (d := dnN d m v.length) (p := p) (m := []) (q := v ++ q) (x := y) (y := x) (by rw [h1]; simp) (i := m - v.length - 1) (j := m - v.length) (by omega) (by simp; omega)
  rw [show (y :: v).length = v.length + 1 from rfl, dnN, h2]; simp
theorem dnN_split {d : Array α} {x : α} {p v q : List α} (h : d.toList = p ++ v ++ x :: q) {m n : Nat} (hm : m = p.length + v.length) (hn : n = v.length) : (dnN d m n).toList = p ++ x :: (v ++ q) := by
 subst hn; exact dnN_split' d x q m v p hm h

structure BS (f : Nat → Bool) (lo hi i j : Nat) : Prop where
 l1 : lo ≤ i
 l2 : i ≤ j
 l3 : j ≤ hi
 yes : ∀ c, lo ≤ c → c < i → f c = true
 no : ∀ c, j ≤ c → c < hi → f c = false
def Mono (f : Nat → Bool) (lo hi : Nat) : Prop := ∀ c c', lo ≤ c' → c' ≤ c → c < hi → f c = true → f c' = true
theorem BS.start (f : Nat → Bool) {lo hi : Nat} (h : lo ≤ hi) : BS f lo hi lo hi := ⟨Nat.le_refl _, h, Nat.le_refl _, fun _ _ _ => by omega, fun _ _ _ => by omega⟩
theorem BS.left {f : Nat → Bool} {lo hi i j h : Nat} (hM : Mono f lo hi) (hB : BS f lo hi i j) (h1 : i ≤ h) (h2 : h < j) (hf : f h = true) : BS f lo hi (h + 1) j :=
 ⟨by have := hB.l1; omega, h2, hB.l3, fun c hc1 hc2 => hM h c hc1 (by omega) (by have := hB.l3; omega) hf, hB.no⟩
theorem BS.right {f : Nat → Bool} {lo hi i j h : Nat} (hM : Mono f lo hi) (hB : BS f lo hi i j) (h1 : i ≤ h) (h2 : h < j) (hf : f h = false) : BS f lo hi i h :=
 ⟨hB.l1, h1, by have := hB.l3; omega, hB.yes, fun c hc1 hc2 => by
  cases e : f c
  ·rfl
  ·have := hM c h (by have := hB.l1; omega) hc1 hc2 e; rw [hf] at this; cases this⟩

variable {lt : α → α → Bool}
def SortedIx (lt : α → α → Bool) (a b : Nat) (d : Array α) : Prop := ∀ i j, a ≤ i → i ≤ j → j < b → lt d[j]! d[i]! = false
theorem sortedIx_of (h : Swo lt) {d : Array α} {p u q : List α} (hd : d.toList = p ++ u ++ q) (hu : Sorted lt u) {a b : Nat} (ha : a = p.length) (hb : b = p.length + u.length) : SortedIx lt a b d := by
 intro i j hi hij hj
 rcases Nat.lt_or_eq_of_le hij with hij | rfl
 ·have hs := List.pairwise_iff_getElem.1 hu (i - a) (j - a) (by omega) (by omega) (by omega)
  have g : ∀ k, (hk : k - a < u.length) → a ≤ k → d[k]! = u[k - a] := fun k hk h1 => by
   refine get_of (p := p ++ u.take (k - a)) (q := u.drop (k - a + 1) ++ q) ?_ (by simp; omega)
   rw [hd]
   conv => lhs; rw [← List.take_append_drop (k - a) u, List.drop_eq_getElem_cons hk]
   simp only [List.append_assoc, List.cons_append]
  rw [g i (by omega) hi, g j (by omega) (by omega)]; exact hs
 ·exact irrefl h _
theorem get_in {d : Array α} {p u q : List α} (hd : d.toList = p ++ u ++ q) (k : Nat) (hk : k < u.length) : d[p.length + k]! = u[k] := by
 refine get_of (p := p ++ u.take k) (q := u.drop (k + 1) ++ q) ?_ (by simp; omega)
 rw [hd]
 conv => lhs; rw [← List.take_append_drop k u, List.drop_eq_getElem_cons hk]
 simp only [List.append_assoc, List.cons_append]

/-! one element ahead of a sorted run -/
theorem mono_left (h : Swo lt) {d : Array α} {a m b : Nat} (hs : SortedIx lt m b d) : Mono (fun c => lt d[c]! d[a]!) m b := by
 intro c c' h1 h2 h3 hc
 show lt d[c']! d[a]! = true
 cases e : lt d[c']! d[a]!
 ·have := h.ntrans _ _ _ e (hs c' c h1 h2 h3)
  rw [show lt d[c]! d[a]! = true from hc] at this; cases this
 ·rfl
theorem one_left (h : Swo lt) {d : Array α} {p v q : List α} {x : α} (hd : d.toList = p ++ x :: (v ++ q)) (hv : Sorted lt v) {a m b i : Nat} (ha : a = p.length) (hm : m = a + 1) (hb : b = m + v.length) (hB : BS (fun c => lt d[c]! d[a]!) m b i i) :
  (upN d a (i - 1 - a)).toList = p ++ ssort lt (x :: v) ++ q := by
 have hx : d[a]! = x := get_of hd ha
 have hd2 : d.toList = (p ++ [x]) ++ v ++ q := by rw [hd]; simp
 have hg : ∀ k, (hk : k < v.length) → d[m + k]! = v[k] := fun k hk => by
  have := get_in hd2 k hk
  rw [show (p ++ [x]).length + k = m + k from by simp; omega] at this; exact this
 have hi1 := hB.l1
 have hi2 := hB.l3
 have e1 : ∀ y ∈ v.take (i - m), lt y x = true := fun y hy => by
  obtain ⟨k, hk, rfl⟩ := List.getElem_of_mem hy
  simp only [List.length_take] at hk
  have := hB.yes (m + k) (by omega) (by omega)
  rw [hg k (by omega), hx] at this
  simpa using this
 have e2 : ∀ y ∈ v.drop (i - m), lt y x = false := fun y hy => by
  obtain ⟨k, hk, rfl⟩ := List.getElem_of_mem hy
  simp only [List.length_drop] at hk
  have := hB.no (m + (i - m + k)) (by omega) (by omega)
  rw [hg _ (by omega), hx] at this
  simpa using this
 have hsplit : v = v.take (i - m) ++ v.drop (i - m) := (List.take_append_drop _ _).symm
 have hl : (v.take (i - m)).length = i - m := by simp; omega
 generalize v.take (i - m) = v1 at *
 generalize v.drop (i - m) = v2 at *
 subst hsplit
 have hu := upN_split (d := d) (x := x) (p := p) (v := v1) (q := v2 ++ q) (by rw [hd]; simp) (a := a) (n := i - 1 - a) ha (by omega)
 rw [hu]
 have hp := List.pairwise_append.1 hv
 have : v1 ++ x :: v2 = ssort lt (x :: (v1 ++ v2)) := by
  apply ssort_eq h
  ·have := (Sw.over (lt := lt) x v1 e1).ctx [] v2
   simpa using this
  ·refine List.pairwise_append.2 ⟨hp.1, List.pairwise_cons.2 ⟨e2, hp.2.1⟩, fun y hy z hz => ?_⟩
   rcases List.mem_cons.1 hz with e | hz
   ·rw [e]; exact h.asymm _ _ (e1 y hy)
   ·exact hp.2.2 y hy z hz
 rw [← this]; simp
/-! one element behind a sorted run -/
theorem mono_right (h : Swo lt) {d : Array α} {a m : Nat} (hs : SortedIx lt a m d) : Mono (fun c => !lt d[m]! d[c]!) a m := by
 intro c c' h1 h2 h3 hc
 have hc' : lt d[m]! d[c]! = false := by simpa using hc
 show (!lt d[m]! d[c']!) = true
 rw [h.ntrans _ _ _ (hs c' c h1 h2 h3) hc']; rfl
theorem one_right (h : Swo lt) {d : Array α} {p u q : List α} {x : α} (hd : d.toList = p ++ u ++ x :: q) (hu : Sorted lt u) {a m i : Nat} (ha : a = p.length) (hm : m = a + u.length) (hB : BS (fun c => !lt d[m]! d[c]!) a m i i) :
  (dnN d m (m - i)).toList = p ++ ssort lt (u ++ [x]) ++ q := by
 have hx : d[m]! = x := get_of hd (by simp; omega)
 have hg : ∀ k, (hk : k < u.length) → d[a + k]! = u[k] := fun k hk => by
  have := get_in (q := x :: q) hd k hk
  rw [ha]; exact this
 have hi1 := hB.l1
 have hi2 := hB.l3
 have e1 : ∀ y ∈ u.take (i - a), lt x y = false := fun y hy => by
  obtain ⟨k, hk, rfl⟩ := List.getElem_of_mem hy
  simp only [List.length_take] at hk
  have := hB.yes (a + k) (by omega) (by omega)
  simp only [hg k (by omega), hx] at this
  simpa using this
 have e2 : ∀ y ∈ u.drop (i - a), lt x y = true := fun y hy => by
  obtain ⟨k, hk, rfl⟩ := List.getElem_of_mem hy
  simp only [List.length_drop] at hk
  have := hB.no (a + (i - a + k)) (by omega) (by omega)
  simp only [hg _ (show i - a + k < u.length by omega), hx] at this
  simpa using this
 have hsplit : u = u.take (i - a) ++ u.drop (i - a) := (List.take_append_drop _ _).symm
 have hl : (u.take (i - a)).length = i - a := by simp; omega
 have hl2 : (u.drop (i - a)).length = m - i := by simp; omega
 generalize u.take (i - a) = v1 at *
 generalize u.drop (i - a) = v2 at *
 subst hsplit
 have hdn := dnN_split (d := d) (x := x) (p := p ++ v1) (v := v2) (q := q) (by rw [hd]; simp) (m := m) (n := m - i) (by simp; omega) hl2.symm
 rw [hdn]
 have hp := List.pairwise_append.1 hu
 have : v1 ++ x :: v2 = ssort lt (v1 ++ v2 ++ [x]) := by
  apply ssort_eq h
  ·have := (Sw.blocks (lt := lt) v2 [x] (fun a ha b hb => by simp at hb; subst hb; exact e2 a ha)).ctx v1 []
   simpa using this
  ·refine List.pairwise_append.2 ⟨hp.1, List.pairwise_cons.2 ⟨fun y hy => h.asymm _ _ (e2 y hy), hp.2.1⟩, fun y hy z hz => ?_⟩
   rcases List.mem_cons.1 hz with e | hz
   ·rw [e]; exact e1 y hy
   ·exact hp.2.2 y hy z hz
 rw [← this]; simp
/-! the general cut -/
theorem mono_sym (h : Swo lt) {d : Array α} {a m b n lo hi : Nat} (hs1 : SortedIx lt a m d) (hs2 : SortedIx lt m b d) (h1 : a ≤ lo) (h2 : hi ≤ m) (h3 : n - hi ≥ m) (h4 : n - 1 - lo < b) (h5 : hi ≤ n) : Mono (fun c => !lt d[n - 1 - c]! d[c]!) lo hi := by
 intro c c' k1 k2 k3 hc
 have hc' : lt d[n - 1 - c]! d[c]! = false := by simpa using hc
 show (!lt d[n - 1 - c']! d[c']!) = true
 have e1 : lt d[c]! d[c']! = false := hs1 c' c (by omega) k2 (by omega)
 have e2 : lt d[n - 1 - c']! d[n - 1 - c]! = false := hs2 (n - 1 - c) (n - 1 - c') (by omega) (by omega) (by omega)
 rw [h.ntrans _ _ _ (h.ntrans _ _ _ e1 hc') e2]; rfl
theorem sym_cut (h : Swo lt) {d : Array α} {p u v q : List α} (hd : d.toList = p ++ u ++ v ++ q) (hu : Sorted lt u) (hv : Sorted lt v) {a m b mid n lo hi s : Nat} (ha : a = p.length) (hm : m = a + u.length) (hb : b = m + v.length)
  (hmid : mid = (a + b) / 2) (hn : n = mid + m) (hab : a < b) (hlo : (mid < m → lo = n - b ∧ hi = mid) ∧ (¬ mid < m → lo = a ∧ hi = m)) (hB : BS (fun c => !lt d[n - 1 - c]! d[c]!) lo hi s s) :
  ∃ l1 l2 r1 r2, u = l1 ++ l2 ∧ v = r1 ++ r2 ∧ a + l1.length = s ∧ m + r1.length = n - s ∧ ssort lt (u ++ v) = ssort lt (l1 ++ r1) ++ ssort lt (l2 ++ r2) := by
 have hs1 := hB.l1
 have hs3 := hB.l3
 have b1 : a ≤ s ∧ s ≤ m ∧ m ≤ n - s ∧ n - s ≤ b := by
  by_cases hc : mid < m
  ·obtain ⟨rfl, rfl⟩ := hlo.1 hc; omega
  ·obtain ⟨rfl, rfl⟩ := hlo.2 hc; omega
 have gu : ∀ k, (hk : k < u.length) → d[a + k]! = u[k] := fun k hk => by
  have := get_in (q := v ++ q) (by rw [hd]; simp : d.toList = p ++ u ++ (v ++ q)) k hk
  rw [ha]; exact this
 have gv : ∀ k, (hk : k < v.length) → d[m + k]! = v[k] := fun k hk => by
  have := get_in hd k hk
  rw [show (p ++ u).length + k = m + k from by simp; omega] at this; exact this
 refine ⟨u.take (s - a), u.drop (s - a), v.take (n - s - m), v.drop (n - s - m), (List.take_append_drop _ _).symm, (List.take_append_drop _ _).symm, by simp; omega, by simp; omega, ?_⟩
 have hsU : ∀ i j (hi : i < u.length) (hj : j < u.length), i ≤ j → lt u[j] u[i] = false := fun i j hi hj hij => by
  rcases Nat.lt_or_eq_of_le hij with hij | rfl
  ·exact List.pairwise_iff_getElem.1 hu i j hi hj hij
  ·exact irrefl h _
 have hsV : ∀ i j (hi : i < v.length) (hj : j < v.length), i ≤ j → lt v[j] v[i] = false := fun i j hi hj hij => by
  rcases Nat.lt_or_eq_of_le hij with hij | rfl
  ·exact List.pairwise_iff_getElem.1 hv i j hi hj hij
  ·exact irrefl h _
 have hpu : Sorted lt (u.take (s - a) ++ u.drop (s - a)) := by rw [List.take_append_drop]; exact hu
 have hpv : Sorted lt (v.take (n - s - m) ++ v.drop (n - s - m)) := by rw [List.take_append_drop]; exact hv
 have key := ssort_cut h (u.take (s - a)) (u.drop (s - a)) (v.take (n - s - m)) (v.drop (n - s - m)) ?_ (fun x hx y hy => (List.pairwise_append.1 hpu).2.2 x hx y hy) (fun x hx y hy => (List.pairwise_append.1 hpv).2.2 x hx y hy) ?_
 ·rw [List.take_append_drop, List.take_append_drop] at key; exact key
 · -- l2 over r1
  intro x hx y hy
  obtain ⟨k, hk, rfl⟩ := List.getElem_of_mem hx
  obtain ⟨j, hj, rfl⟩ := List.getElem_of_mem hy
  simp only [List.length_drop] at hk
  simp only [List.length_take] at hj
  simp only [List.getElem_drop, List.getElem_take]
  -- s < hi
  have hsh : s < hi := by
   by_cases hc : mid < m
   ·have := hlo.1 hc; omega
   ·have := hlo.2 hc; omega
  have hN := hB.no s (Nat.le_refl _) hsh
  have hN' : lt d[n - 1 - s]! d[s]! = true := by simpa using hN
  have e1 : d[s]! = u[s - a]'(by omega) := by rw [← gu (s - a) (by omega)]; congr 1; omega
  have e2 : d[n - 1 - s]! = v[n - 1 - s - m]'(by omega) := by rw [← gv (n - 1 - s - m) (by omega)]; congr 1; omega
  rw [e1, e2] at hN'
  cases e : lt v[j] u[s - a + k]
  ·have h1 := hsU (s - a) (s - a + k) (by omega) (by omega) (by omega)
   have h2 := hsV j (n - 1 - s - m) (by omega) (by omega) (by omega)
   have h3 := h.ntrans _ _ _ (h.ntrans _ _ _ h1 e) h2
   rw [hN'] at h3; cases h3
  ·rfl
 · -- l1 over r2
  intro x hx y hy
  obtain ⟨k, hk, rfl⟩ := List.getElem_of_mem hx
  obtain ⟨j, hj, rfl⟩ := List.getElem_of_mem hy
  simp only [List.length_take] at hk
  simp only [List.length_drop] at hj
  simp only [List.getElem_drop, List.getElem_take]
  have hsh : lo < s := by
   by_cases hc : mid < m
   ·have := hlo.1 hc; omega
   ·have := hlo.2 hc; omega
  have hN := hB.yes (s - 1) (by omega) (by omega)
  have hN' : lt d[n - 1 - (s - 1)]! d[s - 1]! = false := by simpa using hN
  have e1 : d[s - 1]! = u[s - 1 - a]'(by omega) := by rw [← gu (s - 1 - a) (by omega)]; congr 1; omega
  have e2 : d[n - 1 - (s - 1)]! = v[n - s - m]'(by omega) := by rw [← gv (n - s - m) (by omega)]; congr 1; omega
  rw [e1, e2] at hN'
  have h1 := hsU k (s - 1 - a) (by omega) (by omega) (by omega)
  have h2 := hsV (n - s - m) (n - s - m + j) (by omega) (by omega) (by omega)
  exact h.ntrans _ _ _ (h.ntrans _ _ _ h1 hN') h2

/-! insertion -/
theorem insInner_sw (lt : α → α → Bool) (p q x0 : List α) : ∀ (j : Nat) (d : Array α), j < p.length + x0.length → (∃ x, d.toList = p ++ x ++ q ∧ Sw lt x0 x) → ∃ x, (insInner lt p.length j d).toList = p ++ x ++ q ∧ Sw lt x0 x := by
 intro j
 induction j with
 | zero => intro d _ h; rw [insInner]; exact h
 | succ j ih =>
  intro d hj h
  rw [insInner]
  split
  ·rename_i hc
   simp only [Bool.and_eq_true, decide_eq_true_eq] at hc
   refine ih _ (by omega) ?_
   obtain ⟨x, hx, hs⟩ := h
   have hl : x.length = x0.length := hs.perm.length_eq.symm
   have k1 : j - p.length < x.length := by omega
   have k2 : j - p.length + 1 < x.length := by omega
   have e : x = x.take (j - p.length) ++ x[j - p.length] :: x[j - p.length + 1] :: x.drop (j - p.length + 2) := by
    conv => lhs; rw [← List.take_append_drop (j - p.length) x, List.drop_eq_getElem_cons k1, List.drop_eq_getElem_cons k2]
   have g1 : d[j]! = x[j - p.length] := by rw [← get_in hx (j - p.length) k1]; congr 1; omega
   have g2 : d[j + 1]! = x[j - p.length + 1] := by rw [← get_in hx (j - p.length + 1) k2]; congr 1; omega
   have hlt := hc.2
   rw [g1, g2] at hlt
   have hpl : (x.take (j - p.length)).length = j - p.length := by simp; omega
   generalize x.take (j - p.length) = xa at e hpl
   generalize x.drop (j - p.length + 2) = xb at e
   generalize x[j - p.length] = y at *
   generalize x[j - p.length + 1] = z at *
   subst e
   have hsw := swp_split' (d := d) (p := p ++ xa) (m := []) (q := xb ++ q) (x := y) (y := z) (by rw [hx]; simp) (i := j) (j := j + 1) (by simp; omega) (by simp; omega)
   exact ⟨xa ++ z :: y :: xb, by rw [hsw]; simp, .step xa y z xb hs hlt⟩
  ·exact h
theorem insOuter_sw (lt : α → α → Bool) (p q x0 : List α) (b : Nat) (hb : b = p.length + x0.length) : ∀ (k i : Nat) (d : Array α), b - i ≤ k → (∃ x, d.toList = p ++ x ++ q ∧ Sw lt x0 x) → ∃ x, (insOuter lt p.length b i d).toList = p ++ x ++ q ∧ Sw lt x0 x := by
 intro k
 induction k with
 | zero => intro i d hk h; rw [insOuter, if_neg (by omega)]; exact h
 | succ k ih =>
  intro i d hk h
  rw [insOuter]
  split
  ·exact ih _ _ (by omega) (insInner_sw lt p q x0 i d (by omega) h)
  ·exact h
theorem insertion_is (h : Swo lt) {d : Array α} {p x q : List α} (hd : d.toList = p ++ x ++ q) {a b : Nat} (ha : a = p.length) (hb : b = p.length + x.length) : (insertionSort lt d a b).toList = p ++ ssort lt x ++ q := by
 subst ha
 obtain ⟨y, hy, hs⟩ := insOuter_sw lt p q x b hb b (p.length + 1) d (by omega) ⟨x, hd, .refl⟩
 have hsz : b ≤ d.size := by rw [← Array.length_toList, hd]; simp; omega
 have hso := (insertionSort_holds (lt := lt) (swo_of h) d p.length b (by omega) hsz).2
 have hl : y.length = x.length := hs.perm.length_eq.symm
 have : y = ssort lt x := by
  apply ssort_eq h hs
  refine List.pairwise_iff_getElem.2 fun i j hi hj hij => ?_
  have := hso (p.length + i) (p.length + j) (by omega) (by omega) (by omega)
  rw [show insertionSort lt d p.length b = insOuter lt p.length b (p.length + 1) d from rfl, get_in hy i hi, get_in hy j hj] at this
  exact this
 rw [← this]; exact hy
end Go.Proofs.YteailgjiifdgcaaGreatDoor.StbA

/- Plain facts: the form of a set of spans, of texts; the order by bounds below. No condition. -/
namespace Go.Proofs.YteailgjiifdgcaaGreatDoor
open Go.Lib VerN SortM

def cmpLoI (a b : List UInt8) : Int := if a = b then 0 else if a = [] then -1 else if b = [] then 1 else compareL a b
theorem cmpLoI_lt (a b : List UInt8) : decide (cmpLoI a b < 0) = ltLo a b := by
 have hn := row_compare.neg a a
 have h0 : ¬ compareL a a < 0 := by omega
 unfold cmpLoI ltLo
 by_cases h : a = b
 ·subst h
  by_cases h1 : a = []
  ·simp [h1]
  ·simp [h1, h0]
 ·by_cases h1 : a = []
  ·subst h1
   have h2 : b ≠ [] := fun e => h e.symm
   simp [h, h2]
  ·by_cases h2 : b = []
   ·subst h2; simp [h1]
   ·simp [h, h1, h2]
theorem ltLo_asymm {a b : List UInt8} (h : ltLo a b = true) : ltLo b a = false := by
 rw [ltLo_no]
 unfold ltLo at h
 simp only [Bool.and_eq_true, Bool.or_eq_true, decide_eq_true_eq] at h
 obtain ⟨h1, h2 | h2⟩ := h
 ·exact .inl h2
 ·refine .inr ⟨h1, ?_⟩
  unfold le; omega
theorem loLe_trans {a b c : List UInt8} (h1 : loLe a b) (h2 : loLe b c) : loLe a c := by
 rcases h1 with h | ⟨k1, h⟩
 ·exact .inl h
 ·rcases h2 with m | ⟨m1, m⟩
  ·exact absurd m k1
  ·exact .inr ⟨m1, le_trans h m⟩

abbrev BSp := ByteArray × ByteArray
def dS (s : BSp) : Sp := (s.1.data.toList, s.2.data.toList)
abbrev Tp := { s : BSp // s.1.size ≤ 9000 ∧ s.2.size ≤ 9000 }
instance : Inhabited Tp := ⟨⟨(⟨#[]⟩, ⟨#[]⟩), by decide⟩⟩
def cfSp (x y : Tp) : Int := cmpLoI x.1.1.data.toList y.1.1.data.toList
theorem ltSp (x y : Tp) : Go.Proofs.ltOf cfSp x y = ltLo (dS x.1).1 (dS y.1).1 := cmpLoI_lt _ _
theorem swoSp : Swo (Go.Proofs.ltOf cfSp) where
 asymm a b h := by rw [ltSp] at *; exact ltLo_asymm h
 ntrans a b c h1 h2 := by
  rw [ltSp, ltLo_no] at *
  exact loLe_trans h1 h2
def sortSp (l : List Tp) : List Tp := ssort (Go.Proofs.ltOf cfSp) l
theorem sortSp_perm (l : List Tp) : (sortSp l).Perm l := (ssort_sw swoSp l).perm.symm
def addB (out : List BSp) (x : BSp) : List BSp := match out.getLast? with
 | some z => if meetOk (dS z) (dS x) = true then out.dropLast ++ [jnV z.1 z.2 x.1 x.2] else out ++ [x]
 | none => [x]
def mergeB (l : List BSp) : List BSp := l.foldl addB []
theorem jn_dS (z x : BSp) : dS (jnV z.1 z.2 x.1 x.2) = joinS (dS z) (dS x) := jnV_data _ _ _ _
theorem addB_nil (x : BSp) : addB [] x = [x] := rfl
theorem addB_snoc (O : List BSp) (z x : BSp) : addB (O ++ [z]) x = if meetOk (dS z) (dS x) = true then O ++ [jnV z.1 z.2 x.1 x.2] else O ++ [z] ++ [x] := by
 unfold addB
 simp
theorem mergeB_len : ∀ (r O : List BSp), (r.foldl addB O).length ≤ O.length + r.length
 | [], O => by simp
 | x :: r, O => by
  have h := mergeB_len r (addB O x)
  have : (addB O x).length ≤ O.length + 1 := by
   rcases List.eq_nil_or_concat O with rfl | ⟨Q, z, rfl⟩
   ·simp [addB_nil]
   ·rw [List.concat_eq_append, addB_snoc]
    split <;> simp
  rw [List.foldl_cons, List.length_cons]
  omega
def formB (l : List Tp) : List BSp := mergeB ((sortSp l).map (·.1))
def allMay (l : List BSp) : Bool := l.all fun s => mayS (dS s)
theorem form_len (l : List Tp) : (formB l).length ≤ l.length := by
 have h := mergeB_len ((sortSp l).map (·.1)) []
 have h2 := (sortSp_perm l).length_eq
 unfold formB mergeB
 simp only [List.length_map, List.length_nil] at h
 omega
end Go.Proofs.YteailgjiifdgcaaGreatDoor

/- Plain facts: the document's form of a set of spans (two that meet put together, until none do; then the row) is the program's. No condition. -/
namespace Go.Proofs.YteailgjiifdgcaaGreatDoor
open Go.Lib VerN SortM

def jnT (a b : Tp) : Tp := ⟨jnV a.1.1 a.1.2 b.1.1 b.1.2, by
 have ha := a.2
 have hb := b.2
 have h0 : (ByteArray.mk #[]).size ≤ 9000 := by decide
 unfold jnV
 split
 ·constructor
  ·show (if _ then _ else _ : ByteArray).size ≤ 9000
   split
   ·exact soonerS_size ha.1 hb.1
   ·exact h0
  ·show (if _ then _ else _ : ByteArray).size ≤ 9000
   split
   ·exact laterS_size ha.2 hb.2
   ·exact h0
 ·exact ⟨h0, h0⟩⟩
def mtT (a b : Tp) : Bool := meetOk (dS a.1) (dS b.1)
def mayT (l : List Tp) : Prop := ∀ s ∈ l, mayS (dS s.1) = true
def covT (l : List Tp) (p : Pt) : Prop := cov (l.map fun x => dS x.1) p
def MStep (l l' : List Tp) : Prop := ∃ a b r, l.Perm (a :: b :: r) ∧ mtT a b = true ∧ l' = jnT a b :: r
theorem covT_cons (a : Tp) (l : List Tp) (p : Pt) : covT (a :: l) p ↔ covS (dS a.1) p ∨ covT l p := by
 unfold covT cov
 simp only [List.map_cons, List.mem_cons, or_and_right, exists_or, exists_eq_left]
theorem covT_perm {a b : List Tp} (h : a.Perm b) (p : Pt) : covT a p ↔ covT b p := cov_perm (h.map _) p
theorem step_facts {l l' : List Tp} (hm : mayT l) (h : MStep l l') : mayT l' ∧ (∀ p, covT l' p ↔ covT l p) ∧ l'.length + 1 = l.length := by
 obtain ⟨a, b, r, hp, hab, rfl⟩ := h
 have ha : mayS (dS a.1) = true := hm a (hp.mem_iff.2 (by simp))
 have hb : mayS (dS b.1) = true := hm b (hp.mem_iff.2 (by simp))
 have e : dS (jnT a b).1 = joinS (dS a.1) (dS b.1) := jn_dS a.1 b.1
 refine ⟨fun s hs => ?_, fun p => ?_, ?_⟩
 ·rcases List.mem_cons.1 hs with rfl | hs
  ·rw [e]; exact join_may ha hb
  ·exact hm s (hp.mem_iff.2 (by simp [hs]))
 ·rw [covT_perm hp, covT_cons, covT_cons, covT_cons, e, join_cov ha hb hab, or_assoc]
 ·have := hp.length_eq
  simp only [List.length_cons] at *
  omega
end Go.Proofs.YteailgjiifdgcaaGreatDoor

/- The walk of cooperref03.join. Condition: texts of at most a million bytes; spans that may be. -/
namespace Go.Proofs.YteailgjiifdgcaaGreatDoor
open Go.RowKit Go.Lib VerN

set_option linter.unusedSimpArgs false
end Go.Proofs.YteailgjiifdgcaaGreatDoor

/- Laws for an append of what is read. No condition. -/
namespace Go.Proofs.YteailgjiifdgcaaGreatDoor
open Go.RowKit

theorem run_append_from {P : Program} {t e : TypeId} {z : Value} {size bytes : Nat} (E : Elem P t e z size bytes) (w : World) (base : Nat) (ty : TypeId)
  (v : Value) (n : Nat) (xs : List Value) (hown : w.ownsRow base e size v n xs)
  (ao : Option Addr) (m c : Nat) (news : List Value) (hl : news.length = m * size) (hnews : ∀ j u, news[j]? = some u → ∃ b off, ao = some ⟨b, off, none⟩ ∧ w.cell? ⟨b, off + j, none⟩ = some u) (h1 : ∀ u ∈ news, u.oneCell' = true)
  (h63 : n + m ≤ maxLen) (hbytes : (n + m) * bytes ≤ 140737488355328) (hbase : base ≤ w.heap.size) :
  ∃ v' w', (Builtin.append_ #[t, t] ty #[v, .slice ao m c]).run P w = .ok v' w' ∧ w'.ownsRow base e size v' (n + m) (xs ++ news) ∧ w.grownBy w' v.ownBlock ∧ Moved w v v' := by
 obtain ⟨i, hi, hz, hsz, hby⟩ := info_parts E.info
 cases ao with
 | some a =>
  obtain ⟨v', w', hr, h2, h3, h4⟩ := run_append_where (P := P) w base t ty e i z size bytes E.slice hi hz hsz hby E.zero E.pos v n xs hown a m c news hl (by
   intro j u hu
   obtain ⟨b, off, e1, e2⟩ := hnews j u hu
   cases e1
   rw [Addr.add_lit]
   exact e2) h1 h63 hbytes hbase
  refine ⟨v', w', hr, h2, h3, fun k hk => ?_⟩
  rcases h4 with h4 | h4
  ·exact .inl (by rw [← h4]; exact hk)
  ·right; rw [h4] at hk; simp at hk; omega
 | none =>
  have hn : news = [] := by
   cases news with
   | nil => rfl
   | cons x r => obtain ⟨b, off, e1, _⟩ := hnews 0 x rfl; cases e1
  subst hn
  have hm : m = 0 := by
   have hp := E.pos
   rcases Nat.eq_zero_or_pos m with h | h
   ·exact h
   ·have := Nat.mul_pos h hp; simp at hl; omega
  subst hm
  refine ⟨v, w, ?_, by simpa using hown, World.grownBy.refl _ _, fun k hk => .inl hk⟩
  rcases hown.2 with ⟨rfl, rfl⟩ | ⟨g, cap, cur, rfl, _, _, hnc, _⟩
  ·simp [Builtin.append_, run_underlying E.slice, sizeOf, typeInfo, hi, Builtin.lenOf, Builtin.firstCells]
  ·simp [Builtin.append_, run_underlying E.slice, sizeOf, typeInfo, hi, Builtin.lenOf, Builtin.firstCells, hnc, storeCells]

theorem wp_append_from {P : Program} {t e : TypeId} {z : Value} {size bytes : Nat} (E : Elem P t e z size bytes) {w : World} {o : Oper} {a : Act} {K : Act → World → Prop} {Q : Exit → Act → World → Prop}
  (s x : Operand) (ho : o.op = .call { callee := .builtin .append, args := #[s, x], argTypes := #[t, t] })
  (base : Nat) (v : Value) (n : Nat) (xs : List Value) (hs : a.eval s = v) (hown : w.ownsRow base e size v n xs)
  (ao : Option Addr) (m c : Nat) (news : List Value) (hx : a.eval x = .slice ao m c) (hl : news.length = m * size) (hnews : ∀ j u, news[j]? = some u → ∃ b off, ao = some ⟨b, off, none⟩ ∧ w.cell? ⟨b, off + j, none⟩ = some u) (h1 : ∀ u ∈ news, u.oneCell' = true)
  (hb : (n + m) * bytes ≤ 140737488355328) (hb1 : n + m ≤ maxLen) (hbase : base ≤ w.heap.size)
  (h : ∀ v' w', w'.ownsRow base e size v' (n + m) (xs ++ news) → w.grownBy w' v.ownBlock → Moved w v v' → K (a.put o.dst v') w') :
  o.wp P a w K Q := by
 obtain ⟨v', w', hr, h2, h3, h4⟩ := run_append_from E w base o.type v n xs hown ao m c news hl hnews h1 hb1 hb hbase
 unfold Oper.wp execOp
 simp only [ho, resolve, invoke, builtin, Sem.run_bind, Sem.run_pure, Result.andThen_ok, List.map_toArray, List.map_cons, List.map_nil, hs, hx, hr]
 exact h v' w' h2 h3 h4
theorem wpList_append_from {P : Program} {t e : TypeId} {z : Value} {size bytes : Nat} (E : Elem P t e z size bytes) {w : World} {ops : Array Oper} {rest : List Oper} {o : Oper} {a : Act} {Q : Exit → Act → World → Prop}
  (hgd : o.guard = none) (s x : Operand) (ho : o.op = .call { callee := .builtin .append, args := #[s, x], argTypes := #[t, t] })
  (base : Nat) (v : Value) (n : Nat) (xs : List Value) (hs : a.eval s = v) (hown : w.ownsRow base e size v n xs)
  (ao : Option Addr) (m c : Nat) (news : List Value) (hx : a.eval x = .slice ao m c) (hl : news.length = m * size) (hnews : ∀ j u, news[j]? = some u → ∃ b off, ao = some ⟨b, off, none⟩ ∧ w.cell? ⟨b, off + j, none⟩ = some u) (h1 : ∀ u ∈ news, u.oneCell' = true)
  (hb : (n + m) * bytes ≤ 140737488355328) (hb1 : n + m ≤ maxLen) (hbase : base ≤ w.heap.size)
  (h : ∀ v' w', w'.ownsRow base e size v' (n + m) (xs ++ news) → w.grownBy w' v.ownBlock → Moved w v v' → wpList P ops Q rest (a.put o.dst v') w') :
  wpList P ops Q (o :: rest) a w :=
 wpList_plain hgd fun _ hK => wp_append_from E s x ho base v n xs hs hown ao m c news hx hl hnews h1 hb hb1 hbase fun v' w' h2 h3 h4 => hK _ _ (h v' w' h2 h3 h4)

end Go.Proofs.YteailgjiifdgcaaGreatDoor

/- Rows of elements of some cells each: an element is put, two are exchanged. No condition. -/
namespace Go.Proofs.YteailgjiifdgcaaGreatDoor
open Go.RowKit
open SortM

def wr (xs : List Value) : Nat → List Value → List Value
 | _, [] => xs
 | o, v :: vs => wr (xs.set o v) (o + 1) vs
theorem flat_get {α : Type} (f : α → List Value) (k : Nat) (hk : ∀ x, (f x).length = k) (l : List α) (i : Nat) (h : i < l.length) (j : Nat) (hj : j < k) : (l.flatMap f)[i * k + j]? = (f l[i])[j]? := by
 induction l generalizing i with
 | nil => simp at h
 | cons a l ih =>
  rw [List.flatMap_cons]
  match i, h with
  | 0, _ =>
   rw [List.getElem?_append_left (by rw [hk]; omega)]
   simp
  | i + 1, h =>
   have hge : (f a).length ≤ (i + 1) * k + j := by rw [hk, Nat.succ_mul]; omega
   rw [List.getElem?_append_right hge, hk, show (i + 1) * k + j - k = i * k + j by rw [Nat.succ_mul]; omega]
   exact ih i (by simpa using h)
end Go.Proofs.YteailgjiifdgcaaGreatDoor
