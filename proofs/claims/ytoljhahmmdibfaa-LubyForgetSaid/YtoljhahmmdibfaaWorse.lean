/- The walks of luby.worse and luby.stays. No condition. -/
import Derived.Test.YtoljhahmmdibfaaCmpI
import Derived.Test.YtoljhahmmdibfaaStbNoteK
import Derived.Test.YtoljhahmmdibfaaMem
import Derived.Test.YtoljhahmmdibfaaForgP
import Derived.Deep.RegionHeld3
import Derived.Deep.CutRange
set_option linter.unusedVariables false
set_option linter.unusedSimpArgs false
namespace Go.Proofs.Ytoljhahmmdibfaa
open Go.Shelf Go.RowKit Go.Lib Go.Sort SortM ForgM

def ntCells (x : NT) : List Value := [.int .i64 x.1, .int .i64 x.2.1, .int .i64 x.2.2.1, .bool x.2.2.2]
def worseOf (a b : NT) : Int := orOf [compareInt b.2.2.1 a.2.2.1, compareInt b.2.1 a.2.1, compareInt a.1 b.1]
theorem worse_lt : ltOf worseOf = wlt := by
  funext a b
  refine Bool.eq_iff_iff.2 ?_
  rw [wlt_iff]
  unfold ltOf worseOf
  rw [decide_eq_true_eq]
  simp only [orOf, compareInt]
  repeat' split
  all_goals first | omega | (simp_all; omega)
set_option maxRecDepth 10000 in
set_option maxHeartbeats 2000000 in
theorem worse_any (a b : NT) (w : World) : Calls Try.prog 56 #[.agg #[.int .i64 a.1, .int .i64 a.2.1, .int .i64 a.2.2.1, .bool a.2.2.2], .agg #[.int .i64 b.1, .int .i64 b.2.1, .int .i64 b.2.2.1, .bool b.2.2.2]] w fun e w' => e = .returned (.int .i64 (worseOf a b)) ∧ ∃ q os', w' = grow (w.drewN q) os' := by
  obtain ⟨r, hr⟩ : ∃ r, r = worseOf a b := ⟨_, rfl⟩
  obtain ⟨a1, ha1⟩ : ∃ v, v = a.1 := ⟨_, rfl⟩
  obtain ⟨a2, ha2⟩ : ∃ v, v = a.2.1 := ⟨_, rfl⟩
  obtain ⟨a3, ha3⟩ : ∃ v, v = a.2.2.1 := ⟨_, rfl⟩
  obtain ⟨a4, ha4⟩ : ∃ v, v = a.2.2.2 := ⟨_, rfl⟩
  obtain ⟨b1, hb1⟩ : ∃ v, v = b.1 := ⟨_, rfl⟩
  obtain ⟨b2, hb2⟩ : ∃ v, v = b.2.1 := ⟨_, rfl⟩
  obtain ⟨b3, hb3⟩ : ∃ v, v = b.2.2.1 := ⟨_, rfl⟩
  obtain ⟨b4, hb4⟩ : ∃ v, v = b.2.2.2 := ⟨_, rfl⟩
  rw [← hr, ← ha1, ← ha2, ← ha3, ← ha4, ← hb1, ← hb2, ← hb3, ← hb4]
  obtain ⟨c1, hc1⟩ : ∃ c, c = compareInt b3 a3 := ⟨_, rfl⟩
  obtain ⟨c2, hc2⟩ : ∃ c, c = compareInt b2 a2 := ⟨_, rfl⟩
  obtain ⟨c3, hc3⟩ : ∃ c, c = compareInt a1 b1 := ⟨_, rfl⟩
  have hC1 := fun W => compare_any b3 a3 W
  have hC2 := fun W => compare_any b2 a2 W
  have hC3 := fun W => compare_any a1 b1 W
  rw [← hc1] at hC1
  rw [← hc2] at hC2
  rw [← hc3] at hC3
  have hO : orOf [c1, c2, c3] = r := by rw [hr, hc1, hc2, hc3, ha1, ha2, ha3, hb1, hb2, hb3]; rfl
  have hF : ∀ W : World, Calls Try.prog 70 #[.slice (some ⟨W.heap.size, 0, none⟩) 3 3] (W.alloc (.cells #[.int .i64 c1, .int .i64 c2, .int .i64 c3] 3)).drew fun e w' => e = .returned (.int .i64 r) ∧ (W.alloc (.cells #[.int .i64 c1, .int .i64 c2, .int .i64 c3] 3)).drew = w' := fun W => by
    rw [← hO]
    exact or_any W.heap.size 0 3 [c1, c2, c3] _ (by simp) (by
      intro i x hx
      show (W.alloc (.cells #[.int .i64 c1, .int .i64 c2, .int .i64 c3] 3)).cell? ⟨W.heap.size, 0 + i, none⟩ = _
      rw [Nat.zero_add, World.cell?_alloc_new]
      match i, hx with
      | 0, hx => simpa using hx
      | 1, hx => simpa using hx
      | 2, hx => simpa using hx)
  obtain ⟨A, hA⟩ : ∃ A, A = Obj.cells #[.int .i64 a1, .int .i64 a2, .int .i64 a3, .bool a4] 76 := ⟨_, rfl⟩
  obtain ⟨B, hB⟩ : ∃ A, A = Obj.cells #[.int .i64 b1, .int .i64 b2, .int .i64 b3, .bool b4] 76 := ⟨_, rfl⟩
  obtain ⟨pa, hpa⟩ : ∃ n, n = w.heap.size := ⟨_, rfl⟩
  obtain ⟨pb, hpb⟩ : ∃ n, n = w.heap.size + 1 := ⟨_, rfl⟩
  obtain ⟨W0, hW0⟩ : ∃ W, W = (w.alloc A).alloc B := ⟨_, rfl⟩
  have hX : W0.heap[pa]? = some (.cells #[.int .i64 a1, .int .i64 a2, .int .i64 a3, .bool a4] 76 (0, 0)) := by
    rw [hW0, hpa]; exact heap_below (below_alloc1 _ _) (by rw [hA]; exact heap_alloc_new _ _)
  have hY : W0.heap[pb]? = some (.cells #[.int .i64 b1, .int .i64 b2, .int .i64 b3, .bool b4] 76 (0, 0)) := by
    rw [hW0, hpb, hB, show w.heap.size + 1 = (w.alloc A).heap.size by simp]; exact heap_alloc_new _ _
  have x0 := cells_at hX 0
  have x1 := cells_at hX 1
  have x2 := cells_at hX 2
  have y0 := cells_at hY 0
  have y1 := cells_at hY 1
  have y2 := cells_at hY 2
  simp only [List.getElem?_toArray, List.getElem?_cons_succ, List.getElem?_cons_zero] at x0 x1 x2 y0 y1 y2
  clear hX hY
  have Hr := Lib.hid hr; have Ha1 := Lib.hid ha1; have Ha2 := Lib.hid ha2; have Ha3 := Lib.hid ha3; have Ha4 := Lib.hid ha4; have Hb1 := Lib.hid hb1; have Hb2 := Lib.hid hb2; have Hb3 := Lib.hid hb3; have Hb4 := Lib.hid hb4; have Hc1 := Lib.hid hc1; have Hc2 := Lib.hid hc2; have Hc3 := Lib.hid hc3; have HC1 := Lib.hid hC1; have HC2 := Lib.hid hC2; have HC3 := Lib.hid hC3; have HO := Lib.hid hO; have HF := Lib.hid hF; have HA := Lib.hid hA; have HB := Lib.hid hB; have Hpa := Lib.hid hpa; have Hpb := Lib.hid hpb; have HW0 := Lib.hid hW0; clear hr ha1 ha2 ha3 ha4 hb1 hb2 hb3 hb4 hc1 hc2 hc3 hC1 hC2 hC3 hO hF hA hB hpa hpb hW0
  go_enter Try.func56, Try.ntmps56
  go_upto_region 1 with fail
  rw [← HA.out, ← HB.out, ← HW0.out, ← Hpb.out, ← Hpa.out]
  have hS : W0.cell? ⟨pa, 0, none⟩ = some (.int .i64 a1) ∧ W0.cell? ⟨pa, 1, none⟩ = some (.int .i64 a2) ∧ W0.cell? ⟨pa, 2, none⟩ = some (.int .i64 a3) ∧ W0.cell? ⟨pb, 0, none⟩ = some (.int .i64 b1) ∧ W0.cell? ⟨pb, 1, none⟩ = some (.int .i64 b2) ∧ W0.cell? ⟨pb, 2, none⟩ = some (.int .i64 b3) := ⟨x0, x1, x2, y0, y1, y2⟩
  have hS1 : ∀ o, (W0.drew.alloc o).cell? ⟨pa, 0, none⟩ = some (.int .i64 a1) ∧ (W0.drew.alloc o).cell? ⟨pa, 1, none⟩ = some (.int .i64 a2) ∧ (W0.drew.alloc o).cell? ⟨pa, 2, none⟩ = some (.int .i64 a3) ∧ (W0.drew.alloc o).cell? ⟨pb, 0, none⟩ = some (.int .i64 b1) ∧ (W0.drew.alloc o).cell? ⟨pb, 1, none⟩ = some (.int .i64 b2) ∧ (W0.drew.alloc o).cell? ⟨pb, 2, none⟩ = some (.int .i64 b3) := fun o =>
    ⟨cell_later (below_alloc1 W0.drew o) x0, cell_later (below_alloc1 W0.drew o) x1, cell_later (below_alloc1 W0.drew o) x2, cell_later (below_alloc1 W0.drew o) y0, cell_later (below_alloc1 W0.drew o) y1, cell_later (below_alloc1 W0.drew o) y2⟩
  have HS := Lib.hid hS; have HS1 := Lib.hid hS1; clear hS hS1
  go_region_held3? (fun w' => w'.cell? ⟨pa, 0, none⟩ = some (.int .i64 a1) ∧ w'.cell? ⟨pa, 1, none⟩ = some (.int .i64 a2) ∧ w'.cell? ⟨pa, 2, none⟩ = some (.int .i64 a3) ∧ w'.cell? ⟨pb, 0, none⟩ = some (.int .i64 b1) ∧ w'.cell? ⟨pb, 1, none⟩ = some (.int .i64 b2) ∧ w'.cell? ⟨pb, 2, none⟩ = some (.int .i64 b3)) (first | exact HS.out | exact HS1.out _) (first
    | (go_at_call_of 71 (Value.int .i64 b3); refine (HC1.out _).mono ?_; rintro e w1 ⟨rfl, rfl⟩)
    | (go_at_call_of 71 (Value.int .i64 b2); refine (HC2.out _).mono ?_; rintro e w1 ⟨rfl, rfl⟩)
    | (go_at_call_of 71 (Value.int .i64 a1); refine (HC3.out _).mono ?_; rintro e w1 ⟨rfl, rfl⟩)
    | (go_at_call 70; refine (HF.out W0).mono ?_; rintro e w1 ⟨rfl, rfl⟩))
  all_goals
    go_wp2_with fail
    go_ret
    exact ⟨rfl, 1, #[A, B, _], by rw [HW0.out, alloc_eq_grow, alloc_eq_grow, alloc_eq_grow, grow_grow, grow_grow]; rfl⟩
end Go.Proofs.Ytoljhahmmdibfaa
