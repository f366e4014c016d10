/- The walks of cooperref20.may and worse. No condition. -/
import Derived.Test.YtoljhahmmdibfaaNoteR
import Derived.Deep.CutRange
set_option linter.unusedVariables false
set_option linter.unusedSimpArgs false
namespace Go.Proofs.Ytoljhahmmdibfaa
open Go.Shelf Go.RowKit Go.Lib Go.Sort ForgM

set_option maxRecDepth 10000 in
theorem mayF_any (x0 x1 x2 : Int) (x3 : Bool) (w : World) : Calls Try.prog 58 #[.agg #[.int .i64 x0, .int .i64 x1, .int .i64 x2, .bool x3]] w fun e w' => e = .returned (.bool (mayN (x0, x1, x2, x3))) ∧ Below w.heap.size w w' := by
  rw [show mayN (x0, x1, x2, x3) = (!x3 && (decide (2 < x1) && decide (2 < x2))) from rfl]
  obtain ⟨p, hp⟩ : ∃ p, p = decide (2 < x1) := ⟨_, rfl⟩
  obtain ⟨q, hq⟩ : ∃ p, p = decide (2 < x2) := ⟨_, rfl⟩
  rw [← hp, ← hq]
  have hp' := hp.symm
  have hq' := hq.symm
  have hb := below_alloc1 w (.cells #[.int .i64 x0, .int .i64 x1, .int .i64 x2, .bool x3] 75)
  have Hp := Lib.hid hp; have Hq := Lib.hid hq; have Hb := Lib.hid hb; clear hp hq hb
  cases x3 with
  | true =>
    go_enter Try.func58, Try.ntmps58
    go_wp2_with fail
    go_ret
    exact ⟨rfl, Hb.out⟩
  | false =>
    cases p with
    | false =>
      go_enter Try.func58, Try.ntmps58
      go_wp2_with fail
      go_ret
      exact ⟨rfl, Hb.out⟩
    | true =>
      cases q with
      | true =>
        go_enter Try.func58, Try.ntmps58
        go_wp2_with fail
        go_ret
        exact ⟨rfl, Hb.out⟩
      | false =>
        go_enter Try.func58, Try.ntmps58
        go_wp2_with fail
        go_ret
        exact ⟨rfl, Hb.out⟩
/-- the cells of a note at a place -/
def NCell (w : World) (a : Option Addr) (i : Nat) (x : NT) : Prop := ∃ b off, a = some ⟨b, off, none⟩ ∧ w.cell? ⟨b, off + i * 4, none⟩ = some (.int .i64 x.1) ∧ w.cell? ⟨b, off + i * 4 + 1, none⟩ = some (.int .i64 x.2.1) ∧ w.cell? ⟨b, off + i * 4 + 2, none⟩ = some (.int .i64 x.2.2.1) ∧ w.cell? ⟨b, off + i * 4 + 3, none⟩ = some (.bool x.2.2.2)
theorem NCell.below {w w' : World} {a : Option Addr} {i : Nat} {x : NT} (h : NCell w a i x) (hb : Below w.heap.size w w') : NCell w' a i x := by
  obtain ⟨b, off, h0, h1, h2, h3, h4⟩ := h
  exact ⟨b, off, h0, cell_later hb h1, cell_later hb h2, cell_later hb h3, cell_later hb h4⟩
theorem ncell_of {w : World} {a : Option Addr} {n c : Nat} {l : List NT} (h : RNotes w [.slice a n c] l) (i : Nat) (hi : i < l.length) : NCell w a i l[i] := by
  obtain ⟨a', c', e1, _, _, g⟩ := h
  simp only [List.cons.injEq, and_true, Value.slice.injEq] at e1
  obtain ⟨rfl, _, _⟩ := e1
  obtain ⟨b, off, ecs, h1, _, h3, h4⟩ := g i _ (List.getElem?_eq_getElem hi)
  subst h4
  exact ⟨b, off, h1, h3 0 _ rfl, h3 1 _ rfl, h3 2 _ rfl, h3 3 _ rfl⟩
set_option maxRecDepth 10000 in
set_option maxHeartbeats 2000000 in
theorem worseF_any {w : World} {a : Option Addr} {n c i k : Nat} {x y : NT} (hi : i < n) (hk : k < n) (hn : n ≤ 1000) (hx : NCell w a i x) (hy : NCell w a k y) : Calls Try.prog 59 #[.slice a n c, .int .i64 i, .int .i64 k] w fun e w' => e = .returned (.bool (ltP wlt (x, i) (y, k))) ∧ Below w.heap.size w w' := by
  rw [ltP_wlt]
  dsimp only
  obtain ⟨b, off, rfl, c0, c1, c2, c3⟩ := hx
  obtain ⟨b', off', e, d0, d1, d2, d3⟩ := hy
  cases e
  obtain ⟨x0, hx0⟩ : ∃ v, v = x.1 := ⟨_, rfl⟩
  obtain ⟨x1, hx1⟩ : ∃ v, v = x.2.1 := ⟨_, rfl⟩
  obtain ⟨x2, hx2⟩ : ∃ v, v = x.2.2.1 := ⟨_, rfl⟩
  obtain ⟨x3, hx3⟩ : ∃ v, v = x.2.2.2 := ⟨_, rfl⟩
  obtain ⟨y0, hy0⟩ : ∃ v, v = y.1 := ⟨_, rfl⟩
  obtain ⟨y1, hy1⟩ : ∃ v, v = y.2.1 := ⟨_, rfl⟩
  obtain ⟨y2, hy2⟩ : ∃ v, v = y.2.2.1 := ⟨_, rfl⟩
  obtain ⟨y3, hy3⟩ : ∃ v, v = y.2.2.2 := ⟨_, rfl⟩
  rw [← hx0, ← hx1, ← hx2, ← hy0, ← hy1, ← hy2]
  rw [← hx0] at c0
  rw [← hx1] at c1
  rw [← hx2] at c2
  rw [← hx3] at c3
  rw [← hy0] at d0
  rw [← hy1] at d1
  rw [← hy2] at d2
  rw [← hy3] at d3
  obtain ⟨W1, hW1⟩ : ∃ W, W = w.alloc (.cells #[.int .i64 x0, .int .i64 x1, .int .i64 x2, .bool x3] 75) := ⟨_, rfl⟩
  obtain ⟨W2, hW2⟩ : ∃ W, W = W1.alloc (.cells #[.int .i64 y0, .int .i64 y1, .int .i64 y2, .bool y3] 75) := ⟨_, rfl⟩
  obtain ⟨p, hp⟩ : ∃ p, p = w.heap.size := ⟨_, rfl⟩
  obtain ⟨q, hq⟩ : ∃ p, p = W1.heap.size := ⟨_, rfl⟩
  have hb1 : Below w.heap.size w W1 := by rw [hW1]; exact below_alloc1 _ _
  have hb12 : Below W1.heap.size W1 W2 := by rw [hW2]; exact below_alloc1 _ _
  have hb2 : Below w.heap.size w W2 := hb1.trans (hb12.mono hb1.size)
  have hX : W2.heap[p]? = some (.cells #[.int .i64 x0, .int .i64 x1, .int .i64 x2, .bool x3] 75 (0, 0)) := heap_below hb12 (by rw [hW1, hp]; exact heap_alloc_new _ _)
  have hY : W2.heap[q]? = some (.cells #[.int .i64 y0, .int .i64 y1, .int .i64 y2, .bool y3] 75 (0, 0)) := by rw [hW2, hq]; exact heap_alloc_new _ _
  have e0 := cell_later hb1 d0
  have e1 := cell_later hb1 d1
  have e2 := cell_later hb1 d2
  have e3 := cell_later hb1 d3
  have k1 : (i : Int) < (n : Int) := by omega
  have k2 : (k : Int) < (n : Int) := by omega
  clear d0 d1 d2 d3
  have key : ∀ r : Bool, r = (if x2 ≠ y2 then decide (y2 < x2) else if x1 ≠ y1 then decide (y1 < x1) else if x0 ≠ y0 then decide (x0 < y0) else decide (i < k)) → Calls Try.prog 59 #[.slice (some ⟨b, off, none⟩) n c, .int .i64 i, .int .i64 k] w fun e w' => e = .returned (.bool r) ∧ Below w.heap.size w w' := by
    intro r hr
    have Hx0 := Lib.hid hx0; have Hx1 := Lib.hid hx1; have Hx2 := Lib.hid hx2; have Hx3 := Lib.hid hx3; have Hy0 := Lib.hid hy0; have Hy1 := Lib.hid hy1; have Hy2 := Lib.hid hy2; have Hy3 := Lib.hid hy3; have Hb1 := Lib.hid hb1; have Hb12 := Lib.hid hb12; have Hb2 := Lib.hid hb2; have HX := Lib.hid hX; have HY := Lib.hid hY; have Hr := Lib.hid hr; clear hx0 hx1 hx2 hx3 hy0 hy1 hy2 hy3 hb1 hb12 hb2 hX hY hr
    go_enter Try.func59, Try.ntmps59
    go_upto_region 2 with fail
    rw [← hW1, ← hp]
    clear c0 c1 c2 c3
    have HW1 := Lib.hid hW1; have Hp := Lib.hid hp; clear hW1 hp
    go_upto_region 3 with fail
    rw [← hW2, ← hq]
    clear e0 e1 e2 e3
    have f0 := cells_at HX.out 0
    have f1 := cells_at HX.out 1
    have f2 := cells_at HX.out 2
    have g0 := cells_at HY.out 0
    have g1 := cells_at HY.out 1
    have g2 := cells_at HY.out 2
    simp only [List.getElem?_toArray, List.getElem?_cons_succ, List.getElem?_cons_zero] at f0 f1 f2 g0 g1 g2
    have HW2 := Lib.hid hW2; have Hq := Lib.hid hq; clear hW2 hq
    by_cases t2 : x2 = y2
    · have m2 : (x2 != y2) = false := by rw [t2]; simp
      by_cases t1 : x1 = y1
      · have m1 : (x1 != y1) = false := by rw [t1]; simp
        by_cases t0 : x0 = y0
        · have m0 : (x0 != y0) = false := by rw [t0]; simp
          have hr2 : r = decide (i < k) := by rw [Hr.out, if_neg (by simpa using t2), if_neg (by simpa using t1), if_neg (by simpa using t0)]
          have Ht0 := Lib.hid t0; have Ht1 := Lib.hid t1; have Ht2 := Lib.hid t2; have Hr2 := Lib.hid hr2; clear t0 t1 t2 hr2
          go_wp2_with fail
          go_ret
          exact ⟨by rw [Hr2.out]; simp, Hb2.out⟩
        · have m0 : (x0 != y0) = true := by simpa using t0
          have hr2 : r = decide (x0 < y0) := by rw [Hr.out, if_neg (by simpa using t2), if_neg (by simpa using t1), if_pos t0]
          have Ht0 := Lib.hid t0; have Ht1 := Lib.hid t1; have Ht2 := Lib.hid t2; have Hr2 := Lib.hid hr2; clear t0 t1 t2 hr2
          go_wp2_with fail
          go_ret
          exact ⟨by rw [Hr2.out]; simp, Hb2.out⟩
      · have m1 : (x1 != y1) = true := by simpa using t1
        have hr2 : r = decide (y1 < x1) := by rw [Hr.out, if_neg (by simpa using t2), if_pos t1]
        have Ht1 := Lib.hid t1; have Ht2 := Lib.hid t2; have Hr2 := Lib.hid hr2; clear t1 t2 hr2
        go_wp2_with fail
        go_ret
        exact ⟨by rw [Hr2.out]; simp, Hb2.out⟩
    · have m2 : (x2 != y2) = true := by simpa using t2
      have hr2 : r = decide (y2 < x2) := by rw [Hr.out, if_pos t2]
      have Ht2 := Lib.hid t2; have Hr2 := Lib.hid hr2; clear t2 hr2
      go_wp2_with fail
      go_ret
      exact ⟨by rw [Hr2.out]; simp, Hb2.out⟩
  exact key _ rfl
end Go.Proofs.Ytoljhahmmdibfaa
