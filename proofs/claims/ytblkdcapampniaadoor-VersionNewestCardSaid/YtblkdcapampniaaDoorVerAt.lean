/- The walk of version.at: the part at a place, or the end. Condition: few parts. -/
import Derived.Test.YtblkdcapampniaaDoorParts
set_option linter.unusedVariables false
set_option linter.unusedSimpArgs false
namespace Go.Proofs.YtblkdcapampniaaDoor
open Go.RowKit Go.Lib VerN

theorem bodyPost_part1 {fn : Func} {p : Tmp} (hres : fn.results = #[.cell p 53]) {R : Ending → World → Prop} {a : Act} {w : World} {g : Nat} {x y z : Value} (hp : a.tmps.getD p undef = .pointer (some ⟨g, 0, none⟩))
    (hg : w.heap[g]? = some (.cells #[x, y, z] 53 (0, 0))) (hd : a.defers = []) (hR : R (.returned (.agg #[x, y, z])) w) : bodyPost Tryd.prog fn R .ret a w :=
  bodyPost_ret (results_cell_row hres a.tmps w g _ _ _ _ hp hg Tryd.underlying53 rfl (by kernel_rfl)) hd hR
theorem partsCells_at : ∀ (ps : List (List UInt8)) (i j : Nat) (h : i < ps.length), j < 3 → (partsCells ps)[i * 3 + j]? = (partCells ps[i])[j]?
  | p :: r, 0, j, _, hj => by
    simp only [partsCells, List.flatMap_cons, Nat.zero_mul, Nat.zero_add, List.getElem_cons_zero]
    rw [List.getElem?_append_left (by simpa [partCells] using hj)]
  | p :: r, i + 1, j, h, hj => by
    have := partsCells_at r i j (by simpa using h) hj
    simp only [partsCells, List.flatMap_cons, List.getElem_cons_succ] at this ⊢
    rw [List.getElem?_append_right (by simp [partCells]; omega), ← this]
    congr 1
    simp [partCells]
    omega
/-- a part of a row that a call owns -/
theorem parts_cell {w : World} {B : Nat} {v : Value} {n : Nat} {ps : List (List UInt8)} (h : w.ownsRow B 53 3 v n (partsCells ps)) (hn : n = ps.length) (i : Nat) (hi : i < ps.length) :
    ∃ g cap, v = .slice (some ⟨g, 0, none⟩) n cap ∧ n ≤ cap ∧ w.cell? ⟨g, i * 3, none⟩ = some (.int .i64 (rankOf ps[i])) ∧ w.cell? ⟨g, i * 3 + 1, none⟩ = some (.int .i64 (numOf ps[i])) ∧ w.cell? ⟨g, i * 3 + 2, none⟩ = some (.string ⟨(wordOf ps[i]).toArray⟩) := by
  obtain ⟨g, cap, rfl, _, _, h1, _, h2⟩ := ownsRow_some h (by omega)
  exact ⟨g, cap, rfl, h1, h2 _ _ (partsCells_at ps i 0 hi (by omega)), h2 _ _ (partsCells_at ps i 1 hi (by omega)), h2 _ _ (partsCells_at ps i 2 hi (by omega))⟩
set_option maxRecDepth 10000 in
set_option maxHeartbeats 1000000 in
theorem at_any {w : World} {B : Nat} {v : Value} {ps : List (List UInt8)} (h : w.ownsRow B 53 3 v ps.length (partsCells ps)) (h8 : ps.length ≤ 8) (i : Nat) (hi8 : i < 8) :
    Calls Tryd.prog 43 #[v, .int .i64 i] w fun e w' => e = .returned (.agg #[.int .i64 (rankOf (ps.getD i [])), .int .i64 (numOf (ps.getD i [])), .string ⟨(wordOf (ps.getD i [])).toArray⟩]) ∧ Below w.heap.size w w' := by
  have hb1 : Below w.heap.size w (w.alloc (.cells #[.int .i64 0, .int .i64 0, .string ⟨#[]⟩] 53)) := below_alloc1 _ _
  have hr1 : (w.alloc (.cells #[.int .i64 0, .int .i64 0, .string ⟨#[]⟩] 53)).heap[w.heap.size]? = some (.cells #[.int .i64 0, .int .i64 0, .string ⟨#[]⟩] 53 (0, 0)) := heap_new_at rfl
  by_cases hi : i < ps.length
  · obtain ⟨g, cap, rfl, hcap, c0, c1, c2⟩ := parts_cell h rfl i hi
    rw [getD_lt hi]
    have d0 := cell_later hb1 c0
    have d1 := cell_later hb1 c1
    have d2 := cell_later hb1 c2
    obtain ⟨n, hn⟩ : ∃ n, n = ps.length := ⟨_, rfl⟩
    obtain ⟨x, hx⟩ : ∃ x, x = rankOf ps[i] := ⟨_, rfl⟩
    obtain ⟨y, hy⟩ : ∃ y, y = numOf ps[i] := ⟨_, rfl⟩
    obtain ⟨z, hz⟩ : ∃ z, z = (⟨(wordOf ps[i]).toArray⟩ : ByteArray) := ⟨_, rfl⟩
    rw [← hx] at c0 d0 ⊢
    rw [← hy] at c1 d1 ⊢
    rw [← hz] at c2 d2 ⊢
    rw [← hn] at h h8 hi hcap ⊢
    have k1 : (i : Int) < (n : Int) := by omega
    have k2 : decide ((i : Int) < (n : Int)) = true := decide_eq_true k1
    have Hh := Lib.hid h; have Hn := Lib.hid hn; have Hx := Lib.hid hx; have Hy := Lib.hid hy; have Hz := Lib.hid hz; have Hb1 := Lib.hid hb1; have Hr1 := Lib.hid hr1; clear h hn hx hy hz hb1 hr1
    clear c0 c1 c2
    go_enter Tryd.func43, Tryd.ntmps43
    go_wp2_with fail
    exact bodyPost_part1 rfl rfl (heap_new_at rfl) rfl ⟨by rw [Hx.out, Hy.out, Hz.out], below_alloc1 _ _⟩
  · obtain ⟨a, cap, rfl⟩ := own_shape h
    rw [getD_ge (by omega)]
    obtain ⟨n, hn⟩ : ∃ n, n = ps.length := ⟨_, rfl⟩
    rw [← hn] at h h8 hi ⊢
    have k1 : decide ((i : Int) < (n : Int)) = false := decide_eq_false (by omega)
    have Hh := Lib.hid h; have Hn := Lib.hid hn; have Hb1 := Lib.hid hb1; have Hr1 := Lib.hid hr1; clear h hn hb1 hr1
    go_enter Tryd.func43, Tryd.ntmps43
    go_wp2_with fail
    exact bodyPost_part1 rfl rfl (heap_new_at rfl) rfl ⟨rfl, below_alloc1 _ _⟩
end Go.Proofs.YtblkdcapampniaaDoor
