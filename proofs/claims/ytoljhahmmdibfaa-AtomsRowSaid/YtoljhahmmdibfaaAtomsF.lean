/- The walks of cooperlaw11's fixed and of AtomsNil: they return true. No condition. -/
import Derived.Test.YtoljhahmmdibfaaAtomsT
namespace Go.Proofs.Ytoljhahmmdibfaa
open Go.RowKit

theorem IsTab.lts {w : World} {B p bm : Nat} {v : Value} {limit helps : Int} {l : List At} {full : Bool} (h : IsTab w B p bm v limit helps l full) : ∀ k, TabS p bm v k → k < w.heap.size := by
  rintro k (rfl | rfl | hk)
  · exact (Array.getElem?_eq_some_iff.1 h.cells).1
  · exact h.map.lt
  · exact (h.row.lt k hk).2
theorem IsTab.ges {w : World} {B p bm : Nat} {v : Value} {limit helps : Int} {l : List At} {full : Bool} (h : IsTab w B p bm v limit helps l full) : ∀ k, TabS p bm v k → B ≤ k := by
  rintro k (rfl | rfl | hk)
  · exact h.pB
  · exact h.bB
  · exact (h.row.lt k hk).1

theorem boxed {w w' : World} {S : Nat → Prop} {b : Nat} {cs : Array Value} {t : TypeId} (h : w.heap[b]? = some (.cells cs t (0, 0))) (hf : Frm S w w') (hS : ¬ S b) : w'.heap[b]? = some (.cells cs t (0, 0)) :=
  (hf.block b (Array.getElem?_eq_some_iff.1 h).1 hS).trans h

set_option maxHeartbeats 1000000 in
theorem fixed11 (w : World) : Calls Try.prog 15 #[] w fun e w' => e = .returned (.bool true) ∧ Below w.heap.size w w' := by
  have ha : AtWf (1, 7, 0, 0) := ⟨by decide, by decide, by decide, by decide⟩
  go_enter Try.func15, Try.ntmps15
  go_wp2_with fail
  refine (new_any _ _).mono ?_
  rintro e w1 ⟨p, bm, rfl, hT, hb1⟩
  have HT := Lib.hid hT
  have hl5 : clampT 5 = 5 := rfl
  rw [hl5] at hT
  have hT1 : IsTab (w1.alloc (.cells #[.int .u8 1, .int .i64 7, .int .i64 0, .int .i64 0] 27)) w.heap.size p bm (.slice none 0 0) 5 0 [] false := hT.below (S := fun _ => False) ((Frm.refl _ _).alloc _) (fun _ _ h => h)
  have H1 := Lib.hid hT1
  have hlt := Lib.hid hT.lts
  have hge := Lib.hid hT.ges
  have hsz := hb1.size
  clear hT hT1 hl5
  go_wp2_with fail
  refine (number_any H1.out (by simp; omega) _ _ _ _ ha).mono ?_
  rintro e w2 ⟨rfl, v2, hT2, hf2, hm2⟩
  have e1 : addAt 5 [] (1, 7, 0, 0) = [(1, 7, 0, 0)] := by decide
  have e2 : findAt [((1 : Int), (7 : Int), (0 : Int), (0 : Int))] (1, 7, 0, 0) = 1 := by decide
  rw [e1, e2] at *
  have H2 := Lib.hid hT2
  have F2 := Lib.hid hf2
  have M2 := Lib.hid hm2
  have hbx : w2.heap[w1.heap.size]? = some (.cells #[.int .u8 1, .int .i64 7, .int .i64 0, .int .i64 0] 27 (0, 0)) := boxed (heap_alloc_new w1 _) hf2 (fun h => by have := hlt.out _ h; omega)
  have x0 := cell_blk hbx 0
  have x1 := cell_blk hbx 1
  have x2 := cell_blk hbx 2
  have x3 := cell_blk hbx 3
  simp only [List.getElem?_toArray, List.getElem?_cons_succ, List.getElem?_cons_zero] at x0 x1 x2 x3
  have hs2 := hf2.size
  clear hT2 hf2 hm2 hbx e1 e2
  go_wp2_with fail
  refine (number_any H2.out (by simp at hs2; omega) _ _ _ _ ha).mono ?_
  rintro e w3 ⟨rfl, v3, hT3, hf3, hm3⟩
  have e1 : addAt 5 [(1, 7, 0, 0)] (1, 7, 0, 0) = [(1, 7, 0, 0)] := by decide
  have e2 : findAt [((1 : Int), (7 : Int), (0 : Int), (0 : Int))] (1, 7, 0, 0) = 1 := by decide
  rw [e1, e2] at *
  have H3 := Lib.hid hT3
  have F3 := Lib.hid hf3
  clear hT3 hf3 hm3 e1 e2
  go_wp2_with (go_at_call 21; refine (len_any H3.out).mono ?_; rintro e w' ⟨rfl, rfl⟩)
  go_ret
  refine ⟨rfl, ?_⟩
  have b2 : Below w.heap.size (w1.alloc (.cells #[.int .u8 1, .int .i64 7, .int .i64 0, .int .i64 0] 27)) w2 := F2.out.below (by simp; omega) (fun k hk => hge.out k hk)
  have b3 : Below w.heap.size w2 w3 := F3.out.below (by simp at hs2; omega) (fun k hk => H2.out.ges k hk)
  exact ((hb1.alloc hb1.size _).trans b2).trans b3

set_option maxHeartbeats 1000000 in
theorem atomsNil_true (k a b c n : Int) (w : World) : Calls Try.prog 8 #[.agg #[.int .u8 k, .int .i64 a, .int .i64 b, .int .i64 c], .int .i64 n] w fun e w' => e = .returned (.bool true) ∧ Below w.heap.size w w' := by
  have hz : ∀ (u : World), Below w.heap.size w u → w.heap.size ≤ u.heap.size := fun u h => h.size
  have HZ := Lib.hid hz; clear hz
  go_enter Try.func8, Try.ntmps8
  go_wp2_with fail
  refine (at_nil _ _).mono ?_
  rintro e w1 ⟨rfl, hb1⟩
  have h1 : w1.heap[w.heap.size]? = some (.cells #[.int .u8 k, .int .i64 a, .int .i64 b, .int .i64 c] 27 (0, 0)) := (hb1.block _ (by simp)).trans (heap_alloc_new w _)
  have H1 := Lib.hid h1
  have g1 := (Array.getElem?_eq_some_iff.1 h1).1
  clear h1
  go_wp2_with fail
  refine (fixed11 _).mono ?_
  rintro e w2 ⟨rfl, hb2⟩
  have h2 : w2.heap[w.heap.size]? = some (.cells #[.int .u8 k, .int .i64 a, .int .i64 b, .int .i64 c] 27 (0, 0)) := boxed H1.out (((Frm.refl (fun _ => False) w1).alloc _).trans (Frm.of_below hb2) (fun _ _ h => h)) (fun h => h)
  have H2 := Lib.hid h2
  have x0 := cell_blk h2 0
  have x1 := cell_blk h2 1
  have x2 := cell_blk h2 2
  have x3 := cell_blk h2 3
  simp only [List.getElem?_toArray, List.getElem?_cons_succ, List.getElem?_cons_zero] at x0 x1 x2 x3
  clear h2
  go_wp2_with fail
  refine (number_nil _ _ _ _ _).mono ?_
  rintro e w3 ⟨rfl, hb3⟩
  have h3 := boxed H2.out (Frm.of_below (S := fun _ => False) hb3) (fun h => h)
  have y0 := cell_blk h3 0
  have y1 := cell_blk h3 1
  have y2 := cell_blk h3 2
  have y3 := cell_blk h3 3
  simp only [List.getElem?_toArray, List.getElem?_cons_succ, List.getElem?_cons_zero] at y0 y1 y2 y3
  clear h3
  go_wp2_with fail
  refine (help_nil _).mono ?_
  rintro e w3' ⟨rfl, rfl⟩
  go_wp2_with fail
  refine (look_nil _ _ _ _ _).mono ?_
  rintro e w4 ⟨rfl, hb4⟩
  go_wp2_with (first | (go_at_call 21; refine (len_nil _).mono ?_; rintro e w' ⟨rfl, rfl⟩) | (go_at_call 29; refine (full_nil _).mono ?_; rintro e w' ⟨rfl, rfl⟩))
  go_ret
  refine ⟨rfl, ?_⟩
  have q1 : Below w.heap.size w w1 := ((Below.refl _ _).alloc (Nat.le_refl _) _).trans (hb1.mono (by simp))
  have q2 := (q1.alloc (HZ.out _ q1) _).trans (hb2.mono (by have := HZ.out _ q1; simp; omega))
  have q3 := q2.trans (hb3.mono (HZ.out _ q2))
  exact q3.trans (hb4.mono (HZ.out _ q3))

theorem atomsNil_row (cs : Array Value) (x : At) (n : Int) (w : World) (h : RAt w cs.toList x) : Calls Try.prog 8 #[.agg cs, .int .i64 n] w fun e w' => e = .returned (.bool true) ∧ Below w.heap.size w w' := by
  obtain ⟨k, a, b, c⟩ := x
  obtain rfl : cs = #[.int .u8 k, .int .i64 a, .int .i64 b, .int .i64 c] := by
    have := congrArg List.toArray h.1
    simpa [atCells] using this
  exact atomsNil_true k a b c n w
end Go.Proofs.Ytoljhahmmdibfaa
