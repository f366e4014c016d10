/- The walks of cooperlaw05: fixed, LexLines. Condition: the reach. -/
import Derived.Test.YtoljhahmmdibfaaLexD
import Derived.Test.YtoljhahmmdibfaaLexS
namespace Go.Proofs.Ytoljhahmmdibfaa
open Go.RowKit
open LexM (Bs Wd Ln St)

theorem fixed_lines : LexM.lines [97, 32, 32, 98, 99, 32, 35, 32, 100] = ⟨[(1, [(1, [97]), (4, [98, 99])])], 0, 0, 0⟩ := by rfl
set_option maxRecDepth 10000 in
set_option maxHeartbeats 2000000 in
/-- the chapter's example -/
theorem fixed05 (w : World) : Calls Try.prog 30 #[] w fun e w' => e = .returned (.bool true) ∧ Below w.heap.size w w' := by
  have HL : Hid (∀ w, Calls Try.prog 31 #[.string ⟨#[97, 32, 32, 98, 99, 32, 35, 32, 100]⟩] w (LinesPost w ⟨[(1, [(1, [97]), (4, [98, 99])])], 0, 0, 0⟩)) := by
    intro w
    have := lexLines_any ⟨#[97, 32, 32, 98, 99, 32, 35, 32, 100]⟩ (by decide) w
    have e : (⟨#[97, 32, 32, 98, 99, 32, 35, 32, 100]⟩ : ByteArray).data.toList = [97, 32, 32, 98, 99, 32, 35, 32, 100] := rfl
    rw [e, fixed_lines] at this
    exact this
  go_enter Try.func30, Try.ntmps30
  go_wp2_with fail
  refine (HL.out _).mono ?_
  rintro e w1 ⟨v, rfl, hr, hb⟩
  obtain ⟨a, c, rfl, h1, h2, h3⟩ := ln_cell hr
  obtain ⟨b1, o1, hx, c1, v1, c2, r1⟩ := h3 0 (by decide)
  subst hx
  obtain ⟨wa, wc, rfl, hw1, hw2, hw3⟩ := wd_cell r1
  obtain ⟨b2, o2, hx, d1, d2⟩ := hw3 1 (by decide)
  subst hx
  simp only [List.getElem_cons_zero, List.getElem_cons_succ, Nat.zero_mul, Nat.one_mul, Nat.add_zero, List.length_cons, List.length_nil, Nat.zero_add, Nat.add_assoc, Nat.reduceAdd] at c1 c2 d1 d2 h1 hw1
  unfold maxLen at h2 hw2
  have ac1 : ∀ o : Obj, (w1.alloc o).cell? ⟨b1, o1, none⟩ = some _ := fun o => ((Frm.refl _ w1).alloc o).keep c1
  have ac2 : ∀ o : Obj, (w1.alloc o).cell? ⟨b1, o1 + 1, none⟩ = some _ := fun o => ((Frm.refl _ w1).alloc o).keep c2
  have ad1 : ∀ o : Obj, (w1.alloc o).cell? ⟨b2, o2 + 2, none⟩ = some _ := fun o => ((Frm.refl _ w1).alloc o).keep d1
  have ad2 : ∀ o : Obj, (w1.alloc o).cell? ⟨b2, o2 + 3, none⟩ = some _ := fun o => ((Frm.refl _ w1).alloc o).keep d2
  have ad3 : ∀ o : Obj, (w1.alloc o).cell? ⟨b2, o2 + 2 + 1, none⟩ = some _ := fun o => ((Frm.refl _ w1).alloc o).keep d2
  have Hb := Lib.hid hb; have Hr := Lib.hid hr; have H3 := Lib.hid h3; have Hw3 := Lib.hid hw3; have Hr1 := Lib.hid r1; clear hb hr h3 hw3 r1
  go_wp2_with fail
  go_ret
  exact ⟨rfl, Hb.out.trans ((Below.refl _ _).alloc (Nat.le_refl _) _ |>.mono Hb.out.size)⟩

set_option maxRecDepth 10000 in
set_option maxHeartbeats 2000000 in
theorem lexLines_true (s : ByteArray) (hs : s.size ≤ 140737488351232) (w : World) : Calls Try.prog 9 #[.string s] w fun e w' => e = .returned (.bool true) ∧ Below w.heap.size w w' := by
  by_cases hlong : 70000 < s.size
  · go_enter Try.func9, Try.ntmps9
    go_wp2_with fail
    refine (fixed05 _).mono ?_
    rintro e w1 ⟨rfl, hb⟩
    have Hb := Lib.hid hb; clear hb
    go_wp2_with fail
    go_ret
    exact ⟨rfl, Hb.out⟩
  · have HA := Lib.hid (fun w => lexLines_any s hs w)
    have HD := Lib.hid (fun w => docLines_any s hs w)
    rw [← LexM.lines_eq] at HD
    obtain ⟨r, hr⟩ : ∃ r, r = LexM.lines s.data.toList := ⟨_, rfl⟩
    rw [← hr] at HA HD
    clear hr
    obtain ⟨ln, a1, a2, er⟩ := r
    go_enter Try.func9, Try.ntmps9
    go_wp2_with fail
    refine (HA.out _).mono ?_
    rintro e w1 ⟨v1, rfl, hr1, hb1⟩
    dsimp only at hr1
    obtain ⟨p1, c1, rfl⟩ := ln_shape hr1
    have Hr1 := Lib.hid hr1; have Hb1 := Lib.hid hb1; clear hr1 hb1
    go_wp2_with fail
    refine (HD.out _).mono ?_
    rintro e w2 ⟨v2, rfl, hr2, hb2⟩
    dsimp only at hr2
    obtain ⟨p2, c2, rfl⟩ := ln_shape hr2
    have hk1 : w2.heap[w1.heap.size]? = some (.cells #[.int .i64 a1, .int .i64 a2] 47 (0, 0)) := by
      rw [hb2.block _ (by simp)]; exact heap_alloc_new w1 _
    have hsz : w1.heap.size < w2.heap.size := by have := hb2.size; simp at this; omega
    have Hr2 := Lib.hid hr2; have Hb2 := Lib.hid hb2; have Hk1 := Lib.hid hk1; clear hr2 hb2 hk1
    go_wp2_with fail
    refine (fixed05 _).mono ?_
    rintro e w3 ⟨rfl, hb3⟩
    have hk2 : w3.heap[w2.heap.size]? = some (.cells #[.slice p2 ln.length c2, .int .i64 a1, .int .i64 a2, .int .i64 er] 52 (0, 0)) := by
      rw [hb3.block _ (by simp)]; exact heap_alloc_new w2 _
    have hB3 : Below w2.heap.size w2 w3 := ((Below.refl _ _).alloc (Nat.le_refl _) _).trans (hb3.mono (by simp))
    have hk3 : w3.heap[w1.heap.size]? = some (.cells #[.int .i64 a1, .int .i64 a2] 47 (0, 0)) := by
      rw [hB3.block _ hsz]; exact Hk1.out
    have hB2 : Below w1.heap.size w1 w2 := ((Below.refl _ _).alloc (Nat.le_refl _) _).trans (Hb2.out.mono (by simp))
    have hB13 : Below w1.heap.size w1 w3 := hB2.trans (hB3.mono hB2.size)
    have q1 := stays_lns _ _ _ _ Hr1.out hB13
    have q2 := stays_lns _ _ _ _ Hr2.out hB3
    have z0 := cells_at hk2 0
    have z1 := cells_at hk2 1
    have z2 := cells_at hk2 2
    have z3 := cells_at hk2 3
    have y0 := cells_at hk3 0
    have y1 := cells_at hk3 1
    simp only [List.getElem?_toArray, List.getElem?_cons_succ, List.getElem?_cons_zero] at z0 z1 z2 z3 y0 y1
    have hS := sameLines_any q1 q2
    rw [show decide (ln = ln) = true from decide_eq_true rfl] at hS
    have hbel := Hb1.out.trans (hB13.mono Hb1.out.size)
    have Hk2 := Lib.hid hk2; have Hk3 := Lib.hid hk3; have HB2 := Lib.hid hB2; have HB3 := Lib.hid hB3; have HB13 := Lib.hid hB13; have Hq1 := Lib.hid q1; have Hq2 := Lib.hid q2; have Hb3 := Lib.hid hb3; have Hbel := Lib.hid hbel; have HS := Lib.hid hS; clear hk2 hk3 hB2 hB3 hB13 q1 q2 hb3 hbel hS
    go_wp2_with fail
    refine HS.out.mono ?_
    rintro e w4 ⟨rfl, m, rfl⟩
    go_wp2_with fail
    go_ret
    exact ⟨rfl, bel_drewN Hbel.out m⟩
end Go.Proofs.Ytoljhahmmdibfaa
