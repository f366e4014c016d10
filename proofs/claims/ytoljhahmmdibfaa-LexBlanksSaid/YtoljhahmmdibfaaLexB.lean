/- The walks of the lexer: breaks. Condition: nothing is great. -/
import Derived.Test.YtoljhahmmdibfaaLexW
namespace Go.Proofs.Ytoljhahmmdibfaa
open Go.RowKit
open LexM (Bs Wd Ln St)

theorem ends_len (s : St) (m : Nat) (h : s.words.length ≤ m) : (LexM.ends s).words.length ≤ m + 1 := by
  unfold LexM.ends
  dsimp only
  split <;> (try simp) <;> omega
set_option maxHeartbeats 1000000 in
/-- breaks, where there are words -/
theorem breaks_some {w0 w : World} {x : Nat} {s : St} {wv sv ov : Value} {rv : List Value} (h : LexSt w0 x s wv sv ov rv w) {m : Nat} (hm : m ≤ 1000000) (hs : Small s m) (hw : (LexM.ends s).words ≠ []) :
    Calls Try.prog 46 #[lexp x] w (LexDone w0 x (LexM.breaks s)) := by
  have HE := Lib.hid (ends_any h hm hs)
  have hso := hs.out
  have hsl := hs.line
  have hlen := ends_len s m hs.words
  have hpos := List.length_pos_iff.2 hw
  have Hh := Lib.hid h; have Hs := Lib.hid hs; have Hw := Lib.hid hw; clear h hs hw
  go_enter Try.func46, Try.ntmps46
  go_wp2_with fail
  refine HE.out.mono ?_
  rintro e w1 ⟨rfl, wv1, sv1, ov1, rv1, h1⟩
  have hB := h1.bel.size
  have hnx := apart_block h1.out h1.cells (by decide)
  obtain ⟨sa, sc, rfl⟩ := own_shape h1.words
  have c0 := cells_at h1.cells 0
  have c5 := cells_at h1.cells 5
  have c6 := cells_at h1.cells 6
  simp only [lexCells, LexM.ends, List.getElem?_toArray, List.getElem?_cons_succ, List.getElem?_cons_zero] at c0 c5 c6
  obtain ⟨ws, hws⟩ : ∃ ws, ws = (LexM.ends s).words := ⟨_, rfl⟩
  have c5' : w1.cell? ⟨x, 5, none⟩ = some (.slice sa ws.length sc) := by rw [hws]; exact c5
  rw [← hws] at hpos hlen
  have a6 : ∀ o : Obj, (w1.alloc o).cell? ⟨x, 6, none⟩ = some ov1 := fun o => ((Frm.refl _ w1).alloc o).keep c6
  have hwd : (w1.drew).ownsRow w0.heap.size 58 2 ov1 s.out.length (lnCells s.out rv1) := h1.out
  have hBd : w0.heap.size ≤ w1.drew.heap.size := hB
  have H1 := Lib.hid h1; have Hwd := Lib.hid hwd; have Hnx := Lib.hid hnx; have Hws := Lib.hid hws; clear h1 hwd hnx hws
  clear c5
  go_wp2_with fail
  go_region_law (refine step_append_some elem_line (w := w1.drew) rfl (.tmp 14) (.tmp 24) rfl w0.heap.size ov1 s.out.length (lnCells s.out rv1) rfl Hwd.out 1 (by decide) #[.int .i64 s.line, .slice sa ws.length sc] rfl rfl (by simp [Value.oneCell']) (by omega) (by unfold maxLen; omega) hBd ?_; intro g8 c8 w8 hown8 hg8 hm8; have hc8 := heap_to H1.out.cells ((Frm.drew (Frm.refl _ w1)).grown hg8 (S := fun k => ov1.ownBlock = some k) (fun k hk => .inr hk)) Hnx.out; have d6 := cells_at hc8 6; have e6 := frozen_at hc8 6; simp only [lexCells, LexM.ends, List.getElem?_toArray, List.getElem?_cons_succ, List.getElem?_cons_zero] at d6)
  all_goals
    have d0 := cells_at hc8 0
    have d1 := cells_at hc8 1
    have d3 := cells_at hc8 3
    have d5 := cells_at hc8 5
    have e0 := frozen_at hc8 0
    have e1 := frozen_at hc8 1
    have e3 := frozen_at hc8 3
    have e5 := frozen_at hc8 5
    simp only [lexCells, LexM.ends, List.getElem?_toArray, List.getElem?_cons_succ, List.getElem?_cons_zero] at d0 d1 d3 d5
    have hcells := hc8
    have hl1 : -9223372036854775808 ≤ s.line + 1 ∧ s.line + 1 ≤ 9223372036854775807 := by omega
    have Hown8 := Lib.hid hown8; have Hg8 := Lib.hid hg8; have Hcells := Lib.hid hcells; clear hown8 hg8 hcells
    clear hm8 hc8 c0 c5' c6 a6
    go_wp2_with fail
    go_end0
    have hS : LexM.breaks s = { (LexM.ends s) with out := s.out ++ [(s.line, (LexM.ends s).words)], words := [], off := false, line := s.line + 1, col := 0 } := by
      unfold LexM.breaks
      rw [if_neg Hw.out]
    refine lexdone (H1.out.pushLine (s' := LexM.breaks s) (by have := Hown8.out; rw [Hws.out] at this; exact this) (grown_drew Hg8.out) ?_ ?_ ?_ ?_ ?_) rfl
    · exact frm_cell (frm_cell (frm_cell (frm_cell (frm_cell (Frm.refl _ w8) 6 _) 5 _) 3 _) 0 _) 1 _
    · rw [hS]
      have k0 := heap_setCell_same _ x 6 _ _ (.slice (some ⟨g8, 0, none⟩) (s.out.length + 1) c8) Hcells.out
      have k1 := heap_setCell_same _ x 5 _ _ (.slice none 0 0) k0
      have k2 := heap_setCell_same _ x 3 _ _ (.bool false) k1
      have k3 := heap_setCell_same _ x 0 _ _ (.int .i64 (s.line + 1)) k2
      have k4 := heap_setCell_same _ x 1 _ _ (.int .i64 0) k3
      rw [k4]
      rfl
    · rw [hS]
    · rw [hS]
    · rw [hS]; rfl

set_option maxHeartbeats 1000000 in
/-- breaks, where there are none -/
theorem breaks_none {w0 w : World} {x : Nat} {s : St} {wv sv ov : Value} {rv : List Value} (h : LexSt w0 x s wv sv ov rv w) {m : Nat} (hm : m ≤ 1000000) (hs : Small s m) (hw : (LexM.ends s).words = []) :
    Calls Try.prog 46 #[lexp x] w (LexDone w0 x (LexM.breaks s)) := by
  have HE := Lib.hid (ends_any h hm hs)
  have hsl := hs.line
  have Hh := Lib.hid h; have Hs := Lib.hid hs; have Hw := Lib.hid hw; clear h hs hw
  go_enter Try.func46, Try.ntmps46
  go_wp2_with fail
  refine HE.out.mono ?_
  rintro e w1 ⟨rfl, wv1, sv1, ov1, rv1, h1⟩
  obtain ⟨sa, sc, rfl⟩ := own_shape h1.words
  have hcells := h1.cells
  rw [Hw.out] at hcells
  have d0 := cells_at hcells 0
  have d1 := cells_at hcells 1
  have d3 := cells_at hcells 3
  have d5 := cells_at hcells 5
  have e0 := frozen_at hcells 0
  have e1 := frozen_at hcells 1
  have e3 := frozen_at hcells 3
  have e5 := frozen_at hcells 5
  simp only [lexCells, LexM.ends, List.getElem?_toArray, List.getElem?_cons_succ, List.getElem?_cons_zero, List.length_nil] at d0 d1 d3 d5
  have hl1 : -9223372036854775808 ≤ s.line + 1 ∧ s.line + 1 ≤ 9223372036854775807 := by omega
  have H1 := Lib.hid h1; have Hcells := Lib.hid hcells; clear h1 hcells
  go_wp2_with fail
  go_end0
  have hS : LexM.breaks s = { (LexM.ends s) with out := s.out, words := [], off := false, line := s.line + 1, col := 0 } := by
    unfold LexM.breaks
    rw [if_pos Hw.out]
  refine lexdone (H1.out.to (s' := LexM.breaks s) (wv' := wv1) (sv' := .slice none 0 0) ?_ ?_ (.inl ⟨rfl, ?_⟩) (.inr ⟨rfl, ?_⟩) ?_) rfl
  · exact frm_cell (frm_cell (frm_cell (frm_cell (Frm.refl _ w1) 5 _) 3 _) 0 _) 1 _
  · rw [hS]
    have k1 := heap_setCell_same _ x 5 _ _ (.slice none 0 0) Hcells.out
    have k2 := heap_setCell_same _ x 3 _ _ (.bool false) k1
    have k3 := heap_setCell_same _ x 0 _ _ (.int .i64 (s.line + 1)) k2
    have k4 := heap_setCell_same _ x 1 _ _ (.int .i64 0) k3
    rw [k4]
    rfl
  · rw [hS]
  · rw [hS]
  · rw [hS]; rfl
theorem breaks_any {w0 w : World} {x : Nat} {s : St} {wv sv ov : Value} {rv : List Value} (h : LexSt w0 x s wv sv ov rv w) {m : Nat} (hm : m ≤ 1000000) (hs : Small s m) :
    Calls Try.prog 46 #[lexp x] w (LexDone w0 x (LexM.breaks s)) := by
  by_cases hw : (LexM.ends s).words = []
  · exact breaks_none h hm hs hw
  · exact breaks_some h hm hs hw
end Go.Proofs.Ytoljhahmmdibfaa
