/- The walks of the lexer: ends, breaks, begins, takes. Condition: nothing is great. -/
import Derived.Test.YtoljhahmmdibfaaLexK
import Derived.Laws.BytesArg
import Derived.Test.YtoljhahmmdibfaaKit
namespace Go.Proofs.Ytoljhahmmdibfaa
open Go.RowKit
open LexM (Bs Wd Ln St)

theorem ofNat_toNat (c : UInt8) : UInt8.ofNat ((c.toNat : Int)).toNat = c := by simp
theorem strOf (s : Bs) : strOfNums (s.map fun c => ((c.toNat : Int))) = ⟨s.toArray⟩ := by
  unfold strOfNums
  congr 2
  rw [List.map_map]
  conv => rhs; rw [← List.map_id s]
  apply List.map_congr_left
  intro c _
  simp
/-- a row of bytes as a string -/
theorem conv_bytes {w : World} {B : Nat} {v : Value} {s : Bs} (h : w.ownsRow B 5 1 v s.length (byVals s)) (hs : s ≠ []) : (convert 67 9 v).run Try.prog w = .ok (bv s) w := by
  have hpos := List.length_pos_iff.2 hs
  obtain ⟨g, cap, rfl, _, _, hn, hm, hc⟩ := ownsRow_some h hpos
  have := run_convert_bytes_arg (P := Try.prog) (w := w) 67 5 Try.underlying67 Try.underlying5 g 0 s.length cap (s.map fun c => ((c.toNat : Int))) (by simp) (fun i hi => by
    have h1 : (byVals s)[i]? = some (.int .u8 (s[i].toNat : Int)) := by simp [byVals, hi]
    rw [Nat.zero_add, hc i _ h1]
    simp [List.getD, hi]) 9 Try.underlying9
  rw [this, strOf]

theorem frm_cell {x : Nat} {a w : World} (h : Frm (fun k => k = x) a w) (i : Nat) (u : Value) : Frm (fun k => k = x) a (w.setCell ⟨x, i, none⟩ u) := Frm.setCell (S := fun k => k = x) h (p := ⟨x, i, none⟩) (.inr rfl) u
theorem grown_drew {w w' : World} {row : Option Nat} (h : w.drew.grownBy w' row) : w.grownBy w' row := ⟨h.os, h.tape, h.output, h.size, h.block⟩
theorem LexSt.setEnds {w0 w : World} {x : Nat} {s : St} {wv sv ov : Value} {rv : List Value} (h : LexSt w0 x s wv sv ov rv w) :
    LexSt w0 x { s with frm := 0, word := [] } (.slice none 0 0) sv ov rv ((w.setCell ⟨x, 2, none⟩ (.int .i64 0)).setCell ⟨x, 4, none⟩ (.slice none 0 0)) := by
  have f1 : Frm (fun k => k = x) w (w.setCell ⟨x, 2, none⟩ (.int .i64 0)) := Frm.setCell (S := fun k => k = x) (Frm.refl _ _) (p := ⟨x, 2, none⟩) (.inr rfl) _
  have f2 := Frm.setCell f1 (p := ⟨x, 4, none⟩) (.inr rfl) (.slice none 0 0)
  refine h.to f2 ?_ (.inr ⟨rfl, rfl⟩) (.inl ⟨rfl, rfl⟩) rfl
  have h1 := heap_setCell_same w x 2 _ _ (.int .i64 0) h.cells
  rw [heap_setCell_same _ x 4 _ _ (.slice none 0 0) h1]
  rfl

abbrev lexp (x : Nat) : Value := .pointer (some ⟨x, 0, none⟩)
/-- the lexer's state behind a call that tells nothing -/
def LexDone (w0 : World) (x : Nat) (s : St) (e : Ending) (w' : World) : Prop := e = .returned (.tuple #[]) ∧ ∃ wv sv ov rv, LexSt w0 x s wv sv ov rv w'

theorem lexdone {w0 w : World} {x : Nat} {s s' : St} {wv sv ov : Value} {rv : List Value} (h : LexSt w0 x s' wv sv ov rv w) (e : s' = s) : LexDone w0 x s (.returned (.tuple #[])) w := ⟨rfl, wv, sv, ov, rv, e ▸ h⟩

set_option maxHeartbeats 1000000 in
theorem ends_some {w0 w : World} {x : Nat} {s : St} {wv sv ov : Value} {rv : List Value} (h : LexSt w0 x s wv sv ov rv w) {m : Nat} (hm : m ≤ 1000000) (hs : Small s m) (hf : 0 < s.frm) :
    Calls Try.prog 64 #[lexp x] w (LexDone w0 x (LexM.ends s)) := by
  have hne := hs.begun hf
  have hwl := hs.words
  have hB := h.bel.size
  have hcv : (convert 67 9 wv).run Try.prog w.drew = .ok (bv s.word) w.drew := conv_bytes (w := w.drew) h.word hne
  have hnx := apart_block h.words h.cells (by decide)
  have c2 := cells_at h.cells 2
  have c4 := cells_at h.cells 4
  have c5 := cells_at h.cells 5
  simp only [lexCells, List.getElem?_toArray, List.getElem?_cons_succ, List.getElem?_cons_zero] at c2 c4 c5
  have a5 : ∀ o : Obj, (w.alloc o).cell? ⟨x, 5, none⟩ = some sv := fun o => ((Frm.refl _ w).alloc o).keep c5
  have hwd : (w.drew).ownsRow w0.heap.size 91 2 sv s.words.length (s.words.flatMap wdCells) := h.words
  have hBd : w0.heap.size ≤ w.drew.heap.size := hB
  have Hh := Lib.hid h; have Hwd := Lib.hid hwd; have Hnx := Lib.hid hnx; have Hs := Lib.hid hs; clear h hwd hnx hs
  go_enter Try.func64, Try.ntmps64
  go_wp2_with fail
  go_region_law (refine step_append_some elem_word (w := w.drew) rfl (.tmp 11) (.tmp 22) rfl w0.heap.size sv s.words.length (s.words.flatMap wdCells) rfl Hwd.out 1 (by decide) #[.int .i64 s.frm, bv s.word] rfl rfl (by simp [Value.oneCell', bv]) (by omega) (by unfold maxLen; omega) hBd ?_; intro g8 c8 w8 hown8 hg8 hm8; have hc8 := heap_to Hh.out.cells ((Frm.drew (Frm.refl _ w)).grown hg8 (S := fun k => sv.ownBlock = some k) (fun k hk => .inr hk)) Hnx.out; have d5 := cells_at hc8 5; have e5 := frozen_at hc8 5; simp only [lexCells, List.getElem?_toArray, List.getElem?_cons_succ, List.getElem?_cons_zero] at d5)
  all_goals
    have hP := Hh.out.pushWord (s.frm, s.word) hown8 (grown_drew hg8) (fun k hk => hm8 k hk)
    obtain ⟨w9, hw9⟩ : ∃ w9, w9 = w8.setCell ⟨x, 5, none⟩ (.slice (some ⟨g8, 0, none⟩) (s.words.length + 1) c8) := ⟨_, rfl⟩
    rw [← hw9] at hP ⊢
    have z2 := frozen_at hP.cells 2
    have z4 := frozen_at hP.cells 4
    have y2 := cells_at hP.cells 2
    have y4 := cells_at hP.cells 4
    simp only [lexCells, List.getElem?_toArray, List.getElem?_cons_succ, List.getElem?_cons_zero] at y2 y4
    have hL := hP.setEnds
    have HP := Lib.hid hP; have HL := Lib.hid hL; clear hP hL
    clear hown8 hg8 hm8 hc8 d5 e5 hw9 c2 c4 c5 a5 hcv
    go_wp2_with fail
    go_end0
    exact lexdone HL.out (by unfold LexM.ends; rw [if_pos hf])

set_option maxHeartbeats 400000 in
theorem ends_none {w0 w : World} {x : Nat} {s : St} {wv sv ov : Value} {rv : List Value} (h : LexSt w0 x s wv sv ov rv w) (hf : ¬ 0 < s.frm) :
    Calls Try.prog 64 #[lexp x] w (LexDone w0 x (LexM.ends s)) := by
  have z2 := frozen_at h.cells 2
  have z4 := frozen_at h.cells 4
  have y2 := cells_at h.cells 2
  have y4 := cells_at h.cells 4
  simp only [lexCells, List.getElem?_toArray, List.getElem?_cons_succ, List.getElem?_cons_zero] at y2 y4
  have hL := h.setEnds
  have Hh := Lib.hid h; have HL := Lib.hid hL; clear h hL
  go_enter Try.func64, Try.ntmps64
  go_wp2_with fail
  go_end0
  exact lexdone HL.out (by unfold LexM.ends; rw [if_neg (by omega)])
theorem ends_any {w0 w : World} {x : Nat} {s : St} {wv sv ov : Value} {rv : List Value} (h : LexSt w0 x s wv sv ov rv w) {m : Nat} (hm : m ≤ 1000000) (hs : Small s m) :
    Calls Try.prog 64 #[lexp x] w (LexDone w0 x (LexM.ends s)) := by
  by_cases hf : 0 < s.frm
  · exact ends_some h hm hs hf
  · exact ends_none h hf
end Go.Proofs.Ytoljhahmmdibfaa
