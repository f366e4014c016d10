/- The walks of luby.New, of Conflict and Restarts, and of LubyPace. No condition. -/
import Derived.Test.YtoljhahmmdibfaaLubyN
import Derived.Test.YtoljhahmmdibfaaLubyR
import Derived.Test.YtoljhahmmdibfaaOpen
import Derived.BigRegion
namespace Go.Proofs.Ytoljhahmmdibfaa
open Go.RowKit LubyM

theorem cell_blk' {w : World} {p : Nat} {cs : Array Value} {t : TypeId} {fr : Nat × Nat} (h : w.heap[p]? = some (.cells cs t fr)) (i : Nat) : w.cell? ⟨p, i, none⟩ = cs[i]? := cell_of_row w p i cs t fr h
theorem froz_blk' {w : World} {p : Nat} {cs : Array Value} {t : TypeId} (h : w.heap[p]? = some (.cells cs t (0, 0))) (i : Nat) : w.frozen? ⟨p, i, none⟩ = false := frozen_of_row w p i cs t h

/-- block p is a pace -/
def IsPace (w : World) (p : Nat) (u left turns keep : Int) : Prop := w.heap[p]? = some (.cells #[.int .i64 u, .int .i64 left, .int .i64 turns, .int .i64 keep] 99 (0, 0))
def MX : Int := 9223372036854775807
def timesOf (a b : Int) : Int := min (a * b) 9223372036854775807

set_option maxHeartbeats 400000 in
theorem times_any (a b : Int) (w : World) (ha : 1 ≤ a ∧ a ≤ 9223372036854775807) (hb : 1 ≤ b ∧ b ≤ 9223372036854775807) :
    Calls Try.prog 48 #[.int .i64 a, .int .i64 b] w fun e w' => e = .returned (.int .i64 (timesOf a b)) ∧ w = w' := by
  have hb0 : 0 < b := by omega
  have hdiv : (9223372036854775807 : Int) / b < a ↔ 9223372036854775807 < a * b := by
    rw [Int.ediv_lt_iff_lt_mul hb0]
  by_cases h : (9223372036854775807 : Int) / b < a
  · have ht : timesOf a b = 9223372036854775807 := by unfold timesOf; have := hdiv.1 h; omega
    have HT := Lib.hid ht; have HD := Lib.hid hdiv; clear ht hdiv
    go_enter Try.func48, Try.ntmps48
    go_wp2_with fail
    go_ret
    exact ⟨by rw [HT.out]; rfl, rfl⟩
  · have hle : a * b ≤ 9223372036854775807 := by have := mt hdiv.2 h; omega
    have ht : timesOf a b = a * b := by unfold timesOf; omega
    have hpos : 0 ≤ a * b := Int.mul_nonneg (by omega) (by omega)
    have HT := Lib.hid ht; have HD := Lib.hid hdiv; clear ht hdiv
    go_enter Try.func48, Try.ntmps48
    go_wp2_with fail
    go_ret
    exact ⟨by rw [HT.out]; rfl, rfl⟩

set_option maxHeartbeats 400000 in
theorem pace_new (a b : Int) (w : World) : Calls Try.prog 36 #[.int .i64 a, .int .i64 b] w fun e w' => e = .returned (.pointer (some ⟨w.heap.size, 0, none⟩)) ∧ IsPace w' w.heap.size (max a 1) (max a 1) 0 (max b 1) ∧ Below w.heap.size w w' := by
  obtain ⟨x, hx⟩ : ∃ x, x = max a 1 := ⟨_, rfl⟩
  obtain ⟨y, hy⟩ : ∃ y, y = max b 1 := ⟨_, rfl⟩
  rw [← hx, ← hy]
  by_cases h1 : 1 < a <;> by_cases h2 : 1 < b
  all_goals
    have HX := Lib.hid hx; have HY := Lib.hid hy; clear hx hy
    go_enter Try.func36, Try.ntmps36
    go_wp2_with fail
    go_ret
    refine ⟨rfl, ?_, (Below.refl _ _).alloc (Nat.le_refl _) _⟩
    have e1 := HX.out
    have e2 := HY.out
    unfold IsPace
    rw [heap_alloc_new]
    congr
    all_goals omega

theorem restarts_any {w : World} {p : Nat} {u left turns keep : Int} (h : IsPace w p u left turns keep) : Calls Try.prog 35 #[.pointer (some ⟨p, 0, none⟩)] w fun e w' => e = .returned (.int .i64 turns) ∧ w = w' := by
  have c2 := cell_blk' h 2
  simp only [List.getElem?_toArray, List.getElem?_cons_succ, List.getElem?_cons_zero] at c2
  clear h
  go_enter Try.func35, Try.ntmps35
  go_wp2
  go_ret
  exact ⟨rfl, rfl⟩

def leftOf (u left turns : Int) : Int := if left = 1 then timesOf u (rowOf (turns + 1 + 1)) else left - 1
def turnsOf (left turns : Int) : Int := if left = 1 then turns + 1 else turns
def keepOf (keep n : Int) : Int := if keep < n then keep + min (keep / 2 + 1) (9223372036854775807 - keep) else keep
def ConfPost (w : World) (p : Nat) (u left turns keep n : Int) (e : Ending) (w' : World) : Prop :=
  e = .returned (.tuple #[.bool (decide (left = 1)), .bool (decide (keep < n))]) ∧ IsPace w' p u (leftOf u left turns) (turnsOf left turns) (keepOf keep n) ∧ Frm (fun k => k = p) w w'

theorem confPost_mk {w : World} {p : Nat} {u left turns keep n l' t' k' : Int} {x y : Bool} (W : World) (hx : x = decide (left = 1)) (hy : y = decide (keep < n)) (h1 : l' = leftOf u left turns) (h2 : t' = turnsOf left turns) (h3 : k' = keepOf keep n)
    (hp : IsPace W p u l' t' k') (hf : Frm (fun k => k = p) w W) : ConfPost w p u left turns keep n (.returned (.tuple #[.bool x, .bool y])) W := by
  subst hx hy h1 h2 h3
  exact ⟨rfl, hp, hf⟩
theorem pace_set {w : World} {p : Nat} {cs : Array Value} (h : w.heap[p]? = some (.cells cs 99 (0, 0))) (i : Nat) (u : Value) : (w.setCell ⟨p, i, none⟩ u).heap[p]? = some (.cells (cs.setIfInBounds i u) 99 (0, 0)) := heap_setCell_same w p i cs _ u h
theorem frm_set {w0 w : World} {p : Nat} (h : Frm (fun k => k = p) w0 w) (i : Nat) (u : Value) : Frm (fun k => k = p) w0 (w.setCell ⟨p, i, none⟩ u) := Frm.setCell (S := fun k => k = p) h (p := ⟨p, i, none⟩) (.inr rfl) u

set_option maxHeartbeats 1000000 in
theorem conflict_none {w : World} {p : Nat} {u left turns keep : Int} (h : IsPace w p u left turns keep) (n : Int) (hl : 2 ≤ left ∧ left ≤ 9223372036854775807) (hn : ¬ keep < n) :
    Calls Try.prog 34 #[.pointer (some ⟨p, 0, none⟩), .int .i64 n] w (ConfPost w p u left turns keep n) := by
  have c0 := cell_blk' h 0
  have c1 := cell_blk' h 1
  have c2 := cell_blk' h 2
  have c3 := cell_blk' h 3
  have f1 := froz_blk' h 1
  have f2 := froz_blk' h 2
  have f3 := froz_blk' h 3
  simp only [List.getElem?_toArray, List.getElem?_cons_succ, List.getElem?_cons_zero] at c0 c1 c2 c3
  have H := Lib.hid h
  have hpl := (Array.getElem?_eq_some_iff.1 h).1
  have ht : (left - 1 == 0) = false := by rw [beq_eq_false_iff_ne]; omega
  clear h
  go_enter Try.func34, Try.ntmps34
  go_wp2_with fail
  go_ret2
  show ConfPost w p u left turns keep n (.returned (.tuple #[.bool false, .bool false])) _
  refine confPost_mk _ (by simp; omega) (by simp; omega) (l' := left - 1) (t' := turns) (k' := keep) (by unfold leftOf; rw [if_neg (by omega)]) (by unfold turnsOf; rw [if_neg (by omega)]) (by unfold keepOf; rw [if_neg (by omega)]) ?_ (frm_set (Frm.refl _ _) _ _)
  exact pace_set H.out 1 _

set_option maxHeartbeats 1000000 in
theorem conflict_anew {w : World} {p : Nat} {u left turns keep : Int} (h : IsPace w p u left turns keep) (n : Int) (hu : 1 ≤ u ∧ u ≤ 9223372036854775807) (hl : left = 1) (htt : 0 ≤ turns ∧ turns ≤ 5000) (hn : ¬ keep < n) :
    Calls Try.prog 34 #[.pointer (some ⟨p, 0, none⟩), .int .i64 n] w (ConfPost w p u left turns keep n) := by
  subst hl
  have c0 := cell_blk' h 0
  have c1 := cell_blk' h 1
  have c2 := cell_blk' h 2
  have c3 := cell_blk' h 3
  have f1 := froz_blk' h 1
  have f2 := froz_blk' h 2
  have f3 := froz_blk' h 3
  simp only [List.getElem?_toArray, List.getElem?_cons_succ, List.getElem?_cons_zero] at c0 c1 c2 c3
  have H := Lib.hid h
  have hpl := (Array.getElem?_eq_some_iff.1 h).1
  clear h
  have hrow : 1 ≤ rowOf (turns + 1 + 1) ∧ rowOf (turns + 1 + 1) ≤ 9223372036854775807 := by
    unfold rowOf
    rw [if_neg (by omega)]
    have h1 := luby_pos (turns + 1 + 1).toNat (by omega)
    have h2 := luby_le (turns + 1 + 1).toNat
    omega
  go_enter Try.func34, Try.ntmps34
  go_wp2_with fail
  have hwr : IntKind.i64.wrap (turns + 1 + 1) = turns + 1 + 1 := IntWalk.i64_in _ (by omega)
  go_region_with (first | (go_at_call 26; refine (row_any _ _ (by omega)).mono ?_; rintro e w' ⟨rfl, rfl⟩) | (go_at_call 48; refine (times_any _ _ _ (by omega) (by omega)).mono ?_; rintro e w' ⟨rfl, rfl⟩))
  all_goals
    clear hwr
    go_wp2_with fail
    go_ret2
    show ConfPost w p u 1 turns keep n (.returned (.tuple #[.bool true, .bool (decide (keep < n))])) _
    refine confPost_mk _ (by simp) rfl (l' := timesOf u (rowOf (turns + 1 + 1))) (t' := turns + 1) (k' := keep) (by unfold leftOf; rw [if_pos rfl]) (by unfold turnsOf; rw [if_pos rfl]) (by unfold keepOf; rw [if_neg (by omega)]) ?_ (Frm.drew (frm_set (frm_set (frm_set (Frm.refl _ _) _ _) _ _) _ _))
    exact pace_set (pace_set (pace_set H.out 1 _) 2 _) 1 _

set_option maxRecDepth 100000 in
set_option maxHeartbeats 2000000 in
theorem conflict_forget {w : World} {p : Nat} {u left turns keep : Int} (h : IsPace w p u left turns keep) (n : Int) (hl : 2 ≤ left ∧ left ≤ 9223372036854775807) (hk : 1 ≤ keep ∧ keep ≤ 9223372036854775807) (hn : keep < n) :
    Calls Try.prog 34 #[.pointer (some ⟨p, 0, none⟩), .int .i64 n] w (ConfPost w p u left turns keep n) := by
  have c0 := cell_blk' h 0
  have c1 := cell_blk' h 1
  have c2 := cell_blk' h 2
  have c3 := cell_blk' h 3
  have f1 := froz_blk' h 1
  have f2 := froz_blk' h 2
  have f3 := froz_blk' h 3
  simp only [List.getElem?_toArray, List.getElem?_cons_succ, List.getElem?_cons_zero] at c0 c1 c2 c3
  have H := Lib.hid h
  have hpl := (Array.getElem?_eq_some_iff.1 h).1
  have ht : (left - 1 == 0) = false := by rw [beq_eq_false_iff_ne]; omega
  clear h
  have w1 : IntKind.i64.wrap (keep.tdiv 2) = keep / 2 := IntWalk.i64_quo _ _ (by omega)
  have w2 : IntKind.i64.wrap (keep / 2 + 1) = keep / 2 + 1 := IntWalk.i64_in _ (by omega)
  have w3 : IntKind.i64.wrap (9223372036854775807 - keep) = 9223372036854775807 - keep := IntWalk.i64_in _ (by omega)
  have W1 := Lib.hid w1; have W2 := Lib.hid w2; have W3 := Lib.hid w3
  clear w1 w2 w3
  have w4 : IntKind.i64.wrap (keep + min (keep / 2 + 1) (9223372036854775807 - keep)) = keep + min (keep / 2 + 1) (9223372036854775807 - keep) := IntWalk.i64_in _ (by omega)
  have W4 := Lib.hid w4; clear w4
  go_enter Try.func34, Try.ntmps34
  go_wp2_with fail
  have w1 := W1.out; have w2 := W2.out; have w3 := W3.out; have w4 := W4.out
  go_region
  clear w1 w2 w3 w4
  go_wp2_with fail
  go_ret2
  show ConfPost w p u left turns keep n (.returned (.tuple #[.bool false, .bool true])) _
  refine confPost_mk _ (by simp; omega) (by simp; omega) (l' := left - 1) (t' := turns) (k' := keep + min (keep / 2 + 1) (9223372036854775807 - keep)) (by unfold leftOf; rw [if_neg (by omega)]) (by unfold turnsOf; rw [if_neg (by omega)]) (by unfold keepOf; rw [if_pos hn]) ?_ (Frm.drew (frm_set (frm_set (Frm.refl _ _) _ _) _ _))
  exact pace_set (pace_set H.out 1 _) 3 _

set_option maxHeartbeats 4000000 in
theorem conflict_both {w : World} {p : Nat} {u left turns keep : Int} (h : IsPace w p u left turns keep) (n : Int) (hu : 1 ≤ u ∧ u ≤ 9223372036854775807) (hl : left = 1) (htt : 0 ≤ turns ∧ turns ≤ 5000) (hk : 1 ≤ keep ∧ keep ≤ 9223372036854775807) (hn : keep < n) :
    Calls Try.prog 34 #[.pointer (some ⟨p, 0, none⟩), .int .i64 n] w (ConfPost w p u left turns keep n) := by
  subst hl
  have c0 := cell_blk' h 0
  have c1 := cell_blk' h 1
  have c2 := cell_blk' h 2
  have c3 := cell_blk' h 3
  have f1 := froz_blk' h 1
  have f2 := froz_blk' h 2
  have f3 := froz_blk' h 3
  simp only [List.getElem?_toArray, List.getElem?_cons_succ, List.getElem?_cons_zero] at c0 c1 c2 c3
  have H := Lib.hid h
  have hpl := (Array.getElem?_eq_some_iff.1 h).1
  clear h
  have hrow : 1 ≤ rowOf (turns + 1 + 1) ∧ rowOf (turns + 1 + 1) ≤ 9223372036854775807 := by
    unfold rowOf
    rw [if_neg (by omega)]
    have h1 := luby_pos (turns + 1 + 1).toNat (by omega)
    have h2 := luby_le (turns + 1 + 1).toNat
    omega
  have w1 : IntKind.i64.wrap (keep.tdiv 2) = keep / 2 := IntWalk.i64_quo _ _ (by omega)
  have w2 : IntKind.i64.wrap (keep / 2 + 1) = keep / 2 + 1 := IntWalk.i64_in _ (by omega)
  have w3 : IntKind.i64.wrap (9223372036854775807 - keep) = 9223372036854775807 - keep := IntWalk.i64_in _ (by omega)
  have W1 := Lib.hid w1; have W2 := Lib.hid w2; have W3 := Lib.hid w3
  clear w1 w2 w3
  have w4 : IntKind.i64.wrap (keep + min (keep / 2 + 1) (9223372036854775807 - keep)) = keep + min (keep / 2 + 1) (9223372036854775807 - keep) := IntWalk.i64_in _ (by omega)
  have W4 := Lib.hid w4; clear w4
  go_enter Try.func34, Try.ntmps34
  go_wp2_with fail
  have hwr : IntKind.i64.wrap (turns + 1 + 1) = turns + 1 + 1 := IntWalk.i64_in _ (by omega)
  go_region_with (first | (go_at_call 26; refine (row_any _ _ (by omega)).mono ?_; rintro e w' ⟨rfl, rfl⟩) | (go_at_call 48; refine (times_any _ _ _ (by omega) (by omega)).mono ?_; rintro e w' ⟨rfl, rfl⟩))
  all_goals
    clear hwr
    go_wp2_with fail
    have w1 := W1.out; have w2 := W2.out; have w3 := W3.out; have w4 := W4.out
    go_region
    clear w1 w2 w3 w4
    go_wp2_with fail
    go_ret2
    show ConfPost w p u 1 turns keep n (.returned (.tuple #[.bool true, .bool true])) _
    refine confPost_mk _ (by simp) (by simp; omega) (l' := timesOf u (rowOf (turns + 1 + 1))) (t' := turns + 1) (k' := keep + min (keep / 2 + 1) (9223372036854775807 - keep)) (by unfold leftOf; rw [if_pos rfl]) (by unfold turnsOf; rw [if_pos rfl]) (by unfold keepOf; rw [if_pos hn]) ?_ (Frm.drew (Frm.drew (frm_set (frm_set (frm_set (frm_set (Frm.refl _ _) _ _) _ _) _ _) _ _)))
    exact pace_set (pace_set (pace_set (pace_set H.out 1 _) 2 _) 1 _) 3 _

theorem conflict_any {w : World} {p : Nat} {u left turns keep : Int} (h : IsPace w p u left turns keep) (n : Int) (hu : 1 ≤ u ∧ u ≤ 9223372036854775807) (hl : 1 ≤ left ∧ left ≤ 9223372036854775807) (htt : 0 ≤ turns ∧ turns ≤ 5000) (hk : 1 ≤ keep ∧ keep ≤ 9223372036854775807) :
    Calls Try.prog 34 #[.pointer (some ⟨p, 0, none⟩), .int .i64 n] w (ConfPost w p u left turns keep n) := by
  by_cases h1 : left = 1
  · by_cases h2 : keep < n
    · exact conflict_both h n hu h1 htt hk h2
    · exact conflict_anew h n hu h1 htt h2
  · by_cases h2 : keep < n
    · exact conflict_forget h n (by omega) hk h2
    · exact conflict_none h n (by omega) h2
end Go.Proofs.Ytoljhahmmdibfaa
