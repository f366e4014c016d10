/- The walk of cooperlaw04.fixed: two variants, their settings. No condition. -/
import Derived.Test.YtnelgellbabkoaaVarD
import Derived.Laws.StructEq
namespace Go.Proofs.Ytnelgellbabkoaa
open Go.RowKit Go.Shelf
attribute [local go_sem ↓] Go.wp_at_zero Go.wp_at_succ

def ex04 : List Var := [(⟨#[120]⟩, [⟨#[111, 110]⟩, ⟨#[111, 102, 102]⟩]), (⟨#[121]⟩, [⟨#[49]⟩, ⟨#[50]⟩])]
theorem texts_two {W : World} {b : Nat} {s t : ByteArray} {ty : TypeId} {fr : Nat × Nat} (h : W.heap[b]? = some (.cells #[.string s, .string t] ty fr)) (hs : s.size ≤ maxLen) (ht : t.size ≤ maxLen) : RSs W [.slice (some ⟨b, 0, none⟩) 2 2] [s, t] := by
  refine ⟨_, _, rfl, Nat.le_refl _, (by decide : 2 ≤ maxLen), fun i a hi => ?_⟩
  match i, hi with
  | 0, hi => simp at hi; subst hi; exact ⟨b, 0, [.string s], rfl, rfl, fun j u hj => by match j, hj with | 0, hj => simp at hj; subst hj; simpa using cells_at h 0, rfl, hs⟩
  | 1, hi => simp at hi; subst hi; exact ⟨b, 0, [.string t], rfl, rfl, fun j u hj => by match j, hj with | 0, hj => simp at hj; subst hj; simpa using cells_at h 1, rfl, ht⟩
theorem vars_two {W : World} {b : Nat} {s t : ByteArray} {u v : Value} {l m : List ByteArray} {ty : TypeId} {fr : Nat × Nat} (h : W.heap[b]? = some (.cells #[.string s, u, .string t, v] ty fr)) (hs : s.size ≤ maxLen) (ht : t.size ≤ maxLen) (hu : RSs W [u] l) (hv : RSs W [v] m) : RVars W [.slice (some ⟨b, 0, none⟩) 2 2] [(s, l), (t, m)] := by
  refine ⟨_, _, rfl, Nat.le_refl _, (by decide : 2 ≤ maxLen), fun i a hi => ?_⟩
  match i, hi with
  | 0, hi =>
    simp at hi; subst hi
    exact ⟨b, 0, [.string s, u], rfl, rfl, fun j x hj => by
      match j, hj with
      | 0, hj => simp at hj; subst hj; simpa using cells_at h 0
      | 1, hj => simp at hj; subst hj; simpa using cells_at h 1, _, rfl, hs, hu⟩
  | 1, hi =>
    simp at hi; subst hi
    exact ⟨b, 0, [.string t, v], rfl, rfl, fun j x hj => by
      match j, hj with
      | 0, hj => simp at hj; subst hj; simpa using cells_at h 2
      | 1, hj => simp at hj; subst hj; simpa using cells_at h 3, _, rfl, ht, hv⟩
theorem set_eqs (s t a b : ByteArray) (W : World) : (binOp .eql 38 (.agg #[.string s, .string t]) (.agg #[.string a, .string b])).run Try.prog W = .ok (.bool (decide (s = a) && decide (t = b))) W := by
  have u9 := Try.underlying9
  have hS : Try.prog.underlying 38 = some (.struct (Try.prog.fieldsOf 38)) := by kernel_rfl
  have hp : Try.prog.stoodInHeld 38 = false := by kernel_rfl
  rw [run_eql_struct, show (10000 : Nat) = 9999 + 1 from rfl, run_equalIn_agg W 9999 38 _ _ hS hp]
  simp only [Program.fieldsOf, Try.underlying38]
  go_simp
  have e : ∀ x y : ByteArray, (x.toList == y.toList) = decide (x = y) := fun x y => by
    rw [ByteArray.toList_eq, ByteArray.toList_eq]
    by_cases h : x = y
    · subst h; simp
    · have : x.data.toList ≠ y.data.toList := fun e => h (ByteArray.ext (Array.ext' e))
      simpa [h] using fun e => this (congrArg Array.toList e)
  have e1 := e s a
  have e2 := e t b
  by_cases h1 : s = a <;> by_cases h2 : t = b <;> simp [h1, h2] at e1 e2 ⊢ <;> simp_all
set_option maxRecDepth 10000 in
set_option maxHeartbeats 1000000 in
theorem fixed04 (w : World) : Calls Try.prog 16 #[] w fun e w' => e = .returned (.bool true) ∧ Below w.heap.size w w' := by
  obtain ⟨W3, hW3⟩ : ∃ W3, W3 = ((w.alloc (.cells #[.string ⟨#[111, 110]⟩, .string ⟨#[111, 102, 102]⟩] 9)).alloc (.cells #[.string ⟨#[49]⟩, .string ⟨#[50]⟩] 9)).alloc (.cells #[.string ⟨#[120]⟩, .slice (some ⟨w.heap.size, 0, none⟩) 2 2, .string ⟨#[121]⟩, .slice (some ⟨w.heap.size + 1, 0, none⟩) 2 2] 35) := ⟨_, rfl⟩
  have hb1 := below_alloc1 w (.cells #[.string ⟨#[111, 110]⟩, .string ⟨#[111, 102, 102]⟩] 9)
  have hb2 := hb1.alloc hb1.size (.cells #[.string ⟨#[49]⟩, .string ⟨#[50]⟩] 9)
  have hb3 : Below w.heap.size w W3 := by rw [hW3]; exact hb2.alloc hb2.size _
  have hr : RVars W3 [.slice (some ⟨w.heap.size + 1 + 1, 0, none⟩) 2 2] ex04 := by
    rw [hW3]
    refine vars_two (heap_new_at (by simp)) (by decide) (by decide) ?_ ?_
    · exact stays_slice stays_str _ _ _ _ (stays_slice stays_str _ _ _ _ (texts_two (heap_alloc_new _ _) (by decide) (by decide)) (below_alloc1 _ _)) (below_alloc1 _ _)
    · exact stays_slice stays_str _ _ _ _ (texts_two (heap_new_at (by simp)) (by decide) (by decide)) (below_alloc1 _ _)
  have hU := usual_any hr (by decide)
  have eU : usualOf ex04 = [(⟨#[120]⟩, ⟨#[111, 110]⟩), (⟨#[121]⟩, ⟨#[49]⟩)] := by kernel_rfl
  have hA := fun (W : World) (hW : Below W3.heap.size W3 W) => all_any (stays_slice stays_var _ _ _ _ hr hW) (by decide +kernel : mayOf ex04 = true)
  have eA : (allOf ex04).length = 4 := by kernel_rfl
  rw [eU] at hU
  have q1 := set_eqs ⟨#[120]⟩ ⟨#[111, 110]⟩ ⟨#[120]⟩ ⟨#[111, 110]⟩
  have q2 := set_eqs ⟨#[121]⟩ ⟨#[49]⟩ ⟨#[121]⟩ ⟨#[49]⟩
  simp only [decide_true, Bool.and_true] at q1 q2
  have Hb1 := Lib.hid hb1; have Hb2 := Lib.hid hb2; have Hb3 := Lib.hid hb3; have Hr := Lib.hid hr; have HU := Lib.hid hU; have HA := Lib.hid hA; have HeA := Lib.hid eA; have HeU := Lib.hid eU; clear hb1 hb2 hb3 hr hU hA eA eU
  go_enter Try.func16, Try.ntmps16
  go_wp2_with fail
  rw [← hW3]
  have HW3 := Lib.hid hW3; clear hW3
  refine HU.out.mono ?_
  rintro e W4 ⟨o, rfl, h1, hb4⟩
  obtain ⟨g, cap, rfl, _, _, _, _, hc⟩ := ownsRow_some h1 (by simp)
  have d0 := hc 0 _ rfl
  have d1 := hc 1 _ rfl
  have d2 := hc 2 _ rfl
  have d3 := hc 3 _ rfl
  have hA4 := HA.out W4 hb4
  have hl : ([(⟨#[120]⟩, ⟨#[111, 110]⟩), (⟨#[121]⟩, ⟨#[49]⟩)] : List Setg).length = 2 := rfl
  rw [hl]
  have hb5 := Hb3.out.trans (hb4.mono Hb3.out.size)
  clear hl hc
  have H1 := Lib.hid h1; have Hb4 := Lib.hid hb4; have HA4 := Lib.hid hA4; have Hb5 := Lib.hid hb5; clear h1 hb4 hA4 hb5
  go_wp2_with fail
  refine HA4.out.mono ?_
  rintro e W5 ⟨o5, vs5, rfl, hs5, hb6⟩
  have hrow := hs5.row
  obtain ⟨a5, c5, rfl⟩ := own_shape hrow
  rw [HeA.out]
  have e0 := cell_later hb6 d0
  have e1 := cell_later hb6 d1
  have e2 := cell_later hb6 d2
  have e3 := cell_later hb6 d3
  have hb7 := Hb5.out.trans (hb6.mono Hb5.out.size)
  have Hs5 := Lib.hid hs5; have Hb6 := Lib.hid hb6; have Hrow := Lib.hid hrow; have Hd0 := Lib.hid d0; have Hd1 := Lib.hid d1; have Hd2 := Lib.hid d2; have Hd3 := Lib.hid d3; have Hb7 := Lib.hid hb7; clear hs5 hb6 hrow d0 d1 d2 d3 hb7
  go_wp2_with fail
  go_ret
  exact ⟨rfl, Hb7.out⟩
end Go.Proofs.Ytnelgellbabkoaa
