/- Walks and plain facts. Texts merged: VarF, IdxSet, VarV, VarT, Rec, ChkF, BothA, IdxInt, CnfF, CnfS, VarW, BothB, BothC, BothF. Condition: none beyond what each says. -/
import Derived.Laws.StructEq
import Derived.Test.YtnelgellbabkoaaRows
import Derived.Test.YtnelgellbabkoaaShelf
import Derived.Lib.OwnBridge
import Derived.Test.YtnelgellbabkoaaVariantBothAll1
import Derived.Test.YtnelgellbabkoaaVariantBothAll2
/- The walk of cooperlaw04.fixed: two variants, their settings. No condition. -/
namespace Go.Proofs.Ytnelgellbabkoaa
open Go.RowKit Go.Shelf
attribute [local go_sem ↓] Go.wp_at_zero Go.wp_at_succ

def ex04 : List Var := [(⟨#[120]⟩, [⟨#[111, 110]⟩, ⟨#[111, 102, 102]⟩]), (⟨#[121]⟩, [⟨#[49]⟩, ⟨#[50]⟩])]
theorem texts_two {W : World} {b : Nat} {s t : ByteArray} {ty : TypeId} {fr : Nat × Nat} (h : W.heap[b]? = some (.cells #[.string s, .string t] ty fr)) (hs : s.size ≤ maxLen) (ht : t.size ≤ maxLen) : RSs W [.slice (some ⟨b, 0, none⟩) 2 2] [s, t] := by
  refine ⟨_, _, rfl, Nat.le_refl _, (by decide : 2 ≤ maxLen), fun i a hi => ?_⟩
  match i, hi with
  | 0, hi => simp at hi; subst hi; exact ⟨b, 0, [.string s], rfl, rfl, fun j u hj => by match j, hj with | 0, hj => simp at hj; subst hj; simpa using cells_at h 0, rfl, hs⟩
  | 1, hi => simp at hi; subst hi; exact ⟨b, 0, [.string t], rfl, rfl, fun j u hj => by match j, hj with | 0, hj => simp at hj; subst hj; simpa using cells_at h 1, rfl, ht⟩
theorem vars_two {W : World} {b : Nat} {s t : ByteArray} {u v : Value} {l m : List ByteArray} {ty : TypeId} {fr : Nat × Nat} (h : W.heap[b]? = some (.cells #[.string s, u, .string t, v] ty fr)) (hs : s.size ≤ maxLen) (ht : t.size ≤ maxLen) (hu : RSs W [u] l) (hv : RSs W [v] m) : RVars W [.slice (some ⟨b, 0, none⟩) 2 2] [(s, l), (t, m)] := by
  refine ⟨_, _, rfl, Nat.le_refl _, (by decide : 2 ≤ maxLen), fun i a hi => ?_⟩
  match i, hi with
  | 0, hi =>
    simp at hi; subst hi
    exact ⟨b, 0, [.string s, u], rfl, rfl, fun j x hj => by
      match j, hj with
      | 0, hj => simp at hj; subst hj; simpa using cells_at h 0
      | 1, hj => simp at hj; subst hj; simpa using cells_at h 1, _, rfl, hs, hu⟩
  | 1, hi =>
    simp at hi; subst hi
    exact ⟨b, 0, [.string t, v], rfl, rfl, fun j x hj => by
      match j, hj with
      | 0, hj => simp at hj; subst hj; simpa using cells_at h 2
      | 1, hj => simp at hj; subst hj; simpa using cells_at h 3, _, rfl, ht, hv⟩
theorem set_eqs (s t a b : ByteArray) (W : World) : (binOp .eql 38 (.agg #[.string s, .string t]) (.agg #[.string a, .string b])).run Try.prog W = .ok (.bool (decide (s = a) && decide (t = b))) W := by
  have u9 := Try.underlying9
  have hS : Try.prog.underlying 38 = some (.struct (Try.prog.fieldsOf 38)) := by kernel_rfl
  have hp : Try.prog.stoodInHeld 38 = false := by kernel_rfl
  rw [run_eql_struct, show (10000 : Nat) = 9999 + 1 from rfl, run_equalIn_agg W 9999 38 _ _ hS hp]
  simp only [Program.fieldsOf, Try.underlying38]
  go_simp
  have e : ∀ x y : ByteArray, (x.toList == y.toList) = decide (x = y) := fun x y => by
    rw [ByteArray.toList_eq, ByteArray.toList_eq]
    by_cases h : x = y
    · subst h; simp
    · have : x.data.toList ≠ y.data.toList := fun e => h (ByteArray.ext (Array.ext' e))
      simpa [h] using fun e => this (congrArg Array.toList e)
  have e1 := e s a
  have e2 := e t b
  by_cases h1 : s = a <;> by_cases h2 : t = b <;> simp [h1, h2] at e1 e2 ⊢ <;> simp_all
set_option maxRecDepth 10000 in
set_option maxHeartbeats 1000000 in
theorem fixed04 (w : World) : Calls Try.prog 16 #[] w fun e w' => e = .returned (.bool true) ∧ Below w.heap.size w w' := by
  obtain ⟨W3, hW3⟩ : ∃ W3, W3 = ((w.alloc (.cells #[.string ⟨#[111, 110]⟩, .string ⟨#[111, 102, 102]⟩] 9)).alloc (.cells #[.string ⟨#[49]⟩, .string ⟨#[50]⟩] 9)).alloc (.cells #[.string ⟨#[120]⟩, .slice (some ⟨w.heap.size, 0, none⟩) 2 2, .string ⟨#[121]⟩, .slice (some ⟨w.heap.size + 1, 0, none⟩) 2 2] 35) := ⟨_, rfl⟩
  have hb1 := below_alloc1 w (.cells #[.string ⟨#[111, 110]⟩, .string ⟨#[111, 102, 102]⟩] 9)
  have hb2 := hb1.alloc hb1.size (.cells #[.string ⟨#[49]⟩, .string ⟨#[50]⟩] 9)
  have hb3 : Below w.heap.size w W3 := by rw [hW3]; exact hb2.alloc hb2.size _
  have hr : RVars W3 [.slice (some ⟨w.heap.size + 1 + 1, 0, none⟩) 2 2] ex04 := by
    rw [hW3]
    refine vars_two (heap_new_at (by simp)) (by decide) (by decide) ?_ ?_
    · exact stays_slice stays_str _ _ _ _ (stays_slice stays_str _ _ _ _ (texts_two (heap_alloc_new _ _) (by decide) (by decide)) (below_alloc1 _ _)) (below_alloc1 _ _)
    · exact stays_slice stays_str _ _ _ _ (texts_two (heap_new_at (by simp)) (by decide) (by decide)) (below_alloc1 _ _)
  have hU := usual_any hr (by decide)
  have eU : usualOf ex04 = [(⟨#[120]⟩, ⟨#[111, 110]⟩), (⟨#[121]⟩, ⟨#[49]⟩)] := by kernel_rfl
  have hA := fun (W : World) (hW : Below W3.heap.size W3 W) => all_any (stays_slice stays_var _ _ _ _ hr hW) (by decide +kernel : mayOf ex04 = true)
  have eA : (allOf ex04).length = 4 := by kernel_rfl
  rw [eU] at hU
  have q1 := set_eqs ⟨#[120]⟩ ⟨#[111, 110]⟩ ⟨#[120]⟩ ⟨#[111, 110]⟩
  have q2 := set_eqs ⟨#[121]⟩ ⟨#[49]⟩ ⟨#[121]⟩ ⟨#[49]⟩
  simp only [decide_true, Bool.and_true] at q1 q2
  have Hb1 := Lib.hid hb1; have Hb2 := Lib.hid hb2; have Hb3 := Lib.hid hb3; have Hr := Lib.hid hr; have HU := Lib.hid hU; have HA := Lib.hid hA; have HeA := Lib.hid eA; have HeU := Lib.hid eU; clear hb1 hb2 hb3 hr hU hA eA eU
  go_enter Try.func16, Try.ntmps16
  go_wp2_with fail
  rw [← hW3]
  have HW3 := Lib.hid hW3; clear hW3
  refine HU.out.mono ?_
  rintro e W4 ⟨o, rfl, h1, hb4⟩
  obtain ⟨g, cap, rfl, _, _, _, _, hc⟩ := ownsRow_some h1 (by simp)
  have d0 := hc 0 _ rfl
  have d1 := hc 1 _ rfl
  have d2 := hc 2 _ rfl
  have d3 := hc 3 _ rfl
  have hA4 := HA.out W4 hb4
  have hl : ([(⟨#[120]⟩, ⟨#[111, 110]⟩), (⟨#[121]⟩, ⟨#[49]⟩)] : List Setg).length = 2 := rfl
  rw [hl]
  have hb5 := Hb3.out.trans (hb4.mono Hb3.out.size)
  clear hl hc
  have H1 := Lib.hid h1; have Hb4 := Lib.hid hb4; have HA4 := Lib.hid hA4; have Hb5 := Lib.hid hb5; clear h1 hb4 hA4 hb5
  go_wp2_with fail
  refine HA4.out.mono ?_
  rintro e W5 ⟨o5, vs5, rfl, hs5, hb6⟩
  have hrow := hs5.row
  obtain ⟨a5, c5, rfl⟩ := own_shape hrow
  rw [HeA.out]
  have e0 := cell_later hb6 d0
  have e1 := cell_later hb6 d1
  have e2 := cell_later hb6 d2
  have e3 := cell_later hb6 d3
  have hb7 := Hb5.out.trans (hb6.mono Hb5.out.size)
  have Hs5 := Lib.hid hs5; have Hb6 := Lib.hid hb6; have Hrow := Lib.hid hrow; have Hd0 := Lib.hid d0; have Hd1 := Lib.hid d1; have Hd2 := Lib.hid d2; have Hd3 := Lib.hid d3; have Hb7 := Lib.hid hb7; clear hs5 hb6 hrow d0 d1 d2 d3 hb7
  go_wp2_with fail
  go_ret
  exact ⟨rfl, Hb7.out⟩
end Go.Proofs.Ytnelgellbabkoaa

/- The walks of slices.IndexFunc and slices.ContainsFunc at Set: the first element of which a predicate holds; whether it holds of one. Condition: what the predicate gives is read off its contract. -/
namespace Go.Proofs.Ytnelgellbabkoaa
open Go.RowKit
namespace IdxSet
theorem cells_2 {ecs : List Value} (h : ecs.length = 2) : ∃ u0 u1, ecs = [u0, u1] := by
  match ecs, h with
  | [u0, u1], _ => exact ⟨u0, u1, rfl⟩

/-- what the predicate is -/
def Pred {α : Type} (R : Rd α) (p : α → Bool) (g : Nat) (cb : Array Value) (l : List α) (w : World) : Prop :=
  ∀ W u0 u1 x, Below w.heap.size w W → x ∈ l → R W [u0, u1] x → Calls Try.prog g (#[.agg #[u0, u1]] ++ cb) W fun e w' => e = .returned (.bool (p x)) ∧ Below W.heap.size W w'
set_option maxRecDepth 10000 in
set_option maxHeartbeats 400000 in
theorem idx_any {α : Type} {R : Rd α} (hR : Stays R) (p : α → Bool) (g : Nat) (cb : Array Value) (eg : ∀ args w, (callFunc g args).run Try.prog w = .ok (.enter g args) w) {w : World} {v : Value} {l : List α} (hl : RSlice 2 R w [v] l) (hp : Pred R p g cb l w) :
    Calls Try.prog 107 #[v, .func (.func g) #[] cb] w fun e w' => e = .returned (.int .i64 (idxOf p l)) ∧ Below w.heap.size w w' := by
  obtain ⟨a, cap, hv, hcap, hmax, hel⟩ := hl
  simp only [List.cons.injEq, and_true] at hv
  subst hv
  unfold maxLen at hmax
  obtain ⟨n, hn⟩ : ∃ n, n = l.length := ⟨_, rfl⟩
  rw [← hn] at hcap ⊢
  have hn63 : n ≤ 9223372036854775807 := by omega
  have Hn := Lib.hid hn; have Hel := Lib.hid hel; have Hp := Lib.hid hp; clear hn hel hp
  go_enter Try.func107, Try.ntmps107
  go_wp2_with fail
  go_loopw [8] (fun i wr => ∃ k : Nat, k ≤ n ∧ i = .int .i64 k ∧ NoneIn p l k ∧ Below w.heap.size w wr) (fun i _ => n - (intOf i).toNat)
  case atStart => exact ⟨0, Nat.zero_le _, rfl, noneIn_zero p l, Below.refl _ _⟩
  case round =>
    obtain ⟨k, hk, rfl, hno, hb⟩ := hrel
    by_cases hlt : k < n
    · have hkl : k < l.length := by have := Hn.out; omega
      obtain ⟨x, hx⟩ : ∃ x, x = l[k]'hkl := ⟨_, rfl⟩
      obtain ⟨b, off, ecs, rfl, h4, h5, h6⟩ := Hel.out k x (by rw [hx]; exact List.getElem?_eq_getElem hkl)
      obtain ⟨u0, u1, rfl⟩ : ∃ u0 u1, ecs = [u0, u1] := cells_2 h4
      have hxl : x ∈ l := by rw [hx]; exact List.getElem_mem hkl
      have c0 : wr.cell? ⟨b, off + k * 2, none⟩ = some u0 := cell_later hb (by simpa using h5 0 u0 rfl)
      have c1 : wr.cell? ⟨b, off + k * 2 + 1, none⟩ = some u1 := cell_later hb (by simpa using h5 1 u1 rfl)
      have hcall := Hp.out wr u0 u1 x hb hxl (hR _ _ _ _ h6 hb)
      have q0 : (0 : Int) ≤ (k : Int) := by omega
      have q1 : (k : Int) < (n : Int) := by omega
      by_cases hpx : p x = true
      · rw [hpx] at hcall
        have hi : idxOf p l = k := idxOf_at hkl hno (by rw [← hx]; exact hpx)
        have Hx := Lib.hid hx; have Hno := Lib.hid hno; have Hcall := Lib.hid hcall; have H5 := Lib.hid h5; have H6 := Lib.hid h6; have Hpx := Lib.hid hpx; have Hi := Lib.hid hi; have Hb := Lib.hid hb; have Hxl := Lib.hid hxl; clear hx hno hcall h5 h6 hpx hi hb hxl
        clear h4
        go_wp2_with fail
        refine Hcall.out.mono ?_
        rintro e w2 ⟨rfl, hb2⟩
        have hb3 := Hb.out.trans (hb2.mono Hb.out.size)
        have Hb2 := Lib.hid hb2; have Hb3 := Lib.hid hb3; clear hb2 hb3
        go_wp2_with fail
        go_ret
        exact ⟨ret_int Hi.out.symm, Hb3.out⟩
      · have hpx' : p x = false := by simpa using hpx
        rw [hpx'] at hcall
        have hno2 := noneIn_succ hkl hno (by rw [← hx]; exact hpx')
        have Hx := Lib.hid hx; have Hno := Lib.hid hno; have Hcall := Lib.hid hcall; have H5 := Lib.hid h5; have H6 := Lib.hid h6; have Hpx := Lib.hid hpx; have Hpx' := Lib.hid hpx'; have Hno2 := Lib.hid hno2; have Hb := Lib.hid hb; have Hxl := Lib.hid hxl; clear hx hno hcall h5 h6 hpx hpx' hno2 hb hxl
        clear h4
        go_wp2_with fail
        refine Hcall.out.mono ?_
        rintro e w2 ⟨rfl, hb2⟩
        have hb3 := Hb.out.trans (hb2.mono Hb.out.size)
        have Hb2 := Lib.hid hb2; have Hb3 := Lib.hid hb3; clear hb2 hb3
        go_wp2_with fail
        go_roundw
        case rel => exact ⟨k + 1, by omega, by go_num, Hno2.out, Hb3.out⟩
        case measure => simp [intOf]; omega
    · have hi : idxOf p l = -1 := idxOf_none (by have := Hn.out; omega) hno
      have Hno := Lib.hid hno; have Hi := Lib.hid hi; have Hb := Lib.hid hb; clear hno hi hb
      go_wp2_with fail
      go_ret
      exact ⟨ret_int Hi.out.symm, Hb.out⟩
set_option maxRecDepth 10000 in
set_option maxHeartbeats 400000 in
theorem has_any {α : Type} {R : Rd α} (hR : Stays R) (p : α → Bool) (g : Nat) (cb : Array Value) (eg : ∀ args w, (callFunc g args).run Try.prog w = .ok (.enter g args) w) {w : World} {v : Value} {l : List α} (hl : RSlice 2 R w [v] l) (hp : Pred R p g cb l w) :
    Calls Try.prog 76 #[v, .func (.func g) #[] cb] w fun e w' => e = .returned (.bool (l.any p)) ∧ Below w.heap.size w w' := by
  have hI := idx_any hR p g cb eg hl hp
  have hab := idxOf_any p l
  obtain ⟨i, hi⟩ : ∃ i, i = idxOf p l := ⟨_, rfl⟩
  rw [← hi] at hI hab
  have Hl := Lib.hid hl; have Hp := Lib.hid hp; have HI := Lib.hid hI; have Hi := Lib.hid hi; have HR := Lib.hid hR; clear hl hp hI hi hR
  cases hq : l.any p with
  | true =>
    have hpos : 0 ≤ i := hab.1 hq
    have Hq := Lib.hid hq; have Hab := Lib.hid hab; clear hq hab
    go_enter Try.func76, Try.ntmps76
    go_wp2_with fail
    refine HI.out.mono ?_
    rintro e w2 ⟨rfl, hb2⟩
    have Hb2 := Lib.hid hb2; clear hb2
    go_wp2_with fail
    go_ret
    exact ⟨rfl, Hb2.out⟩
  | false =>
    have hneg : i < 0 := by
      rcases Int.lt_or_le i 0 with h | h
      · exact h
      · have := hab.2 h; rw [hq] at this; cases this
    have Hq := Lib.hid hq; have Hab := Lib.hid hab; clear hq hab
    go_enter Try.func76, Try.ntmps76
    go_wp2_with fail
    refine HI.out.mono ?_
    rintro e w2 ⟨rfl, hb2⟩
    have Hb2 := Lib.hid hb2; clear hb2
    go_wp2_with fail
    go_ret
    exact ⟨ret_bool (by simpa using hneg), Hb2.out⟩
end IdxSet
end Go.Proofs.Ytnelgellbabkoaa

/- The walks of slices.Index and Contains at settings, and of variant.Meets. No condition. -/
namespace Go.Proofs.Ytnelgellbabkoaa
open Go.RowKit Go.Shelf
attribute [local go_sem ↓] Go.wp_at_zero Go.wp_at_succ

def isSet (x : Setg) (z : Setg) : Bool := decide (x.1 = z.1) && decide (x.2 = z.2)
set_option maxRecDepth 10000 in
set_option maxHeartbeats 1000000 in
theorem indexSet_any {w : World} {v : Value} {l : List Setg} (h : RSets w [v] l) (s t : ByteArray) : Calls Try.prog 108 #[v, .agg #[.string s, .string t]] w fun e w' => e = .returned (.int .i64 (idxOf (isSet (s, t)) l)) ∧ Below w.heap.size w w' := by
  obtain ⟨a, cap, rfl, hz, g⟩ := sets_open h
  obtain ⟨n, hn⟩ : ∃ n, n = l.length := ⟨_, rfl⟩
  rw [← hn] at hz h ⊢
  have q1 := fun a b => set_eqs s t a b
  obtain ⟨W0, hW0⟩ : ∃ W0, W0 = w.alloc (.cells #[.string s, .string t] 38) := ⟨_, rfl⟩
  have hb0 : Below w.heap.size w W0 := by rw [hW0]; exact below_alloc1 _ _
  have hcW : W0.heap[w.heap.size]? = some (.cells #[.string s, .string t] 38 (0, 0)) := by rw [hW0]; exact heap_alloc_new _ _
  have c0 := cells_at hcW 0
  have c1 := cells_at hcW 1
  simp only [List.getElem?_toArray, List.getElem?_cons_succ, List.getElem?_cons_zero] at c0 c1
  clear hcW
  have Hh := Lib.hid h; have Hg := Lib.hid g; have Hn := Lib.hid hn; have Hb0 := Lib.hid hb0; have Hq1 := Lib.hid q1; clear h g hn hb0 q1
  go_enter Try.func108, Try.ntmps108
  go_upto_region 2 with (fail)
  rw [← hW0]
  obtain ⟨nb, hnb⟩ : ∃ nb, nb = w.heap.size := ⟨_, rfl⟩
  rw [← hnb] at c0 c1 ⊢
  have HW0 := Lib.hid hW0; have Hnb := Lib.hid hnb; clear hW0 hnb
  go_loopw [8] (fun i wr => ∃ k : Nat, k ≤ n ∧ i = .int .i64 k ∧ NoneIn (isSet (s, t)) l k ∧ ∃ q, wr = W0.drewN q) (fun i _ => n - (intOf i).toNat)
  case atStart => exact ⟨0, Nat.zero_le _, rfl, noneIn_zero _ _, 0, rfl⟩
  case round =>
    obtain ⟨k, hk, rfl, hno, q, rfl⟩ := hrel
    by_cases hlt : k < n
    · have hkl : k < l.length := by have := Hn.out; omega
      obtain ⟨b, off, rfl, d0, d1, hs1, hs2⟩ := Hg.out k _ (List.getElem?_eq_getElem hkl)
      have hyes := fun h => idxOf_at hkl hno h
      have hnn := fun h => noneIn_succ hkl hno h
      obtain ⟨x, hx⟩ : ∃ x, x = l[k] := ⟨_, rfl⟩
      rw [← hx] at d0 d1 hyes hnn hs1 hs2
      have e0 := cell_later Hb0.out d0
      have e1 := cell_later Hb0.out d1
      obtain ⟨y, hy⟩ : ∃ y, y = x.1 := ⟨_, rfl⟩
      obtain ⟨z, hz3⟩ : ∃ z, z = x.2 := ⟨_, rfl⟩
      have hp : isSet (s, t) x = (decide (s = y) && decide (t = z)) := by rw [hy, hz3]; rfl
      rw [← hy] at e0 hs1
      rw [← hz3] at e1 hs2
      have q2 := Hq1.out y z
      rw [← hp] at q2
      have k5 : (0 : Int) ≤ (k : Int) := by omega
      have k6 : (k : Int) < (n : Int) := by omega
      clear hx hkl d0 d1
      cases hb : isSet (s, t) x with
      | true =>
        have hr := hyes hb
        rw [hb] at q2
        have Hno := Lib.hid hno; have Hyes := Lib.hid hyes; have Hnn := Lib.hid hnn; have Hp := Lib.hid hp; have Hb := Lib.hid hb; have Hr := Lib.hid hr; have Hy := Lib.hid hy; have Hz3 := Lib.hid hz3; clear hno hyes hnn hp hb hr hy hz3
        go_wp2_with fail
        go_region
        go_wp2_with fail
        go_ret
        exact ⟨by rw [Hr.out]; rfl, bel_drewN Hb0.out _⟩
      | false =>
        have hr := hnn hb
        rw [hb] at q2
        have Hno := Lib.hid hno; have Hyes := Lib.hid hyes; have Hnn := Lib.hid hnn; have Hp := Lib.hid hp; have Hb := Lib.hid hb; have Hr := Lib.hid hr; have Hy := Lib.hid hy; have Hz3 := Lib.hid hz3; clear hno hyes hnn hp hb hr hy hz3
        go_wp2_with fail
        go_region
        go_wp2_with fail
        go_roundw
        case rel => exact ⟨k + 1, by omega, by go_num, Hr.out, _, rfl⟩
        case measure => simp [intOf]; omega
    · obtain rfl : n = k := by omega
      have hr : idxOf (isSet (s, t)) l = -1 := idxOf_none (by have := Hn.out; omega) hno
      have Hno := Lib.hid hno; have Hr := Lib.hid hr; clear hno hr
      go_wp2_with fail
      go_ret
      exact ⟨by rw [Hr.out]; rfl, bel_drewN Hb0.out _⟩
set_option maxRecDepth 10000 in
set_option maxHeartbeats 1000000 in
theorem containsSet_any {w : World} {v : Value} {l : List Setg} (h : RSets w [v] l) (s t : ByteArray) : Calls Try.prog 78 #[v, .agg #[.string s, .string t]] w fun e w' => e = .returned (.bool (l.any (isSet (s, t)))) ∧ Below w.heap.size w w' := by
  have hb0 : Below w.heap.size w (w.alloc (.cells #[.string s, .string t] 38)) := below_alloc1 _ _
  have hI := indexSet_any (stays_slice stays_set _ _ _ _ h hb0) s t
  have hab := idxOf_any (isSet (s, t)) l
  obtain ⟨a, cap, rfl, hz, _⟩ := sets_open h
  obtain ⟨n, hn⟩ : ∃ n, n = l.length := ⟨_, rfl⟩
  rw [← hn] at hz h hI ⊢
  obtain ⟨i, hi⟩ : ∃ i, i = idxOf (isSet (s, t)) l := ⟨_, rfl⟩
  rw [← hi] at hI hab
  obtain ⟨r, hr⟩ : ∃ r, r = l.any (isSet (s, t)) := ⟨_, rfl⟩
  rw [← hr] at hab ⊢
  have k1 : decide ((0 : Int) ≤ i) = r := by
    by_cases h0 : 0 ≤ i
    · rw [decide_eq_true h0, hab.2 h0]
    · rw [decide_eq_false h0]
      cases r with
      | true => exact absurd (hab.1 rfl) h0
      | false => rfl
  have Hh := Lib.hid h; have Hn := Lib.hid hn; have Hb0 := Lib.hid hb0; have HI := Lib.hid hI; have Hi := Lib.hid hi; have Hr := Lib.hid hr; have Hab := Lib.hid hab; clear h hn hb0 hI hi hr hab
  go_enter Try.func78, Try.ntmps78
  go_wp2_with fail
  refine HI.out.mono ?_
  rintro e w1 ⟨rfl, hb1⟩
  have hb2 := Hb0.out.trans (hb1.mono Hb0.out.size)
  have Hb1 := Lib.hid hb1; have Hb2 := Lib.hid hb2; clear hb1 hb2
  go_wp2_with fail
  go_ret
  exact ⟨by first | rfl | (rw [k1]), Hb2.out⟩
/-- do settings meet a wish? -/
def meetsOf (s wish : List Setg) : Bool := wish.all fun x => s.any (isSet x)
def SBox (B : Nat) (v : Value) (w : World) : Prop := w.heap[B]? = some (.cells #[v] 36 (0, 0))
theorem SBox.below {B : Nat} {v : Value} {w w' : World} (h : SBox B v w) (hb : Below w.heap.size w w') : SBox B v w' := heap_below hb h
set_option maxRecDepth 10000 in
set_option maxHeartbeats 1000000 in
theorem meetsIn_any {w : World} {B : Nat} {v : Value} {l : List Setg} (h : RSets w [v] l) (hB : SBox B v w) (s t : ByteArray) : Calls Try.prog 77 #[.agg #[.string s, .string t], .pointer (some ⟨B, 0, none⟩)] w fun e w' => e = .returned (.bool (!(l.any (isSet (s, t))))) ∧ Below w.heap.size w w' := by
  have hb0 : Below w.heap.size w (w.alloc (.cells #[.string s, .string t] 38)) := below_alloc1 _ _
  have hC := containsSet_any (stays_slice stays_set _ _ _ _ h hb0) s t
  have c0 := cells_at (hB.below hb0) 0
  have c9 := cells_at hB 0
  simp only [List.getElem?_toArray, List.getElem?_cons_zero] at c0 c9
  obtain ⟨r, hr⟩ : ∃ r, r = l.any (isSet (s, t)) := ⟨_, rfl⟩
  rw [← hr] at hC ⊢
  obtain ⟨a, cap, rfl, hz, _⟩ := sets_open h
  obtain ⟨n, hn⟩ : ∃ n, n = l.length := ⟨_, rfl⟩
  rw [← hn] at hz h hC c0 c9 hB
  have Hh := Lib.hid h; have HB := Lib.hid hB; have HC := Lib.hid hC; have Hb0 := Lib.hid hb0; have Hr := Lib.hid hr; have Hn := Lib.hid hn; clear h hB hC hb0 hr hn
  go_enter Try.func77, Try.ntmps77
  go_wp2_with fail
  refine HC.out.mono ?_
  rintro e w1 ⟨rfl, hb1⟩
  have hb2 := Hb0.out.trans (hb1.mono Hb0.out.size)
  have Hb1 := Lib.hid hb1; have Hb2 := Lib.hid hb2; clear hb1 hb2
  go_wp2_with fail
  go_ret
  exact ⟨rfl, Hb2.out⟩
theorem enters_meets : ∀ args w, (callFunc 77 args).run Try.prog w = .ok (.enter 77 args) w := enters_of Try.func77 (by kernel_rfl) rfl
theorem meets_pred {w : World} {B : Nat} {v : Value} {l : List Setg} (h : RSets w [v] l) (hB : SBox B v w) (wish : List Setg) : IdxSet.Pred RSet (fun x => !(l.any (isSet x))) 77 #[.pointer (some ⟨B, 0, none⟩)] wish w := by
  intro W u0 u1 x hb _ hx
  obtain ⟨h1, _, _⟩ := hx
  simp only [List.cons.injEq, and_true] at h1
  obtain ⟨rfl, rfl⟩ := h1
  exact meetsIn_any (stays_slice stays_set _ _ _ _ h hb) (hB.below hb) x.1 x.2
theorem meetsOf_any (s wish : List Setg) : (!(wish.any fun x => !(s.any (isSet x)))) = meetsOf s wish := by
  unfold meetsOf
  rw [List.not_any_eq_all_not]
  simp
set_option maxRecDepth 10000 in
theorem meets_any {w : World} {u v : Value} {s wish : List Setg} (hs : RSets w [u] s) (hw : RSets w [v] wish) : Calls Try.prog 32 #[u, v] w fun e w' => e = .returned (.bool (meetsOf s wish)) ∧ Below w.heap.size w w' := by
  have hbx : Below w.heap.size w (w.alloc (.cells #[u] 36)) := below_alloc1 _ _
  have hC := IdxSet.has_any stays_set (fun x => !(s.any (isSet x))) 77 #[.pointer (some ⟨w.heap.size, 0, none⟩)] enters_meets (stays_slice stays_set _ _ _ _ hw hbx) (meets_pred (stays_slice stays_set _ _ _ _ hs hbx) (heap_alloc_new _ _) wish)
  have hh := meetsOf_any s wish
  obtain ⟨r, hr⟩ : ∃ r, r = wish.any fun x => !(s.any (isSet x)) := ⟨_, rfl⟩
  rw [← hr] at hC hh
  obtain ⟨a, cap, rfl, _, _⟩ := sets_open hs
  obtain ⟨n, hn⟩ : ∃ n, n = s.length := ⟨_, rfl⟩
  obtain ⟨a2, cap2, rfl, _, _⟩ := sets_open hw
  obtain ⟨n2, hn2⟩ : ∃ n, n = wish.length := ⟨_, rfl⟩
  rw [← hn, ← hn2] at hC
  rw [← hn] at hbx
  rw [← hn, ← hn2, ← hh]
  have Hs := Lib.hid hs; have Hw := Lib.hid hw; have HC := Lib.hid hC; have Hbx := Lib.hid hbx; have Hr := Lib.hid hr; have Hh := Lib.hid hh; have Hn := Lib.hid hn; have Hn2 := Lib.hid hn2; clear hs hw hC hbx hr hh hn hn2
  go_enter Try.func32, Try.ntmps32
  go_wp2_with fail
  refine HC.out.mono ?_
  rintro e w1 ⟨rfl, hb1⟩
  have hb2 := Hbx.out.trans (hb1.mono Hbx.out.size)
  have Hb1 := Lib.hid hb1; have Hb2 := Lib.hid hb2; clear hb1 hb2
  go_wp2_with fail
  go_ret
  exact ⟨rfl, Hb2.out⟩
end Go.Proofs.Ytnelgellbabkoaa

/- Every slice of variants, and of settings, opens as its list. No condition. -/
namespace Go.Proofs.Ytnelgellbabkoaa
open Go.RowKit Go.Shelf

theorem opens_strs04 : Opens Try.prog 33 RSs := opens_slice Try.underlying33 (by kernel_rfl) (by decide) (opens_str Try.underlying9)
theorem opens_var : Opens Try.prog 35 RVar := by
  refine opens_map (R := RCons 1 RStr (RCons 1 RSs RNil)) (opens_struct Try.underlying35 ?_) ?_
  · have h1 : Try.prog.cellsOf 9 = 1 := by kernel_rfl
    have h2 : Try.prog.cellsOf 33 = 1 := by kernel_rfl
    have hN : Try.prog.cellsOf 35 = 0 + 1 + 1 := by kernel_rfl
    rw [hN]
    exact fields_cons rfl h1 (opens_str Try.underlying9) (fields_cons rfl h2 opens_strs04 fields_nil)
  · rintro w cs ⟨s, l, ⟨⟩⟩ ⟨c1, c2, rfl, h1, ⟨h2, h3⟩, c3, c4, rfl, h4, h5, h6⟩
    dsimp only at h2 h3 h5 h6
    subst h2
    have h7 : c4 = [] := h6
    subst h7
    match c3, h4 with
    | [u], _ => exact ⟨(s, l), u, rfl, h3, h5⟩
theorem opens_vars : Opens Try.prog 29 RVars := opens_slice Try.underlying29 (by kernel_rfl) (by decide) opens_var
theorem opens_set : Opens Try.prog 38 RSet := by
  refine opens_map (R := RCons 1 RStr (RCons 1 RStr RNil)) (opens_struct Try.underlying38 ?_) ?_
  · have h1 : Try.prog.cellsOf 9 = 1 := by kernel_rfl
    have hN : Try.prog.cellsOf 38 = 0 + 1 + 1 := by kernel_rfl
    rw [hN]
    exact fields_cons rfl h1 (opens_str Try.underlying9) (fields_cons rfl h1 (opens_str Try.underlying9) fields_nil)
  · rintro w cs ⟨s, y, ⟨⟩⟩ ⟨c1, c2, rfl, h1, ⟨h2, h3⟩, c3, c4, rfl, h4, ⟨h5, h6⟩, h7⟩
    dsimp only at h2 h3 h5 h6
    subst h2 h5
    have h8 : c4 = [] := h7
    subst h8
    exact ⟨(s, y), rfl, h3, h6⟩
theorem opens_sets : Opens Try.prog 36 RSets := opens_slice Try.underlying36 (by kernel_rfl) (by decide) opens_set
end Go.Proofs.Ytnelgellbabkoaa

/- Every recipe opens as its value: specs, releases, depends, conflicts, packages, prefers. No condition. -/
namespace Go.Proofs.Ytnelgellbabkoaa
open Go.RowKit Go.Shelf

abbrev Spn := ByteArray × ByteArray × Unit
abbrev Spc := ByteArray × List Spn × List Setg × Unit
abbrev Rls := ByteArray × Bool × Unit
abbrev Dpd := Spc × Spc × Int × Unit
abbrev Prf := ByteArray × List ByteArray × Int × Unit
abbrev Pkg := ByteArray × Int × List Rls × List Var × List ByteArray × List Dpd × List Dpd × List ByteArray × Unit
abbrev Rcp := List Pkg × List Prf × Unit
abbrev RSpn : Rd Spn := RCons 1 RStr (RCons 1 RStr RNil)
abbrev RSpc : Rd Spc := RCons 1 RStr (RCons 1 (RSlice 2 RSpn) (RCons 1 RSets RNil))
abbrev RRls : Rd Rls := RCons 1 RStr (RCons 1 RBool RNil)
abbrev RDpd : Rd Dpd := RCons 3 RSpc (RCons 3 RSpc (RCons 1 (RInt .i64) RNil))
abbrev RPrf : Rd Prf := RCons 1 RStr (RCons 1 RSs (RCons 1 (RInt .i64) RNil))
abbrev RPkg : Rd Pkg := RCons 1 RStr (RCons 1 (RInt .i64) (RCons 1 (RSlice 2 RRls) (RCons 1 RVars (RCons 1 RSs (RCons 1 (RSlice 7 RDpd) (RCons 1 (RSlice 7 RDpd) (RCons 1 RSs RNil)))))))
abbrev RRcp : Rd Rcp := RCons 1 (RSlice 8 RPkg) (RCons 1 (RSlice 3 RPrf) RNil)
theorem stays_spn : Stays RSpn := stays_cons stays_str (stays_cons stays_str stays_nil)
theorem stays_spc : Stays RSpc := stays_cons stays_str (stays_cons (stays_slice stays_spn) (stays_cons (stays_slice stays_set) stays_nil))
theorem stays_rls : Stays RRls := stays_cons stays_str (stays_cons stays_bool stays_nil)
theorem stays_dpd : Stays RDpd := stays_cons stays_spc (stays_cons stays_spc (stays_cons (stays_int .i64) stays_nil))
theorem stays_prf : Stays RPrf := stays_cons stays_str (stays_cons (stays_slice stays_str) (stays_cons (stays_int .i64) stays_nil))
theorem stays_pkg : Stays RPkg := stays_cons stays_str (stays_cons (stays_int .i64) (stays_cons (stays_slice stays_rls) (stays_cons (stays_slice stays_var) (stays_cons (stays_slice stays_str) (stays_cons (stays_slice stays_dpd) (stays_cons (stays_slice stays_dpd) (stays_cons (stays_slice stays_str) stays_nil)))))))
theorem stays_rcp : Stays RRcp := stays_cons (stays_slice stays_pkg) (stays_cons (stays_slice stays_prf) stays_nil)

theorem cs_str : Try.prog.cellsOf 9 = 1 := by kernel_rfl
theorem cs_int : Try.prog.cellsOf 3 = 1 := by kernel_rfl
theorem cs_bool : Try.prog.cellsOf 4 = 1 := by kernel_rfl
theorem cs_strs : Try.prog.cellsOf 33 = 1 := by kernel_rfl
theorem cs_spc : Try.prog.cellsOf 107 = 3 := by kernel_rfl
theorem opens_spn : Opens Try.prog 137 RSpn := by
  refine opens_struct Try.underlying137 ?_
  have hN : Try.prog.cellsOf 137 = 0 + 1 + 1 := by kernel_rfl
  rw [hN]
  exact fields_cons rfl cs_str (opens_str Try.underlying9) (fields_cons rfl cs_str (opens_str Try.underlying9) fields_nil)
theorem opens_spns : Opens Try.prog 105 (RSlice 2 RSpn) := opens_slice Try.underlying105 (by kernel_rfl) (by decide) opens_spn
theorem opens_spc : Opens Try.prog 107 RSpc := by
  refine opens_struct Try.underlying107 ?_
  have hN : Try.prog.cellsOf 107 = 0 + 1 + 1 + 1 := by kernel_rfl
  rw [hN]
  exact fields_cons rfl cs_str (opens_str Try.underlying9) (fields_cons rfl (by kernel_rfl) opens_spns (fields_cons rfl (by kernel_rfl) opens_sets fields_nil))
theorem opens_rls : Opens Try.prog 125 RRls := by
  refine opens_struct Try.underlying125 ?_
  have hN : Try.prog.cellsOf 125 = 0 + 1 + 1 := by kernel_rfl
  rw [hN]
  exact fields_cons rfl cs_str (opens_str Try.underlying9) (fields_cons rfl cs_bool (opens_bool Try.underlying4) fields_nil)
theorem opens_rlss : Opens Try.prog 64 (RSlice 2 RRls) := opens_slice Try.underlying64 (by kernel_rfl) (by decide) opens_rls
theorem opens_dpd : Opens Try.prog 127 RDpd := by
  refine opens_struct Try.underlying127 ?_
  have hN : Try.prog.cellsOf 127 = 0 + 3 + 3 + 1 := by kernel_rfl
  rw [hN]
  exact fields_cons rfl cs_spc opens_spc (fields_cons rfl cs_spc opens_spc (fields_cons rfl cs_int (opens_int Try.underlying3) fields_nil))
theorem opens_dpds : Opens Try.prog 65 (RSlice 7 RDpd) := opens_slice Try.underlying65 (by kernel_rfl) (by decide) opens_dpd
theorem opens_cft : Opens Try.prog 129 RDpd := by
  refine opens_struct Try.underlying129 ?_
  have hN : Try.prog.cellsOf 129 = 0 + 3 + 3 + 1 := by kernel_rfl
  rw [hN]
  exact fields_cons rfl cs_spc opens_spc (fields_cons rfl cs_spc opens_spc (fields_cons rfl cs_int (opens_int Try.underlying3) fields_nil))
theorem opens_cfts : Opens Try.prog 66 (RSlice 7 RDpd) := opens_slice Try.underlying66 (by kernel_rfl) (by decide) opens_cft
theorem opens_prf : Opens Try.prog 98 RPrf := by
  refine opens_struct Try.underlying98 ?_
  have hN : Try.prog.cellsOf 98 = 0 + 1 + 1 + 1 := by kernel_rfl
  rw [hN]
  exact fields_cons rfl cs_str (opens_str Try.underlying9) (fields_cons rfl cs_strs opens_strs04 (fields_cons rfl cs_int (opens_int Try.underlying3) fields_nil))
theorem opens_prfs : Opens Try.prog 50 (RSlice 3 RPrf) := opens_slice Try.underlying50 (by kernel_rfl) (by decide) opens_prf
theorem opens_pkg : Opens Try.prog 68 RPkg := by
  refine opens_struct Try.underlying68 ?_
  have hN : Try.prog.cellsOf 68 = 0 + 1 + 1 + 1 + 1 + 1 + 1 + 1 + 1 := by kernel_rfl
  rw [hN]
  exact fields_cons rfl cs_str (opens_str Try.underlying9) (fields_cons rfl cs_int (opens_int Try.underlying3) (fields_cons rfl (by kernel_rfl) opens_rlss (fields_cons rfl (by kernel_rfl) opens_vars (fields_cons rfl cs_strs opens_strs04
    (fields_cons rfl (by kernel_rfl) opens_dpds (fields_cons rfl (by kernel_rfl) opens_cfts (fields_cons rfl cs_strs opens_strs04 fields_nil)))))))
theorem opens_pkgs : Opens Try.prog 49 (RSlice 8 RPkg) := opens_slice Try.underlying49 (by kernel_rfl) (by decide) opens_pkg
theorem opens_rcp : Opens Try.prog 52 RRcp := by
  refine opens_struct Try.underlying52 ?_
  have hN : Try.prog.cellsOf 52 = 0 + 1 + 1 := by kernel_rfl
  rw [hN]
  exact fields_cons rfl (by kernel_rfl) opens_pkgs (fields_cons rfl (by kernel_rfl) opens_prfs fields_nil)
/-- what a package's eight cells are -/
structure PkgAt (w : World) (b off : Nat) (x : Pkg) (u2 u3 u4 u5 u6 u7 : Value) : Prop where
  c0 : w.cell? ⟨b, off, none⟩ = some (.string x.1)
  c1 : w.cell? ⟨b, off + 1, none⟩ = some (.int .i64 x.2.1)
  c2 : w.cell? ⟨b, off + 2, none⟩ = some u2
  c3 : w.cell? ⟨b, off + 3, none⟩ = some u3
  c4 : w.cell? ⟨b, off + 4, none⟩ = some u4
  c5 : w.cell? ⟨b, off + 5, none⟩ = some u5
  c6 : w.cell? ⟨b, off + 6, none⟩ = some u6
  c7 : w.cell? ⟨b, off + 7, none⟩ = some u7
  s0 : x.1.size ≤ maxLen
  r2 : RSlice 2 RRls w [u2] x.2.2.1
  r3 : RVars w [u3] x.2.2.2.1
  r4 : RSs w [u4] x.2.2.2.2.1
  r5 : RSlice 7 RDpd w [u5] x.2.2.2.2.2.1
  r6 : RSlice 7 RDpd w [u6] x.2.2.2.2.2.2.1
  r7 : RSs w [u7] x.2.2.2.2.2.2.2.1
  rp : RPkg w [.string x.1, .int .i64 x.2.1, u2, u3, u4, u5, u6, u7] x
theorem pkg_cells {w : World} {cs : List Value} {x : Pkg} (h : RPkg w cs x) : ∃ u2 u3 u4 u5 u6 u7, cs = [.string x.1, .int .i64 x.2.1, u2, u3, u4, u5, u6, u7] ∧ x.1.size ≤ maxLen ∧ RSlice 2 RRls w [u2] x.2.2.1 ∧ RVars w [u3] x.2.2.2.1 ∧ RSs w [u4] x.2.2.2.2.1 ∧ RSlice 7 RDpd w [u5] x.2.2.2.2.2.1 ∧ RSlice 7 RDpd w [u6] x.2.2.2.2.2.2.1 ∧ RSs w [u7] x.2.2.2.2.2.2.2.1 := by
  obtain ⟨a0, t0, rfl, _, ⟨rfl, h0⟩, a1, t1, rfl, _, ⟨rfl, _⟩, a2, t2, rfl, l2, h2, a3, t3, rfl, l3, h3, a4, t4, rfl, l4, h4, a5, t5, rfl, l5, h5, a6, t6, rfl, l6, h6, a7, t7, rfl, l7, h7, h8⟩ := h
  obtain rfl : t7 = [] := h8
  match a2, l2, a3, l3, a4, l4, a5, l5, a6, l6, a7, l7 with
  | [u2], _, [u3], _, [u4], _, [u5], _, [u6], _, [u7], _ => exact ⟨u2, u3, u4, u5, u6, u7, rfl, h0, h2, h3, h4, h5, h6, h7⟩
theorem pkgs_open {w : World} {v : Value} {l : List Pkg} (h : RSlice 8 RPkg w [v] l) : ∃ a cap, v = .slice a l.length cap ∧ l.length ≤ 9223372036854775807 ∧ ∀ i x, l[i]? = some x → ∃ b off u2 u3 u4 u5 u6 u7, a = some ⟨b, off, none⟩ ∧ PkgAt w b (off + i * 8) x u2 u3 u4 u5 u6 u7 := by
  obtain ⟨a, cap, hv, hcap, hmax, hel⟩ := h
  simp only [List.cons.injEq, and_true] at hv
  unfold maxLen at hmax
  refine ⟨a, cap, hv, by omega, fun i x hi => ?_⟩
  obtain ⟨b, off, ecs, h1, h2, h3, h4⟩ := hel i x hi
  obtain ⟨u2, u3, u4, u5, u6, u7, rfl, k0, k2, k3, k4, k5, k6, k7⟩ := pkg_cells h4
  exact ⟨b, off, u2, u3, u4, u5, u6, u7, h1, ⟨by simpa using h3 0 _ rfl, by simpa using h3 1 _ rfl, h3 2 _ rfl, h3 3 _ rfl, h3 4 _ rfl, h3 5 _ rfl, h3 6 _ rfl, h3 7 _ rfl, k0, k2, k3, k4, k5, k6, k7, h4⟩⟩
end Go.Proofs.Ytnelgellbabkoaa

/- The walks of cooperref09.Has and Find. No condition. -/
namespace Go.Proofs.Ytnelgellbabkoaa
open Go.RowKit Go.Shelf
attribute [local go_sem ↓] Go.wp_at_zero Go.wp_at_succ

def hasT (l : List ByteArray) (s : ByteArray) : Bool := l.any fun z => decide (z = s)
def named (s : ByteArray) (x : Pkg) : Bool := decide (x.1 = s)
theorem any_no {α : Type} {p : α → Bool} {l : List α} (h : NoneIn p l l.length) : l.any p = false := by
  rw [List.any_eq_false]
  intro x hx
  obtain ⟨i, hi, rfl⟩ := List.mem_iff_getElem.1 hx
  rw [h i hi hi]; simp
theorem any_yes {α : Type} {p : α → Bool} {l : List α} {k : Nat} (h : k < l.length) (hk : p l[k] = true) : l.any p = true := List.any_eq_true.2 ⟨_, List.getElem_mem h, hk⟩
set_option maxRecDepth 10000 in
set_option maxHeartbeats 1000000 in
theorem hasRef_any {w : World} {v : Value} {l : List ByteArray} (h : RSs w [v] l) (s : ByteArray) : Calls Try.prog 88 #[v, .string s] w fun e w' => e = .returned (.bool (hasT l s)) ∧ ∃ q, w' = w.drewN q := by
  obtain ⟨a, cap, rfl, hz, g⟩ := strs_open h
  obtain ⟨n, hn⟩ : ∃ n, n = l.length := ⟨_, rfl⟩
  obtain ⟨r, hr⟩ : ∃ r, r = hasT l s := ⟨_, rfl⟩
  rw [← hr]
  rw [← hn] at hz h ⊢
  have Hh := Lib.hid h; have Hg := Lib.hid g; have Hn := Lib.hid hn; have Hr := Lib.hid hr; clear h g hn hr
  go_enter Try.func88, Try.ntmps88
  go_wp2_with fail
  go_loopw [8] (fun i wr => ∃ k : Nat, k ≤ n ∧ i = .int .i64 k ∧ NoneIn (fun z => decide (z = s)) l k ∧ ∃ q, wr = w.drewN q) (fun i _ => n - (intOf i).toNat)
  case atStart => exact ⟨0, Nat.zero_le _, rfl, noneIn_zero _ _, 0, rfl⟩
  case round =>
    obtain ⟨k, hk, rfl, hno, q, rfl⟩ := hrel
    by_cases hlt : k < n
    · have hkl : k < l.length := by have := Hn.out; omega
      obtain ⟨b, off, rfl, d0, hs1⟩ := Hg.out k hkl
      have hyes := fun h => any_yes (p := fun z => decide (z = s)) hkl h
      have hnn := fun h => noneIn_succ hkl hno h
      obtain ⟨x, hx⟩ : ∃ x, x = l[k] := ⟨_, rfl⟩
      rw [← hx] at d0 hyes hnn hs1
      have q1 := bytes_dec x s
      have k5 : (0 : Int) ≤ (k : Int) := by omega
      have k6 : (k : Int) < (n : Int) := by omega
      clear hx hkl
      by_cases e : x = s
      · have hf : r = true := by rw [Hr.out]; exact hyes (decide_eq_true e)
        rw [decide_eq_true e] at q1
        clear e
        have Hno := Lib.hid hno; have Hyes := Lib.hid hyes; have Hnn := Lib.hid hnn; have Hf := Lib.hid hf; clear hno hyes hnn hf
        go_wp2_with fail
        go_ret
        exact ⟨ret_bool Hf.out.symm, _, rfl⟩
      · have hf := hnn (decide_eq_false e)
        rw [decide_eq_false e] at q1
        clear e
        have Hno := Lib.hid hno; have Hyes := Lib.hid hyes; have Hnn := Lib.hid hnn; have Hf := Lib.hid hf; clear hno hyes hnn hf
        go_wp2_with fail
        go_roundw
        case rel => exact ⟨k + 1, by omega, by go_num, Hf.out, _, rfl⟩
        case measure => simp [intOf]; omega
    · obtain rfl : n = k := by omega
      have hf : r = false := by rw [Hr.out]; exact any_no (by rw [← Hn.out]; exact hno)
      have Hno := Lib.hid hno; have Hf := Lib.hid hf; clear hno hf
      go_wp2_with fail
      go_ret
      exact ⟨ret_bool Hf.out.symm, _, rfl⟩
end Go.Proofs.Ytnelgellbabkoaa

/- The walks of cooperref04.Has, Meets and Same. No condition. -/
namespace Go.Proofs.Ytnelgellbabkoaa
open Go.RowKit Go.Shelf
attribute [local go_sem ↓] Go.wp_at_zero Go.wp_at_succ

set_option maxRecDepth 10000 in
set_option maxHeartbeats 1000000 in
theorem hasRef04_any {w : World} {v : Value} {l : List Setg} (h : RSets w [v] l) (s t : ByteArray) : Calls Try.prog 93 #[v, .agg #[.string s, .string t]] w fun e w' => e = .returned (.bool (l.any (isSet (s, t)))) ∧ Below w.heap.size w w' := by
  obtain ⟨a, cap, rfl, hz, g⟩ := sets_open h
  obtain ⟨n, hn⟩ : ∃ n, n = l.length := ⟨_, rfl⟩
  obtain ⟨r, hr⟩ : ∃ r, r = l.any (isSet (s, t)) := ⟨_, rfl⟩
  rw [← hr]
  rw [← hn] at hz h ⊢
  have q1 := fun a b => set_eqs a b s t
  obtain ⟨nb, hnb⟩ : ∃ nb, nb = w.heap.size := ⟨_, rfl⟩
  obtain ⟨W0, hW0⟩ : ∃ W0, W0 = w.alloc (.cells #[.string s, .string t] 38) := ⟨_, rfl⟩
  have hb0 : Below w.heap.size w W0 := by rw [hW0]; exact below_alloc1 _ _
  have hcW : W0.heap[nb]? = some (.cells #[.string s, .string t] 38 (0, 0)) := by rw [hW0, hnb]; exact heap_alloc_new _ _
  have c0 := cells_at hcW 0
  have c1 := cells_at hcW 1
  simp only [List.getElem?_toArray, List.getElem?_cons_succ, List.getElem?_cons_zero] at c0 c1
  clear hcW
  have Hh := Lib.hid h; have Hg := Lib.hid g; have Hn := Lib.hid hn; have Hb0 := Lib.hid hb0; have Hq1 := Lib.hid q1; have Hr := Lib.hid hr; clear h g hn hb0 q1 hr
  go_enter Try.func93, Try.ntmps93
  go_upto_region 1 with (fail)
  rw [← hW0, ← hnb]
  have HW0 := Lib.hid hW0; have Hnb := Lib.hid hnb; clear hW0 hnb
  go_wp2_with fail
  go_loopw [8] (fun i wr => ∃ k : Nat, k ≤ n ∧ i = .int .i64 k ∧ NoneIn (isSet (s, t)) l k ∧ ∃ q, wr = W0.drewN q) (fun i _ => n - (intOf i).toNat)
  case atStart => exact ⟨0, Nat.zero_le _, rfl, noneIn_zero _ _, 0, rfl⟩
  case round =>
    obtain ⟨k, hk, rfl, hno, q, rfl⟩ := hrel
    by_cases hlt : k < n
    · have hkl : k < l.length := by have := Hn.out; omega
      obtain ⟨b, off, rfl, d0, d1, hs1, hs2⟩ := Hg.out k _ (List.getElem?_eq_getElem hkl)
      have hyes := fun h => any_yes (p := isSet (s, t)) hkl h
      have hnn := fun h => noneIn_succ hkl hno h
      obtain ⟨x, hx⟩ : ∃ x, x = l[k] := ⟨_, rfl⟩
      rw [← hx] at d0 d1 hyes hnn hs1 hs2
      have e0 := cell_later Hb0.out d0
      have e1 := cell_later Hb0.out d1
      obtain ⟨y, hy⟩ : ∃ y, y = x.1 := ⟨_, rfl⟩
      obtain ⟨z, hz3⟩ : ∃ z, z = x.2 := ⟨_, rfl⟩
      have hp : isSet (s, t) x = (decide (y = s) && decide (z = t)) := by
        rw [hy, hz3]
        unfold isSet
        rw [show decide (s = x.1) = decide (x.1 = s) from decide_eq_decide.2 eq_comm, show decide (t = x.2) = decide (x.2 = t) from decide_eq_decide.2 eq_comm]
      rw [← hy] at e0 hs1
      rw [← hz3] at e1 hs2
      have q2 := Hq1.out y z
      rw [← hp] at q2
      have k5 : (0 : Int) ≤ (k : Int) := by omega
      have k6 : (k : Int) < (n : Int) := by omega
      clear hx d0 d1 hs1 hs2
      cases hb : isSet (s, t) x with
      | true =>
        have hf : r = true := by rw [Hr.out]; exact hyes hb
        rw [hb] at q2
        have Hno := Lib.hid hno; have Hyes := Lib.hid hyes; have Hnn := Lib.hid hnn; have Hp := Lib.hid hp; have Hb := Lib.hid hb; have Hf := Lib.hid hf; have Hy := Lib.hid hy; have Hz3 := Lib.hid hz3; clear hno hyes hnn hp hb hf hy hz3
        go_wp2_with fail
        go_region
        go_wp2_with fail
        go_ret
        exact ⟨ret_bool Hf.out.symm, bel_drewN Hb0.out _⟩
      | false =>
        have hq := hnn hb
        rw [hb] at q2
        have Hno := Lib.hid hno; have Hyes := Lib.hid hyes; have Hnn := Lib.hid hnn; have Hp := Lib.hid hp; have Hb := Lib.hid hb; have Hq := Lib.hid hq; have Hy := Lib.hid hy; have Hz3 := Lib.hid hz3; clear hno hyes hnn hp hb hq hy hz3
        go_wp2_with fail
        go_region
        go_wp2_with fail
        go_roundw
        case rel => exact ⟨k + 1, by omega, by go_num, Hq.out, _, rfl⟩
        case measure => simp [intOf]; omega
    · obtain rfl : n = k := by omega
      have hf : r = false := by rw [Hr.out]; exact any_no (by rw [← Hn.out]; exact hno)
      have Hno := Lib.hid hno; have Hf := Lib.hid hf; clear hno hf
      go_wp2_with fail
      go_ret
      exact ⟨ret_bool Hf.out.symm, bel_drewN Hb0.out _⟩
theorem meets_yes {s wish : List Setg} (h : ∀ j (hj : j < wish.length), s.any (isSet wish[j]) = true) : meetsOf s wish = true := by
  unfold meetsOf
  rw [List.all_eq_true]
  intro x hx
  obtain ⟨j, hj, rfl⟩ := List.mem_iff_getElem.1 hx
  exact h j hj
theorem meets_no {s wish : List Setg} {j : Nat} (hj : j < wish.length) (h : s.any (isSet wish[j]) = false) : meetsOf s wish = false := by
  unfold meetsOf
  rw [List.all_eq_false]
  exact ⟨_, List.getElem_mem hj, by rw [h]; simp⟩
set_option maxRecDepth 10000 in
set_option maxHeartbeats 1000000 in
theorem meetsRef_any {w : World} {v u : Value} {l wish : List Setg} (h : RSets w [v] l) (hw : RSets w [u] wish) : Calls Try.prog 46 #[v, u] w fun e w' => e = .returned (.bool (meetsOf l wish)) ∧ Below w.heap.size w w' := by
  have hH := fun (W : World) (hb : Below w.heap.size w W) (s t : ByteArray) => hasRef04_any (stays_slice stays_set _ _ _ _ h hb) s t
  obtain ⟨a1, n1, c1, rfl⟩ : ∃ a n c, v = .slice a n c := by
    obtain ⟨a, c, e⟩ := sets_shape h
    exact ⟨_, _, _, e⟩
  obtain ⟨a, cap, rfl, hz, g⟩ := sets_open hw
  obtain ⟨n, hn⟩ : ∃ n, n = wish.length := ⟨_, rfl⟩
  obtain ⟨r, hr⟩ : ∃ r, r = meetsOf l wish := ⟨_, rfl⟩
  rw [← hr]
  rw [← hn] at hz hw ⊢
  have Hh := Lib.hid h; have Hw := Lib.hid hw; have Hg := Lib.hid g; have Hn := Lib.hid hn; have Hr := Lib.hid hr; have HH := Lib.hid hH; clear h hw g hn hr hH
  go_enter Try.func46, Try.ntmps46
  go_wp2_with fail
  go_loopw [8] (fun i wr => ∃ k : Nat, k ≤ n ∧ i = .int .i64 k ∧ (∀ j (hj : j < wish.length), j < k → l.any (isSet wish[j]) = true) ∧ Below w.heap.size w wr) (fun i _ => n - (intOf i).toNat)
  case atStart => exact ⟨0, Nat.zero_le _, rfl, fun _ _ h => by omega, Below.refl _ _⟩
  case round =>
    obtain ⟨k, hk, rfl, hno, hb⟩ := hrel
    by_cases hlt : k < n
    · have hkl : k < wish.length := by have := Hn.out; omega
      obtain ⟨b, off, rfl, d0, d1, hs1, hs2⟩ := Hg.out k _ (List.getElem?_eq_getElem hkl)
      have hbad := fun h => meets_no (s := l) hkl h
      have hnx : l.any (isSet wish[k]) = true → ∀ j (hj : j < wish.length), j < k + 1 → l.any (isSet wish[j]) = true := fun h j hj hjk => by
        by_cases e : j = k
        · subst e; exact h
        · exact hno j hj (by omega)
      obtain ⟨x, hx⟩ : ∃ x, x = wish[k] := ⟨_, rfl⟩
      rw [← hx] at d0 d1 hbad hnx
      have e0 := cell_later hb d0
      have e1 := cell_later hb d1
      have hC := HH.out wr hb x.1 x.2
      obtain ⟨s, hs⟩ : ∃ s, s = x.1 := ⟨_, rfl⟩
      obtain ⟨t, ht⟩ : ∃ s, s = x.2 := ⟨_, rfl⟩
      obtain ⟨c, hc⟩ : ∃ c, c = l.any (isSet x) := ⟨_, rfl⟩
      have hc2 : l.any (isSet (x.1, x.2)) = c := hc.symm
      rw [hc2, ← hs, ← ht] at hC
      rw [← hs] at e0
      rw [← ht] at e1
      rw [← hc] at hbad hnx
      have k5 : (0 : Int) ≤ (k : Int) := by omega
      have k6 : (k : Int) < (n : Int) := by omega
      clear d0 d1 hs1 hs2 hc2
      have Hno := Lib.hid hno; have Hb := Lib.hid hb; have Hbad := Lib.hid hbad; have Hnx := Lib.hid hnx; have Hx := Lib.hid hx; have Hs := Lib.hid hs; have Ht := Lib.hid ht; have Hc := Lib.hid hc; have HC := Lib.hid hC; clear hno hb hbad hnx hx hs ht hc hC
      go_wp2_with fail
      refine HC.out.mono ?_
      rintro e w1 ⟨rfl, hb1⟩
      have hb2 := Hb.out.trans (hb1.mono Hb.out.size)
      have Hb1 := Lib.hid hb1; have Hb2 := Lib.hid hb2; clear hb1 hb2
      cases c with
      | true =>
        have hq := Hnx.out rfl
        have Hq := Lib.hid hq; clear hq
        go_wp2_with fail
        go_roundw
        case rel => exact ⟨k + 1, by omega, by go_num, Hq.out, Hb2.out⟩
        case measure => simp [intOf]; omega
      | false =>
        have hf : r = false := by rw [Hr.out]; exact Hbad.out rfl
        have Hf := Lib.hid hf; clear hf
        go_wp2_with fail
        go_ret
        exact ⟨ret_bool Hf.out.symm, Hb2.out⟩
    · obtain rfl : n = k := by omega
      have hf : r = true := by rw [Hr.out]; exact meets_yes (fun j hj => hno j hj (by have := Hn.out; omega))
      have Hno := Lib.hid hno; have Hf := Lib.hid hf; have Hb := Lib.hid hb; clear hno hf hb
      go_wp2_with fail
      go_ret
      exact ⟨ret_bool Hf.out.symm, Hb.out⟩
theorem set_neqs (s t a b : ByteArray) (W : World) : (binOp .neq 38 (.agg #[.string s, .string t]) (.agg #[.string a, .string b])).run Try.prog W = .ok (.bool (!(decide (s = a) && decide (t = b)))) W := by
  have u9 := Try.underlying9
  have hS : Try.prog.underlying 38 = some (.struct (Try.prog.fieldsOf 38)) := by kernel_rfl
  have hp : Try.prog.stoodInHeld 38 = false := by kernel_rfl
  rw [run_neq_struct, show (10000 : Nat) = 9999 + 1 from rfl, run_equalIn_agg W 9999 38 _ _ hS hp]
  simp only [Program.fieldsOf, Try.underlying38]
  go_simp
  have e1 := bytes_dec s a
  have e2 := bytes_dec t b
  by_cases h1 : s = a <;> by_cases h2 : t = b <;> simp [h1, h2] at e1 e2 ⊢ <;> simp_all
set_option maxRecDepth 10000 in
set_option maxHeartbeats 1000000 in
theorem sameRef_any {w : World} {v u : Value} {l m : List Setg} (h : RSets w [v] l) (hm : RSets w [u] m) : Calls Try.prog 48 #[v, u] w fun e w' => e = .returned (.bool (decide (l = m))) ∧ ∃ q, w' = w.drewN q := by
  obtain ⟨a, cap, rfl, hz, g⟩ := sets_open h
  obtain ⟨a2, cap2, rfl, hz2, g2⟩ := sets_open hm
  obtain ⟨n, hn⟩ : ∃ n, n = l.length := ⟨_, rfl⟩
  obtain ⟨n2, hn2⟩ : ∃ n, n = m.length := ⟨_, rfl⟩
  obtain ⟨r, hr⟩ : ∃ r, r = decide (l = m) := ⟨_, rfl⟩
  have q1 := fun s t a b => set_neqs s t a b
  rw [← hr]
  rw [← hn] at hz h ⊢
  rw [← hn2] at hz2 hm ⊢
  have Hh := Lib.hid h; have Hm := Lib.hid hm; have Hg := Lib.hid g; have Hg2 := Lib.hid g2; have Hn := Lib.hid hn; have Hn2 := Lib.hid hn2; have Hr := Lib.hid hr; have Hq1 := Lib.hid q1; clear h hm g g2 hn hn2 hr q1
  go_enter Try.func48, Try.ntmps48
  by_cases hne : n = n2
  case neg =>
    have k1 : ((n : Int) != (n2 : Int)) = true := by simp; omega
    have hf : r = false := by rw [Hr.out, decide_eq_false_iff_not]; intro e; exact hne (by rw [Hn.out, Hn2.out, e])
    have Hf := Lib.hid hf; have Hne := Lib.hid hne; clear hf hne
    go_wp2_with fail
    go_ret
    exact ⟨ret_bool Hf.out.symm, 0, rfl⟩
  have k1 : ((n : Int) != (n2 : Int)) = false := by simp; omega
  have Hne := Lib.hid hne; clear hne
  go_wp2_with fail
  clear k1
  go_loopw [13] (fun i wr => ∃ k : Nat, k ≤ n ∧ i = .int .i64 k ∧ (∀ j (h1 : j < l.length) (h2 : j < m.length), j < k → l[j] = m[j]) ∧ ∃ q, wr = w.drewN q) (fun i _ => n - (intOf i).toNat)
  case atStart => exact ⟨0, Nat.zero_le _, rfl, fun _ _ _ h => by omega, 0, rfl⟩
  case round =>
    obtain ⟨k, hk, rfl, hno, q, rfl⟩ := hrel
    by_cases hlt : k < n
    · have hkl : k < l.length := by have := Hn.out; omega
      have hkm : k < m.length := by have := Hn2.out; have := Hne.out; omega
      obtain ⟨b, off, rfl, d0, d1, _, _⟩ := Hg.out k _ (List.getElem?_eq_getElem hkl)
      obtain ⟨b2, off2, rfl, f0, f1, _, _⟩ := Hg2.out k _ (List.getElem?_eq_getElem hkm)
      have hnx : l[k] = m[k] → ∀ j (h1 : j < l.length) (h2 : j < m.length), j < k + 1 → l[j] = m[j] := fun h j h1 h2 hjk => by
        by_cases e : j = k
        · subst e; exact h
        · exact hno j h1 h2 (by omega)
      have hbd : l[k] ≠ m[k] → l ≠ m := fun h e => h (by subst e; rfl)
      obtain ⟨x, hx⟩ : ∃ x, x = l[k] := ⟨_, rfl⟩
      obtain ⟨y, hy⟩ : ∃ x, x = m[k] := ⟨_, rfl⟩
      rw [← hx] at d0 d1 hnx hbd
      rw [← hy] at f0 f1 hnx hbd
      have q2 := Hq1.out x.1 x.2 y.1 y.2
      have hxy : (decide (x.1 = y.1) && decide (x.2 = y.2)) = decide (x = y) := by
        rw [Bool.eq_iff_iff]
        simp [Prod.ext_iff]
      rw [hxy] at q2
      obtain ⟨s, hs⟩ : ∃ s, s = x.1 := ⟨_, rfl⟩
      obtain ⟨t, ht⟩ : ∃ s, s = x.2 := ⟨_, rfl⟩
      obtain ⟨s', hs'⟩ : ∃ s, s = y.1 := ⟨_, rfl⟩
      obtain ⟨t', ht'⟩ : ∃ s, s = y.2 := ⟨_, rfl⟩
      rw [← hs, ← ht, ← hs', ← ht'] at q2
      rw [← hs] at d0
      rw [← ht] at d1
      rw [← hs'] at f0
      rw [← ht'] at f1
      have k5 : (0 : Int) ≤ (k : Int) := by omega
      have k6 : (k : Int) < (n : Int) := by omega
      have k7 : (k : Int) < (n2 : Int) := by have := Hne.out; omega
      clear hxy
      by_cases e : x = y
      · have hq := hnx e
        rw [decide_eq_true e] at q2
        simp only [Bool.not_true] at q2
        clear e
        have Hno := Lib.hid hno; have Hnx := Lib.hid hnx; have Hbd := Lib.hid hbd; have Hx := Lib.hid hx; have Hy := Lib.hid hy; have Hs := Lib.hid hs; have Ht := Lib.hid ht; have Hs' := Lib.hid hs'; have Ht' := Lib.hid ht'; have Hq := Lib.hid hq; clear hno hnx hbd hx hy hs ht hs' ht' hq
        go_wp2_with fail
        go_region
        go_wp2_with fail
        go_roundw
        case rel => exact ⟨k + 1, by omega, by go_num, Hq.out, _, rfl⟩
        case measure => simp [intOf]; omega
      · have hf : r = false := by rw [Hr.out, decide_eq_false_iff_not]; exact hbd e
        rw [decide_eq_false e] at q2
        simp only [Bool.not_false] at q2
        clear e
        have Hno := Lib.hid hno; have Hnx := Lib.hid hnx; have Hbd := Lib.hid hbd; have Hx := Lib.hid hx; have Hy := Lib.hid hy; have Hs := Lib.hid hs; have Ht := Lib.hid ht; have Hs' := Lib.hid hs'; have Ht' := Lib.hid ht'; have Hf := Lib.hid hf; clear hno hnx hbd hx hy hs ht hs' ht' hf
        go_wp2_with fail
        go_region
        go_wp2_with fail
        go_ret
        exact ⟨ret_bool Hf.out.symm, _, rfl⟩
    · obtain rfl : n = k := by omega
      have hf : r = true := by
        rw [Hr.out, decide_eq_true_eq]
        exact List.ext_getElem (by rw [← Hn.out, ← Hn2.out, Hne.out]) (fun j h1 h2 => hno j h1 h2 (by have := Hn.out; omega))
      have Hno := Lib.hid hno; have Hf := Lib.hid hf; clear hno hf
      go_wp2_with fail
      go_ret
      exact ⟨ret_bool Hf.out.symm, _, rfl⟩
end Go.Proofs.Ytnelgellbabkoaa

/- The walks of slices.IndexFunc and slices.ContainsFunc at Int: the first element of which a predicate holds; whether it holds of one. Condition: what the predicate gives is read off its contract. -/
namespace Go.Proofs.Ytnelgellbabkoaa
open Go.RowKit
namespace IdxInt
theorem cells_1 {ecs : List Value} (h : ecs.length = 1) : ∃ u0, ecs = [u0] := by
  match ecs, h with
  | [u0], _ => exact ⟨u0, rfl⟩

/-- what the predicate is -/
def Pred {α : Type} (R : Rd α) (p : α → Bool) (g : Nat) (cb : Array Value) (l : List α) (w : World) : Prop :=
  ∀ W u0 x, Below w.heap.size w W → x ∈ l → R W [u0] x → Calls Try.prog g (#[u0] ++ cb) W fun e w' => e = .returned (.bool (p x)) ∧ Below W.heap.size W w'
set_option maxRecDepth 10000 in
set_option maxHeartbeats 400000 in
theorem idx_any {α : Type} {R : Rd α} (hR : Stays R) (p : α → Bool) (g : Nat) (cb : Array Value) (eg : ∀ args w, (callFunc g args).run Try.prog w = .ok (.enter g args) w) {w : World} {v : Value} {l : List α} (hl : RSlice 1 R w [v] l) (hp : Pred R p g cb l w) :
    Calls Try.prog 100 #[v, .func (.func g) #[] cb] w fun e w' => e = .returned (.int .i64 (idxOf p l)) ∧ Below w.heap.size w w' := by
  obtain ⟨a, cap, hv, hcap, hmax, hel⟩ := hl
  simp only [List.cons.injEq, and_true] at hv
  subst hv
  unfold maxLen at hmax
  obtain ⟨n, hn⟩ : ∃ n, n = l.length := ⟨_, rfl⟩
  rw [← hn] at hcap ⊢
  have hn63 : n ≤ 9223372036854775807 := by omega
  have Hn := Lib.hid hn; have Hel := Lib.hid hel; have Hp := Lib.hid hp; clear hn hel hp
  go_enter Try.func100, Try.ntmps100
  go_wp2_with fail
  go_loopw [8] (fun i wr => ∃ k : Nat, k ≤ n ∧ i = .int .i64 k ∧ NoneIn p l k ∧ Below w.heap.size w wr) (fun i _ => n - (intOf i).toNat)
  case atStart => exact ⟨0, Nat.zero_le _, rfl, noneIn_zero p l, Below.refl _ _⟩
  case round =>
    obtain ⟨k, hk, rfl, hno, hb⟩ := hrel
    by_cases hlt : k < n
    · have hkl : k < l.length := by have := Hn.out; omega
      obtain ⟨x, hx⟩ : ∃ x, x = l[k]'hkl := ⟨_, rfl⟩
      obtain ⟨b, off, ecs, rfl, h4, h5, h6⟩ := Hel.out k x (by rw [hx]; exact List.getElem?_eq_getElem hkl)
      obtain ⟨u0, rfl⟩ : ∃ u0, ecs = [u0] := cells_1 h4
      have hxl : x ∈ l := by rw [hx]; exact List.getElem_mem hkl
      have c0 : wr.cell? ⟨b, off + k, none⟩ = some u0 := cell_later hb (by simpa using h5 0 u0 rfl)
      have hcall := Hp.out wr u0 x hb hxl (hR _ _ _ _ h6 hb)
      have q0 : (0 : Int) ≤ (k : Int) := by omega
      have q1 : (k : Int) < (n : Int) := by omega
      by_cases hpx : p x = true
      · rw [hpx] at hcall
        have hi : idxOf p l = k := idxOf_at hkl hno (by rw [← hx]; exact hpx)
        have Hx := Lib.hid hx; have Hno := Lib.hid hno; have Hcall := Lib.hid hcall; have H5 := Lib.hid h5; have H6 := Lib.hid h6; have Hpx := Lib.hid hpx; have Hi := Lib.hid hi; have Hb := Lib.hid hb; have Hxl := Lib.hid hxl; clear hx hno hcall h5 h6 hpx hi hb hxl
        clear h4
        go_wp2_with fail
        refine Hcall.out.mono ?_
        rintro e w2 ⟨rfl, hb2⟩
        have hb3 := Hb.out.trans (hb2.mono Hb.out.size)
        have Hb2 := Lib.hid hb2; have Hb3 := Lib.hid hb3; clear hb2 hb3
        go_wp2_with fail
        go_ret
        exact ⟨ret_int Hi.out.symm, Hb3.out⟩
      · have hpx' : p x = false := by simpa using hpx
        rw [hpx'] at hcall
        have hno2 := noneIn_succ hkl hno (by rw [← hx]; exact hpx')
        have Hx := Lib.hid hx; have Hno := Lib.hid hno; have Hcall := Lib.hid hcall; have H5 := Lib.hid h5; have H6 := Lib.hid h6; have Hpx := Lib.hid hpx; have Hpx' := Lib.hid hpx'; have Hno2 := Lib.hid hno2; have Hb := Lib.hid hb; have Hxl := Lib.hid hxl; clear hx hno hcall h5 h6 hpx hpx' hno2 hb hxl
        clear h4
        go_wp2_with fail
        refine Hcall.out.mono ?_
        rintro e w2 ⟨rfl, hb2⟩
        have hb3 := Hb.out.trans (hb2.mono Hb.out.size)
        have Hb2 := Lib.hid hb2; have Hb3 := Lib.hid hb3; clear hb2 hb3
        go_wp2_with fail
        go_roundw
        case rel => exact ⟨k + 1, by omega, by go_num, Hno2.out, Hb3.out⟩
        case measure => simp [intOf]; omega
    · have hi : idxOf p l = -1 := idxOf_none (by have := Hn.out; omega) hno
      have Hno := Lib.hid hno; have Hi := Lib.hid hi; have Hb := Lib.hid hb; clear hno hi hb
      go_wp2_with fail
      go_ret
      exact ⟨ret_int Hi.out.symm, Hb.out⟩
set_option maxRecDepth 10000 in
set_option maxHeartbeats 400000 in
theorem has_any {α : Type} {R : Rd α} (hR : Stays R) (p : α → Bool) (g : Nat) (cb : Array Value) (eg : ∀ args w, (callFunc g args).run Try.prog w = .ok (.enter g args) w) {w : World} {v : Value} {l : List α} (hl : RSlice 1 R w [v] l) (hp : Pred R p g cb l w) :
    Calls Try.prog 53 #[v, .func (.func g) #[] cb] w fun e w' => e = .returned (.bool (l.any p)) ∧ Below w.heap.size w w' := by
  have hI := idx_any hR p g cb eg hl hp
  have hab := idxOf_any p l
  obtain ⟨i, hi⟩ : ∃ i, i = idxOf p l := ⟨_, rfl⟩
  rw [← hi] at hI hab
  have Hl := Lib.hid hl; have Hp := Lib.hid hp; have HI := Lib.hid hI; have Hi := Lib.hid hi; have HR := Lib.hid hR; clear hl hp hI hi hR
  cases hq : l.any p with
  | true =>
    have hpos : 0 ≤ i := hab.1 hq
    have Hq := Lib.hid hq; have Hab := Lib.hid hab; clear hq hab
    go_enter Try.func53, Try.ntmps53
    go_wp2_with fail
    refine HI.out.mono ?_
    rintro e w2 ⟨rfl, hb2⟩
    have Hb2 := Lib.hid hb2; clear hb2
    go_wp2_with fail
    go_ret
    exact ⟨rfl, Hb2.out⟩
  | false =>
    have hneg : i < 0 := by
      rcases Int.lt_or_le i 0 with h | h
      · exact h
      · have := hab.2 h; rw [hq] at this; cases this
    have Hq := Lib.hid hq; have Hab := Lib.hid hab; clear hq hab
    go_enter Try.func53, Try.ntmps53
    go_wp2_with fail
    refine HI.out.mono ?_
    rintro e w2 ⟨rfl, hb2⟩
    have Hb2 := Lib.hid hb2; clear hb2
    go_wp2_with fail
    go_ret
    exact ⟨ret_bool (by simpa using hneg), Hb2.out⟩
end IdxInt
end Go.Proofs.Ytnelgellbabkoaa

/- The walk of cnf.Form: a clause's form. Condition: at most a million literals. -/
namespace Go.Proofs.Ytnelgellbabkoaa
open Go.RowKit Go.Lib Go.Sort

abbrev RIs : Rd (List Int) := RSlice 1 (RInt .i64)
abbrev intv : Int → Value := Value.int .i64

theorem grownBy_of_grow {w w' : World} {row : Option Nat} (h : w.grownBy w' row) (os : Array Obj) : w.grownBy (grow w' os) row :=
  ⟨h.os, h.tape, h.output, by have := h.size; simp; omega, fun k hk hne => by rw [heap_grow_old w' os (by have := h.size; omega)]; exact h.block k hk hne⟩
theorem grownBy_putRow {α : Type} [Inhabited α] (enc : α → Value) (w : World) (g q : Nat) (d : Array α) : w.grownBy (putRow enc (Sort.ahead w q) g 0 d) (some g) :=
  ⟨rfl, rfl, rfl, by simp [putRow, mapBlock, Sort.ahead], fun k _ hne => by
    have : g ≠ k := fun e => hne (by rw [e])
    simp [putRow, mapBlock, Sort.ahead, Array.getElem?_modify, this]⟩
theorem owns_nil_or {w : World} {B : Nat} {e : TypeId} {v : Value} {n : Nat} {xs : List Value} (h : w.ownsRow B e 1 v n xs) (hn : n = 0) : ∃ a cap, v = .slice a 0 cap := by
  rcases h.2 with ⟨h1, _⟩ | ⟨g, cap, cur, h1, _⟩
  · exact ⟨none, 0, h1⟩
  · exact ⟨_, cap, by rw [h1, hn]⟩
theorem owns_some_of {w : World} {B : Nat} {e : TypeId} {v : Value} {n : Nat} {xs : List Value} (h : w.ownsRow B e 1 v n xs) (hn : 0 < n) : v ≠ .slice none 0 0 := by
  rintro rfl
  rcases h.2 with ⟨_, h2⟩ | ⟨g, cap, cur, h1, _⟩
  · have := h.1; rw [h2] at this; simp at this; omega
  · cases h1

/-- the sort of a row of literals that the call owns -/
theorem sort_own {W : World} {B : Nat} {v : Value} {l : List Int} (hown : W.ownsRow B 3 1 v l.length (l.map intv)) (hn : l.length ≤ 1000000) :
    Calls Try.prog 56 #[v, .func (.func 57) #[] #[]] W fun e w' => e = .returned (.tuple #[]) ∧ w'.ownsRow B 3 1 v l.length ((CnfM.srt l).map intv) ∧ W.grownBy w' v.ownBlock := by
  by_cases h0 : l.length = 0
  · obtain ⟨a, cap, rfl⟩ := owns_nil_or hown h0
    have hl : l = [] := List.eq_nil_of_length_eq_zero h0
    subst hl
    exact (Try.slices_SortFunc_none (α := Int) a cap _ W).mono fun e w' ⟨he, hw⟩ => ⟨he, by rw [hw]; simpa [CnfM.srt] using hown, by rw [hw]; exact World.grownBy.refl _ _⟩
  · obtain ⟨g, cap, rfl, hb, hlt, hnc, hcm, hl, hH⟩ := holds_of_ownsRow hown (owns_some_of hown (by omega))
    have eg : ∀ args w, (callFunc 57 args).run Try.prog w = .ok (.enter 57 args) w := enters_of Try.func57 (by kernel_rfl) rfl
    have hcmp : CmpLays1 Try.prog 57 #[] intv CnfM.cf g 0 l.toArray.size W := fun m os dk _ x y => closure_any x y _
    have hC := Try.slices_SortFunc_total intv (fun _ => rfl) CnfM.cf CnfM.swo 57 #[] g 0 cap l.toArray W eg hcmp hH hlt (by simp; omega) CnfM.total
    simp only [List.size_toArray] at hC
    refine hC.mono fun e w' ⟨he, n, os, hw⟩ => ⟨he, ?_, ?_⟩
    · rw [hw]
      have h1 := ownsRow_putRow (q := n) (ys := CnfM.srt l) hown (CnfM.srt_len l) (Nat.le_refl _)
      rw [List.take_of_length_le (Nat.le_of_eq (CnfM.srt_len l))] at h1
      exact h1.kept (grownBy_of_grow (World.grownBy.refl _ none) os) (.inr (by simp [Value.ownBlock]))
    · rw [hw]
      exact grownBy_of_grow (grownBy_putRow _ _ _ _ _) os
theorem cpt_eq (l : List Int) : Lib.compact l = CnfM.cpt l := rfl
theorem compact_own {W : World} {B : Nat} {v : Value} {l : List Int} (hown : W.ownsRow B 3 1 v l.length (l.map intv)) (hn : l.length ≤ 1000000) :
    Calls Try.prog 61 #[v] W fun e w' => ∃ v', e = .returned v' ∧ v'.ownBlock = v.ownBlock ∧ w'.ownsRow B 3 1 v' (CnfM.cpt l).length ((CnfM.cpt l).map intv) ∧ W.grownBy w' v.ownBlock := by
  by_cases h0 : l.length = 0
  · have hl : l = [] := List.eq_nil_of_length_eq_zero h0
    subst hl
    obtain ⟨a, cap, rfl⟩ := owns_nil_or hown rfl
    exact (Try.slices_Compact_int_empty a cap W).mono fun e w' ⟨he, hw⟩ => ⟨_, he, rfl, by rw [hw]; exact hown, by rw [hw]; exact World.grownBy.refl _ _⟩
  · obtain ⟨g, cap, rfl, hb, hlt, hnc, hcm, hl, hH⟩ := holds_of_ownsRow hown (owns_some_of hown (by omega))
    refine (Try.slices_Compact_int g 0 cap l W hH (by omega) hnc).mono fun e w' ⟨he, q, hw⟩ => ⟨_, he, rfl, ?_, ?_⟩
    · rw [hw, cpt_eq]
      have hlen : (CnfM.cpt l).length ≤ l.length := CnfM.cptUpTo_len _ _
      have h1 := ownsRow_putRow (q := q) (k := (CnfM.cpt l).length) (ys := CnfM.cpt l ++ List.replicate (l.length - (CnfM.cpt l).length) 0) hown (by simp; omega) hlen
      rw [List.take_left] at h1
      exact h1
    · rw [hw]
      exact grownBy_putRow _ _ _ _ _
theorem clone_own {W : World} {v : Value} {l : List Int} (h : RIs W [v] l) (hn : l.length ≤ 1000000) :
    Calls Try.prog 55 #[v] W fun e w' => ∃ v', e = .returned v' ∧ w'.ownsRow W.heap.size 3 1 v' l.length (l.map intv) ∧ Below W.heap.size W w' := by
  obtain ⟨a, cap, hv, hcap, hmax, hel⟩ := h
  simp only [List.cons.injEq, and_true] at hv
  subst hv
  cases a with
  | none =>
    have hl : l = [] := by
      cases l with
      | nil => rfl
      | cons x r => obtain ⟨b, off, ecs, h1, _⟩ := hel 0 x rfl; cases h1
    subst hl
    exact (Try.slices_Clone_int_nil 0 cap W).mono fun e w' ⟨he, hw⟩ => ⟨_, he, by rw [hw]; exact World.ownsRow_nil _ _ _ _, by rw [hw]; exact Below.refl _ _⟩
  | some a =>
    by_cases h0 : l.length = 0
    · have hl : l = [] := List.eq_nil_of_length_eq_zero h0
      subst hl
      exact (Try.slices_Clone_int_zero a cap W).mono fun e w' ⟨v', he, h1, _, h2⟩ => ⟨v', he, h1, h2⟩
    · obtain ⟨b, off, _, h1, _⟩ := hel 0 l[0] (List.getElem?_eq_getElem (by omega))
      cases h1
      have hc : ∀ j, j < l.length → W.cell? ⟨b, off + j, none⟩ = some (.int .i64 (l.getD j 0)) := by
        intro j hj
        obtain ⟨b', off', h2, h3, _⟩ := ints_cell hel j hj
        cases h2
        rw [h3, List.getD_eq_getElem?_getD, List.getElem?_eq_getElem hj]; rfl
      refine (Try.slices_Clone_int b off l.length cap l W (Nat.le_refl _) (by omega) hc).mono fun e w' ⟨v', he, h1, _, h2⟩ => ⟨v', he, ?_, h2⟩
      rw [List.take_length] at h1
      exact h1

theorem rint_wf' {x : Int} (h : -9223372036854775808 ≤ x ∧ x ≤ 9223372036854775807) : (Lit.int .i64 x).wf = true := by
  simp [Lit.wf, IntKind.min, IntKind.max, IntKind.signed, IntKind.bits]
  omega
/-- a row of numbers that the call owns reads as they are -/
theorem ints_reads {w : World} {B : Nat} {v : Value} {f : List Int} (hw : ∀ x ∈ f, -9223372036854775808 ≤ x ∧ x ≤ 9223372036854775807) (h : w.ownsRow B 3 1 v f.length (f.map intv)) : RIs w [v] f := by
  obtain ⟨a, cap, rfl, h1, h2, h3⟩ := Sl.of_owns h
  refine ⟨a, cap, rfl, h1, h2, fun i x hi => ?_⟩
  obtain ⟨b, off, ha, hc⟩ := h3 i (intv x) (by rw [List.getElem?_map, hi]; rfl)
  refine ⟨b, off, [intv x], ha, rfl, fun j u hu => ?_, rfl, rint_wf' (hw x (List.mem_of_getElem? hi))⟩
  have hj : j = 0 := by have := (List.getElem?_eq_some_iff.1 hu).1; simp at this; omega
  subst hj
  simp at hu
  subst hu
  simpa using hc
theorem bad_at : ∀ (l : List Int) (k : Nat) (h : k + 1 < l.length), l[k + 1] = CnfM.neg l[k] → CnfM.bad l = true
  | a :: b :: l, 0, _, e => by unfold CnfM.bad; simp at e; simp [e]
  | a :: b :: l, k + 1, h, e => by
    unfold CnfM.bad
    have := bad_at (b :: l) k (by simpa using h) (by simpa using e)
    simp [this]
  | [], _, h, _ => by simp at h
  | [a], _, h, _ => by simp at h
theorem bad_none : ∀ (l : List Int), (∀ k (h : k + 1 < l.length), ¬ l[k + 1] = CnfM.neg l[k]) → CnfM.bad l = false
  | [], _ => rfl
  | [a], _ => rfl
  | a :: b :: l, h => by
    unfold CnfM.bad
    have h0 := h 0 (by simp)
    have h1 := bad_none (b :: l) (fun k hk => by have := h (k + 1) (by simpa using hk); simpa using this)
    simp at h0
    simp [h0, h1]
/-- what Form gives -/
def FormPost (w : World) (l : List Int) (e : Ending) (w' : World) : Prop := ∃ r, e = .returned (.tuple #[r, .bool (CnfM.form l).2]) ∧ w'.ownsRow w.heap.size 3 1 r (CnfM.form l).1.length ((CnfM.form l).1.map intv) ∧ Below w.heap.size w w'
theorem form_post {w w' : World} {l : List Int} {r : Value} {b : Bool} {f : List Int} (h1 : (CnfM.form l) = (f, b)) (h2 : w'.ownsRow w.heap.size 3 1 r f.length (f.map intv)) (h3 : Below w.heap.size w w') : FormPost w l (.returned (.tuple #[r, .bool b])) w' := ⟨r, by rw [h1], by rw [h1]; exact h2, h3⟩
theorem wrong_pred (l : List Int) (w : World) : IdxInt.Pred (RInt .i64) CnfM.wrong 54 #[] l w := by
  intro W u0 x _ _ h
  obtain ⟨h1, _⟩ := h
  simp only [List.cons.injEq, and_true] at h1
  subst h1
  exact (wrong_any x W).mono fun e w' ⟨he, hw⟩ => ⟨he, hw ▸ Below.refl _ _⟩
theorem enters_wrong : ∀ args w, (callFunc 54 args).run Try.prog w = .ok (.enter 54 args) w := enters_of Try.func54 (by kernel_rfl) rfl
set_option maxRecDepth 10000 in
set_option maxHeartbeats 1000000 in
theorem form_any {w : World} {v : Value} {l : List Int} (h : RIs w [v] l) (hn : l.length ≤ 1000000) : Calls Try.prog 14 #[v] w (FormPost w l) := by
  have hW := IdxInt.has_any (stays_int .i64) CnfM.wrong 54 #[] enters_wrong h (wrong_pred l w)
  cases hq : l.any CnfM.wrong with
  | true =>
    rw [hq] at hW
    have hf : CnfM.form l = ([], false) := by unfold CnfM.form; rw [if_pos hq]
    have HW := Lib.hid hW; have Hh := Lib.hid h; have Hq := Lib.hid hq; have Hf := Lib.hid hf; clear hW h hq hf
    go_enter Try.func14, Try.ntmps14
    go_wp2_with fail
    refine HW.out.mono ?_
    rintro e w1 ⟨rfl, hb1⟩
    have Hb1 := Lib.hid hb1; clear hb1
    go_wp2_with fail
    go_ret2
    exact form_post Hf.out (World.ownsRow_nil _ _ _ _) Hb1.out
  | false =>
    rw [hq] at hW
    have hC := fun (W : World) (hb : Below w.heap.size w W) => clone_own (stays_slice (stays_int .i64) _ _ _ _ h hb) hn
    have hf : CnfM.form l = if CnfM.bad (CnfM.cpt (CnfM.srt l)) = true then ([], false) else (CnfM.cpt (CnfM.srt l), true) := by unfold CnfM.form; rw [if_neg (by rw [hq]; simp)]
    have hS := fun (W : World) B v' (ho : W.ownsRow B 3 1 v' l.length (l.map intv)) => sort_own ho hn
    have hK := fun (W : World) B v' (ho : W.ownsRow B 3 1 v' l.length ((CnfM.srt l).map intv)) => by have hl := CnfM.srt_len l; exact compact_own (l := CnfM.srt l) (by rw [hl]; exact ho) (by rw [hl]; exact hn)
    have hr := CnfM.row_len l
    obtain ⟨r, hrr⟩ : ∃ r, r = CnfM.cpt (CnfM.srt l) := ⟨_, rfl⟩
    rw [← hrr] at hf hr hK
    have hN := hn
    have HW := Lib.hid hW; have Hh := Lib.hid h; have Hq := Lib.hid hq; have Hf := Lib.hid hf; have HC := Lib.hid hC; have HS := Lib.hid hS; have HK := Lib.hid hK; have Hrr := Lib.hid hrr; have Hn := Lib.hid hn; clear hW h hq hf hC hS hK hrr hn
    go_enter Try.func14, Try.ntmps14
    go_wp2_with fail
    refine HW.out.mono ?_
    rintro e w1 ⟨rfl, hb1⟩
    have hc1 := HC.out w1 hb1
    have Hb1 := Lib.hid hb1; have Hc1 := Lib.hid hc1; clear hb1 hc1
    go_wp2_with fail
    refine Hc1.out.mono ?_
    rintro e w2 ⟨v2, rfl, ho2, hb2⟩
    have hs2 := HS.out w2 _ v2 ho2
    have hb2' := Hb1.out.trans (hb2.mono Hb1.out.size)
    have hz2 : w.heap.size ≤ w1.heap.size := Hb1.out.size
    have Ho2 := Lib.hid ho2; have Hb2 := Lib.hid hb2; have Hs2 := Lib.hid hs2; have Hb2' := Lib.hid hb2'; clear ho2 hb2 hs2 hb2'
    go_wp2_with fail
    refine Hs2.out.mono ?_
    rintro e w3 ⟨rfl, ho3, hg3⟩
    have hb3 := bel_own Hb2'.out Ho2.out hz2 hg3 Hb2'.out.size
    have hk3 := HK.out w3 _ v2 ho3
    have Hg3 := Lib.hid hg3; have Hb3 := Lib.hid hb3; have Hk3 := Lib.hid hk3; clear hg3 hb3 hk3
    go_wp2_with fail
    refine Hk3.out.mono ?_
    rintro e w4 ⟨v4, rfl, hv4, ho4, hg4⟩
    have hb4 := bel_own Hb3.out ho3 hz2 hg4 Hb3.out.size
    have ho5 := ownsRow_mono ho4 hz2
    have hsl := Sl.of_owns ho5
    obtain ⟨a, cap, rfl, hcap, hmax, hel⟩ := hsl
    unfold maxLen at hmax
    obtain ⟨n, hnn⟩ : ∃ n, n = r.length := ⟨_, rfl⟩
    rw [← hnn] at hr hcap ⊢
    have Ho3 := Lib.hid ho3; have Hv4 := Lib.hid hv4; have Ho4 := Lib.hid ho4; have Hg4 := Lib.hid hg4; have Hb4 := Lib.hid hb4; have Ho5 := Lib.hid ho5; have Hel := Lib.hid hel; have Hnn := Lib.hid hnn; clear ho3 hv4 ho4 hg4 hb4 ho5 hel hnn
    go_wp2_with fail
    go_loopw [5] (fun i wr => ∃ k : Nat, 1 ≤ k ∧ i = .int .i64 k ∧ k ≤ n + 1 ∧ (∀ j (hj : j + 1 < r.length), j + 1 < k → ¬ r[j + 1] = CnfM.neg r[j]) ∧ ∃ q, wr = w4.drewN q) (fun i _ => n + 1 - (intOf i).toNat)
    case atStart => exact ⟨1, Nat.le_refl _, rfl, by omega, fun j _ h => by omega, 0, rfl⟩
    case round =>
      obtain ⟨k, hk1, rfl, hk2, hno, q, rfl⟩ := hrel
      by_cases hlt : k < n
      · have hkl : k < r.length := by have := Hnn.out; omega
        obtain ⟨j, rfl⟩ : ∃ j, k = j + 1 := ⟨k - 1, by omega⟩
        obtain ⟨x, hx⟩ : ∃ x, x = r[j]'(by omega) := ⟨_, rfl⟩
        obtain ⟨y, hy⟩ : ∃ y, y = r[j + 1]'hkl := ⟨_, rfl⟩
        obtain ⟨b, off, rfl, c1⟩ := Hel.out (j + 1) (intv y) (by rw [List.getElem?_map, List.getElem?_eq_getElem hkl, hy]; rfl)
        obtain ⟨b', off', h1, c0⟩ := Hel.out j (intv x) (by rw [List.getElem?_map, List.getElem?_eq_getElem (by omega), hx]; rfl)
        cases h1
        have k1 : IntKind.i64.wrap (((j : Int) + 1) - 1) = (j : Int) := by rw [IntWalk.i64_in _ (by omega)]; omega
        have k2 : ((j : Int) + 1).toNat = j + 1 := by omega
        have k3 : (0 : Int) ≤ (j : Int) + 1 := by omega
        have k4 : (j : Int) + 1 < (n : Int) := by omega
        have k5 : (0 : Int) ≤ (j : Int) := by omega
        have k6 : (j : Int) < (n : Int) := by omega
        by_cases he : y = wrap64 (-x)
        · have e1 : (y == wrap64 (-x)) = true := by rw [he]; exact beq_self_eq_true _
          have hbad : CnfM.bad r = true := bad_at r j hkl (by rw [← hx, ← hy]; exact he)
          have hff : CnfM.form l = ([], false) := by rw [Hf.out, if_pos hbad]
          have Hx := Lib.hid hx; have Hy := Lib.hid hy; have Hno := Lib.hid hno; have He := Lib.hid he; have Hbad := Lib.hid hbad; have Hff := Lib.hid hff; clear hx hy hno he hbad hff
          go_wp2_with fail
          go_quiet (fail)
          go_wp2_with fail
          go_ret2
          exact form_post Hff.out (World.ownsRow_nil _ _ _ _) (bel_drewN (bel_drewN Hb4.out _) _)
        · have e1 : (y == wrap64 (-x)) = false := by simpa using he
          have hno2 : ∀ i (hi : i + 1 < r.length), i + 1 < j + 1 + 1 → ¬ r[i + 1] = CnfM.neg r[i] := by
            intro i hi hij
            by_cases e : i = j
            · subst e; rw [← hx, ← hy]; exact he
            · exact hno i hi (by omega)
          have Hx := Lib.hid hx; have Hy := Lib.hid hy; have Hno := Lib.hid hno; have He := Lib.hid he; have Hno2 := Lib.hid hno2; clear hx hy hno he hno2
          go_wp2_with fail
          go_quiet (fail)
          go_wp2_with fail
          go_roundw
          case rel => exact ⟨j + 1 + 1, by omega, by go_num, by omega, Hno2.out, _, rfl⟩
          case measure => simp [intOf]; omega
      · have hbad : CnfM.bad r = false := bad_none r (fun j hj => hno j hj (by have := Hnn.out; omega))
        have hff : CnfM.form l = (r, true) := by rw [Hf.out, if_neg (by rw [hbad]; simp)]
        have Hno := Lib.hid hno; have Hbad := Lib.hid hbad; have Hff := Lib.hid hff; clear hno hbad hff
        go_wp2_with fail
        go_ret2
        exact form_post Hff.out (by have := Ho5.out; rw [← Hnn.out] at this ⊢; exact this) (bel_drewN Hb4.out _)
end Go.Proofs.Ytnelgellbabkoaa

/- The walks of cooperref12: Same, SameAll. No condition. -/
namespace Go.Proofs.Ytnelgellbabkoaa
open Go.RowKit Go.Lib Go.Sort

theorem quiet_eq {P : Program} {f : FuncId} {args : Array Value} {w : World} {n : Nat} {v : Value}
    (h : Calls P f args (w.drewN n) fun e w' => e = .returned v ∧ ∃ q, w' = (w.drewN n).drewN q) : Calls P f args (w.drewN n) fun e w'' => e = .returned v ∧ ∃ m, w'' = w.drewN m :=
  h.mono fun _ _ ⟨he, q, hq⟩ => ⟨he, n + q, by rw [hq, World.drewN_drewN]⟩
theorem quiet_addl {P : Program} {f : FuncId} {args : Array Value} {w : World} {a n : Nat} {v : Value}
    (h : Calls P f args (w.drewN (a + n)) fun e w' => e = .returned v ∧ ∃ m, w' = (w.drewN (a + n)).drewN m) :
    Calls P f args (w.drewN (a + n)) fun e w'' => e = .returned v ∧ ∃ m, w'' = w.drewN (a + m) :=
  h.mono fun _ _ ⟨he, m, hm⟩ => ⟨he, n + m, by rw [hm, World.drewN_drewN, Nat.add_assoc]⟩
theorem rslice_drewN {α : Type} {sz : Nat} {R : Rd α} (hR : Stays R) {w : World} {cs : List Value} {l : List α} (h : RSlice sz R w cs l) (n : Nat) : RSlice sz R (w.drewN n) cs l := stays_slice hR _ _ _ _ h (bel_drewN (Below.refl _ _) n)
theorem ints_open {w : World} {v : Value} {l : List Int} (h : RIs w [v] l) : ∃ a cap, v = .slice a l.length cap ∧ l.length ≤ 9223372036854775807 ∧ ∀ i (hi : i < l.length), ∃ b off, a = some ⟨b, off, none⟩ ∧ w.cell? ⟨b, off + i, none⟩ = some (.int .i64 l[i]) ∧ -9223372036854775808 ≤ l[i] ∧ l[i] ≤ 9223372036854775807 := by
  obtain ⟨a, cap, hv, hcap, hmax, hel⟩ := h
  simp only [List.cons.injEq, and_true] at hv
  unfold maxLen at hmax
  exact ⟨a, cap, hv, by omega, fun i hi => ints_cell hel i hi⟩
/-- a difference at a place -/
theorem ne_at {α : Type} {l m : List α} {k : Nat} (h1 : k < l.length) (h2 : k < m.length) (h : l[k] ≠ m[k]) : l ≠ m := by rintro rfl; exact h rfl
theorem eq_all {α : Type} {l m : List α} (h : l.length = m.length) (hk : ∀ i (h1 : i < l.length) (h2 : i < m.length), l[i] = m[i]) : l = m := List.ext_getElem h hk
set_option maxRecDepth 10000 in
set_option maxHeartbeats 1000000 in
theorem same12_any {w : World} {u v : Value} {l m : List Int} (hl : RIs w [u] l) (hm : RIs w [v] m) : Calls Try.prog 15 #[u, v] w fun e w' => e = .returned (.bool (decide (l = m))) ∧ ∃ q, w' = w.drewN q := by
  obtain ⟨a1, c1, rfl, hz1, g1⟩ := ints_open hl
  obtain ⟨a2, c2, rfl, hz2, g2⟩ := ints_open hm
  clear hl hm
  obtain ⟨n, hn⟩ : ∃ n, n = l.length := ⟨_, rfl⟩
  obtain ⟨n2, hn2⟩ : ∃ n, n = m.length := ⟨_, rfl⟩
  obtain ⟨r, hr⟩ : ∃ r, r = decide (l = m) := ⟨_, rfl⟩
  rw [← hn] at hz1 ⊢
  rw [← hn2] at hz2 ⊢
  rw [← hr]
  by_cases hne : n = n2
  · subst hne
    have e0 : ((n : Int) != (n : Int)) = false := by simp
    have Hg1 := Lib.hid g1; have Hg2 := Lib.hid g2; have Hn := Lib.hid hn; have Hn2 := Lib.hid hn2; have Hr := Lib.hid hr; clear g1 g2 hn hn2 hr
    go_enter Try.func15, Try.ntmps15
    go_wp2_with fail
    go_loopw [13] (fun i wr => ∃ k : Nat, k ≤ n ∧ i = .int .i64 k ∧ (∀ j (h1 : j < l.length) (h2 : j < m.length), j < k → l[j] = m[j]) ∧ ∃ q, wr = w.drewN q) (fun i _ => n - (intOf i).toNat)
    case atStart => exact ⟨0, Nat.zero_le _, rfl, fun j _ _ h => by omega, 0, rfl⟩
    case round =>
      obtain ⟨k, hk, rfl, heq, q, rfl⟩ := hrel
      by_cases hlt : k < n
      · have hk1 : k < l.length := by have := Hn.out; omega
        have hk2 : k < m.length := by have := Hn2.out; omega
        obtain ⟨b1, o1, rfl, d1, _⟩ := Hg1.out k hk1
        obtain ⟨b2, o2, rfl, d2, _⟩ := Hg2.out k hk2
        obtain ⟨x, hx⟩ : ∃ x, x = l[k] := ⟨_, rfl⟩
        obtain ⟨y, hy⟩ : ∃ y, y = m[k] := ⟨_, rfl⟩
        rw [← hx] at d1
        rw [← hy] at d2
        have k5 : (0 : Int) ≤ (k : Int) := by omega
        have k6 : (k : Int) < (n : Int) := by omega
        by_cases he : x = y
        · have e1 : (x != y) = false := by rw [he]; simp
          have heq2 : ∀ j (h1 : j < l.length) (h2 : j < m.length), j < k + 1 → l[j] = m[j] := fun j h1 h2 hj => by
            by_cases e : j = k
            · subst e; rw [← hx, ← hy]; exact he
            · exact heq j h1 h2 (by omega)
          have Hx := Lib.hid hx; have Hy := Lib.hid hy; have Heq := Lib.hid heq; have He := Lib.hid he; have Heq2 := Lib.hid heq2; clear hx hy heq he heq2
          go_wp2_with fail
          go_quiet (fail)
          go_wp2_with fail
          go_roundw
          case rel => exact ⟨k + 1, by omega, by go_num, Heq2.out, _, rfl⟩
          case measure => simp [intOf]; omega
        · have e1 : (x != y) = true := by simpa using he
          have hf : r = false := by rw [Hr.out]; exact decide_eq_false (ne_at hk1 hk2 (by rw [← hx, ← hy]; exact he))
          have Hx := Lib.hid hx; have Hy := Lib.hid hy; have Heq := Lib.hid heq; have He := Lib.hid he; have Hf := Lib.hid hf; clear hx hy heq he hf
          go_wp2_with fail
          go_quiet (fail)
          go_wp2_with fail
          go_ret
          exact ⟨ret_bool Hf.out.symm, q + nq, World.drewN_drewN _ _ _⟩
      · have hf : r = true := by
          rw [Hr.out]
          exact decide_eq_true (eq_all (by rw [← Hn.out, ← Hn2.out]) (fun j h1 h2 => heq j h1 h2 (by have := Hn.out; omega)))
        have Heq := Lib.hid heq; have Hf := Lib.hid hf; clear heq hf
        go_wp2_with fail
        go_ret
        exact ⟨ret_bool Hf.out.symm, _, rfl⟩
  · have e0 : ((n : Int) != (n2 : Int)) = true := by rw [bne_iff_ne]; omega
    have hf : r = false := by rw [hr]; exact decide_eq_false (by rintro rfl; omega)
    have Hg1 := Lib.hid g1; have Hg2 := Lib.hid g2; have Hn := Lib.hid hn; have Hn2 := Lib.hid hn2; have Hr := Lib.hid hr; have Hf := Lib.hid hf; have Hne := Lib.hid hne; clear g1 g2 hn hn2 hr hf hne
    go_enter Try.func15, Try.ntmps15
    go_wp2_with fail
    go_ret
    exact ⟨ret_bool Hf.out.symm, 0, rfl⟩
abbrev RIss : Rd (List (List Int)) := RSlice 1 RIs
theorem rows_open {w : World} {v : Value} {l : List (List Int)} (h : RIss w [v] l) : ∃ a cap, v = .slice a l.length cap ∧ l.length ≤ 9223372036854775807 ∧ ∀ i (hi : i < l.length), ∃ b off u, a = some ⟨b, off, none⟩ ∧ w.cell? ⟨b, off + i, none⟩ = some u ∧ RIs w [u] l[i] := by
  obtain ⟨a, cap, hv, hcap, hmax, hel⟩ := h
  simp only [List.cons.injEq, and_true] at hv
  unfold maxLen at hmax
  refine ⟨a, cap, hv, by omega, fun i hi => ?_⟩
  obtain ⟨b, off, ecs, h1, h2, h3, h4⟩ := hel i l[i] (List.getElem?_eq_getElem hi)
  obtain ⟨u, rfl⟩ := IdxInt.cells_1 h2
  exact ⟨b, off, u, h1, by simpa using h3 0 u rfl, h4⟩
set_option maxRecDepth 10000 in
set_option maxHeartbeats 1000000 in
theorem sameAll12_any {w : World} {u v : Value} {l m : List (List Int)} (hl : RIss w [u] l) (hm : RIss w [v] m) : Calls Try.prog 51 #[u, v] w fun e w' => e = .returned (.bool (decide (l = m))) ∧ ∃ q, w' = w.drewN q := by
  obtain ⟨a1, c1, rfl, hz1, g1⟩ := rows_open hl
  obtain ⟨a2, c2, rfl, hz2, g2⟩ := rows_open hm
  clear hl hm
  obtain ⟨n, hn⟩ : ∃ n, n = l.length := ⟨_, rfl⟩
  obtain ⟨n2, hn2⟩ : ∃ n, n = m.length := ⟨_, rfl⟩
  obtain ⟨r, hr⟩ : ∃ r, r = decide (l = m) := ⟨_, rfl⟩
  rw [← hn] at hz1 ⊢
  rw [← hn2] at hz2 ⊢
  rw [← hr]
  by_cases hne : n = n2
  · subst hne
    have e0 : ((n : Int) != (n : Int)) = false := by simp
    have Hg1 := Lib.hid g1; have Hg2 := Lib.hid g2; have Hn := Lib.hid hn; have Hn2 := Lib.hid hn2; have Hr := Lib.hid hr; clear g1 g2 hn hn2 hr
    go_enter Try.func51, Try.ntmps51
    go_wp2_with fail
    go_loopw [13] (fun i wr => ∃ k : Nat, k ≤ n ∧ i = .int .i64 k ∧ (∀ j (h1 : j < l.length) (h2 : j < m.length), j < k → l[j] = m[j]) ∧ ∃ q, wr = w.drewN q) (fun i _ => n - (intOf i).toNat)
    case atStart => exact ⟨0, Nat.zero_le _, rfl, fun j _ _ h => by omega, 0, rfl⟩
    case round =>
      obtain ⟨k, hk, rfl, heq, q, rfl⟩ := hrel
      by_cases hlt : k < n
      · have hk1 : k < l.length := by have := Hn.out; omega
        have hk2 : k < m.length := by have := Hn2.out; omega
        obtain ⟨b1, o1, u1, rfl, d1, s1⟩ := Hg1.out k hk1
        obtain ⟨b2, o2, u2, rfl, d2, s2⟩ := Hg2.out k hk2
        obtain ⟨x, hx⟩ : ∃ x, x = l[k] := ⟨_, rfl⟩
        obtain ⟨y, hy⟩ : ∃ y, y = m[k] := ⟨_, rfl⟩
        rw [← hx] at s1
        rw [← hy] at s2
        have k5 : (0 : Int) ≤ (k : Int) := by omega
        have k6 : (k : Int) < (n : Int) := by omega
        have hcall := fun i => same12_any (rslice_drewN (stays_int .i64) s1 i) (rslice_drewN (stays_int .i64) s2 i)
        by_cases he : x = y
        · have e1 : decide (x = y) = true := decide_eq_true he
          rw [e1] at hcall
          have heq2 : ∀ j (h1 : j < l.length) (h2 : j < m.length), j < k + 1 → l[j] = m[j] := fun j h1 h2 hj => by
            by_cases e : j = k
            · subst e; rw [← hx, ← hy]; exact he
            · exact heq j h1 h2 (by omega)
          have Hx := Lib.hid hx; have Hy := Lib.hid hy; have Heq := Lib.hid heq; have He := Lib.hid he; have Heq2 := Lib.hid heq2; have Hs1 := Lib.hid s1; have Hs2 := Lib.hid s2; have Hcall := Lib.hid hcall; clear hx hy heq he heq2 s1 s2 hcall
          clear e1
          go_wp2_with fail
          go_quiet ((go_at_call 15; exact quiet_addl (Hcall.out _)))
          go_wp2_with fail
          go_roundw
          case rel => exact ⟨k + 1, by omega, by go_num, Heq2.out, _, rfl⟩
          case measure => simp [intOf]; omega
        · have e1 : decide (x = y) = false := decide_eq_false he
          rw [e1] at hcall
          have hf : r = false := by rw [Hr.out]; exact decide_eq_false (ne_at hk1 hk2 (by rw [← hx, ← hy]; exact he))
          have Hx := Lib.hid hx; have Hy := Lib.hid hy; have Heq := Lib.hid heq; have He := Lib.hid he; have Hf := Lib.hid hf; have Hs1 := Lib.hid s1; have Hs2 := Lib.hid s2; have Hcall := Lib.hid hcall; clear hx hy heq he hf s1 s2 hcall
          clear e1
          go_wp2_with fail
          go_quiet ((go_at_call 15; exact quiet_addl (Hcall.out _)))
          go_wp2_with fail
          go_ret
          exact ⟨ret_bool Hf.out.symm, _, World.drewN_drewN _ _ _⟩
      · have hf : r = true := by
          rw [Hr.out]
          exact decide_eq_true (eq_all (by rw [← Hn.out, ← Hn2.out]) (fun j h1 h2 => heq j h1 h2 (by have := Hn.out; omega)))
        have Heq := Lib.hid heq; have Hf := Lib.hid hf; clear heq hf
        go_wp2_with fail
        go_ret
        exact ⟨ret_bool Hf.out.symm, _, rfl⟩
  · have e0 : ((n : Int) != (n2 : Int)) = true := by rw [bne_iff_ne]; omega
    have hf : r = false := by rw [hr]; exact decide_eq_false (by rintro rfl; omega)
    have Hg1 := Lib.hid g1; have Hg2 := Lib.hid g2; have Hn := Lib.hid hn; have Hn2 := Lib.hid hn2; have Hr := Lib.hid hr; have Hf := Lib.hid hf; have Hne := Lib.hid hne; clear g1 g2 hn hn2 hr hf hne
    go_enter Try.func51, Try.ntmps51
    go_wp2_with fail
    go_ret
    exact ⟨ret_bool Hf.out.symm, 0, rfl⟩
end Go.Proofs.Ytnelgellbabkoaa

/- The walks of cooperref04.Great and Wish: they answer. No condition. -/
namespace Go.Proofs.Ytnelgellbabkoaa
open Go.RowKit Go.Shelf VarM

set_option maxRecDepth 10000 in
set_option maxHeartbeats 1000000 in
theorem greatSets_any {w : World} {v : Value} {l : List Setg} (h : RSets w [v] l) : Calls Try.prog 30 #[v] w fun e w' => (∃ r, e = .returned (.bool r) ∧ (r = false → l.length ≤ 50)) ∧ w = w' := by
  obtain ⟨a, cap, rfl, hz, g⟩ := sets_open h
  obtain ⟨n, hn⟩ : ∃ n, n = l.length := ⟨_, rfl⟩
  rw [← hn] at hz h ⊢
  have Hh := Lib.hid h; have Hg := Lib.hid g; have Hn := Lib.hid hn; clear h g hn
  go_enter Try.func30, Try.ntmps30
  by_cases h50 : 50 < n
  · have k1 : decide ((50 : Int) < (n : Int)) = true := by simp; omega
    go_wp2_with fail
    go_ret
    exact ⟨⟨true, rfl, fun h => by cases h⟩, rfl⟩
  · have k1 : decide ((50 : Int) < (n : Int)) = false := by simp; omega
    have h50' : n ≤ 50 := by omega
    go_wp2_with fail
    clear k1 h50
    go_loopw [9] (fun i wr => ∃ k : Nat, k ≤ n ∧ i = .int .i64 k ∧ w = wr) (fun i _ => n - (intOf i).toNat)
    case atStart => exact ⟨0, Nat.zero_le _, rfl, rfl⟩
    case round =>
      obtain ⟨k, hk, rfl, rfl⟩ := hrel
      by_cases hlt : k < n
      · have hkl : k < l.length := by have := Hn.out; omega
        obtain ⟨b, off, rfl, d0, d1, hs1, hs2⟩ := Hg.out k _ (List.getElem?_eq_getElem hkl)
        obtain ⟨x, hx⟩ : ∃ x, x = l[k] := ⟨_, rfl⟩
        rw [← hx] at d0 d1 hs1 hs2
        obtain ⟨s, hs⟩ : ∃ s, s = x.1 := ⟨_, rfl⟩
        obtain ⟨t, ht⟩ : ∃ s, s = x.2 := ⟨_, rfl⟩
        rw [← hs] at d0 hs1
        rw [← ht] at d1 hs2
        have k5 : (0 : Int) ≤ (k : Int) := by omega
        have k6 : (k : Int) < (n : Int) := by omega
        clear hx hkl hs ht
        by_cases h100 : 100 < s.size
        · have k7 : decide ((100 : Int) < (s.size : Int)) = true := by simp; omega
          go_wp2_with fail
          go_ret
          exact ⟨⟨true, rfl, fun h => by cases h⟩, rfl⟩
        · have k7 : decide ((100 : Int) < (s.size : Int)) = false := by simp; omega
          by_cases hm20 : 100 < t.size
          · have k8 : decide ((100 : Int) < (t.size : Int)) = true := by simp; omega
            go_wp2_with fail
            go_ret
            exact ⟨⟨true, rfl, fun h => by cases h⟩, rfl⟩
          · have k8 : decide ((100 : Int) < (t.size : Int)) = false := by simp; omega
            go_wp2_with fail
            go_roundw
            case rel => exact ⟨k + 1, by omega, by go_num, by first | rfl | trivial⟩
            case measure => simp [intOf]; omega
      · obtain rfl : k = n := by omega
        go_wp2_with fail
        go_ret
        exact ⟨⟨false, rfl, fun _ => by have := Hn.out; omega⟩, rfl⟩
set_option maxRecDepth 10000 in
set_option maxHeartbeats 2000000 in
theorem wishRef_any {w : World} {v : Value} {l : List Setg} (h : RSets w [v] l) : Calls Try.prog 31 #[v] w fun e w' => (∃ r, e = .returned (.bool r)) ∧ ∃ q, w' = w.drewN q := by
  obtain ⟨a, cap, rfl, hz, g⟩ := sets_open h
  obtain ⟨n, hn⟩ : ∃ n, n = l.length := ⟨_, rfl⟩
  rw [← hn] at hz h ⊢
  have Hh := Lib.hid h; have Hg := Lib.hid g; have Hn := Lib.hid hn; clear h g hn
  go_enter Try.func31, Try.ntmps31
  go_wp2_with fail
  go_loopw [6] (fun i wr => ∃ k : Nat, k ≤ n ∧ i = .int .i64 k ∧ ∃ q, wr = w.drewN q) (fun i _ => n - (intOf i).toNat)
  case atStart => exact ⟨0, Nat.zero_le _, rfl, 0, rfl⟩
  case round =>
    obtain ⟨k, hk, rfl, q, rfl⟩ := hrel
    by_cases hlt : k < n
    · have hkl : k < l.length := by have := Hn.out; omega
      obtain ⟨b, off, rfl, d0, d1, hs1, hs2⟩ := Hg.out k _ (List.getElem?_eq_getElem hkl)
      obtain ⟨x, hx⟩ : ∃ x, x = l[k] := ⟨_, rfl⟩
      rw [← hx] at d0 d1 hs1 hs2
      obtain ⟨s, hs⟩ : ∃ s, s = x.1 := ⟨_, rfl⟩
      obtain ⟨t, ht⟩ : ∃ s, s = x.2 := ⟨_, rfl⟩
      rw [← hs] at d0 hs1
      rw [← ht] at d1 hs2
      have hN := fun (W : World) => (nameRef_any s hs1 W).mono (fun e w' (⟨he, hw⟩ : _ ∧ W = w') => (⟨he, 0, hw.symm⟩ : e = _ ∧ ∃ m, w' = W.drewN m))
      have hV := fun (W : World) => (valueRef_any t hs2 W).mono (fun e w' (⟨he, hw⟩ : _ ∧ W = w') => (⟨he, 0, hw.symm⟩ : e = _ ∧ ∃ m, w' = W.drewN m))
      obtain ⟨p1, hp1⟩ : ∃ p, p = nameOf s.data.toList := ⟨_, rfl⟩
      obtain ⟨p2, hp2⟩ : ∃ p, p = valueOf t.data.toList := ⟨_, rfl⟩
      rw [← hp1] at hN
      rw [← hp2] at hV
      have k5 : (0 : Int) ≤ (k : Int) := by omega
      have k6 : (k : Int) < (n : Int) := by omega
      clear hx hkl hs ht
      have HN := Lib.hid hN; have HV := Lib.hid hV; have Hp1 := Lib.hid hp1; have Hp2 := Lib.hid hp2; clear hN hV hp1 hp2
      cases p1 with
      | false =>
        go_wp2_with fail
        go_quiet (first | (go_at_call 18; exact quiet_addl (HN.out _)) | (go_at_call 20; exact quiet_addl (HV.out _)))
        go_wp2_with fail
        go_ret
        exact ⟨⟨_, rfl⟩, _, by rw [World.drewN_drewN]⟩
      | true =>
        cases p2 with
        | false =>
          go_wp2_with fail
          go_quiet (first | (go_at_call 18; exact quiet_addl (HN.out _)) | (go_at_call 20; exact quiet_addl (HV.out _)))
          go_wp2_with fail
          go_ret
          exact ⟨⟨_, rfl⟩, _, by rw [World.drewN_drewN]⟩
        | true =>
          by_cases h0 : 0 < k
          · obtain ⟨k', rfl⟩ : ∃ k', k = k' + 1 := ⟨k - 1, by omega⟩
            have hkl' : k' < l.length := by have := Hn.out; omega
            obtain ⟨b2, off2, e2, f0, f1, hs3, hs4⟩ := Hg.out k' _ (List.getElem?_eq_getElem hkl')
            injection e2 with e2
            injection e2 with e3 e4
            subst e3 e4
            obtain ⟨z, hz4⟩ : ∃ z, z = l[k'].1 := ⟨_, rfl⟩
            rw [← hz4] at f0 hs3
            clear hz4 hkl' f1 hs4
            have k7 : decide ((0 : Int) < ((k' + 1 : Nat) : Int)) = true := by rw [decide_eq_true_eq]; omega
            have k8 : (((k' + 1 : Nat) : Int) - 1) = (k' : Int) := by omega
            have k11 : IntKind.i64.wrap (((k' + 1 : Nat) : Int) - 1) = (k' : Int) := by rw [k8]; exact IntWalk.i64_in _ (by omega)
            have k9 : (0 : Int) ≤ (k' : Int) := by omega
            have k10 : (k' : Int) < (n : Int) := by omega
            go_wp2_with fail
            go_quiet (first | (go_at_call 18; exact quiet_addl (HN.out _)) | (go_at_call 20; exact quiet_addl (HV.out _)))
            cases Op.bytesLess z.toList s.toList with
            | true =>
              go_wp2_with fail
              go_roundw
              case rel => exact ⟨k' + 1 + 1, by omega, by go_num, _, rfl⟩
              case measure => simp [intOf]; omega
            | false =>
              go_wp2_with fail
              go_ret
              exact ⟨⟨_, rfl⟩, _, by rw [World.drewN_drewN]⟩
          · have k7 : decide ((0 : Int) < (k : Int)) = false := by rw [decide_eq_false_iff_not]; omega
            go_wp2_with fail
            go_quiet (first | (go_at_call 18; exact quiet_addl (HN.out _)) | (go_at_call 20; exact quiet_addl (HV.out _)))
            go_wp2_with fail
            go_roundw
            case rel => exact ⟨k + 1, by omega, by go_num, _, rfl⟩
            case measure => simp [intOf]; omega
    · obtain rfl : n = k := by omega
      go_wp2_with fail
      go_ret
      exact ⟨⟨_, rfl⟩, _, rfl⟩
end Go.Proofs.Ytnelgellbabkoaa

/- The walk of cooperref04.Wish, exactly: are settings a wish. No condition. -/
namespace Go.Proofs.Ytnelgellbabkoaa
open Go.RowKit Go.Shelf VarM
attribute [local go_sem ↓] Go.wp_at_zero Go.wp_at_succ

/-- may a setting stand at its place in a wish? -/
def wishAt (l : List Setg) (i : Nat) : Bool := match l[i]? with
  | none => true
  | some x => nameOf x.1.data.toList && valueOf x.2.data.toList && (decide (i = 0) || Op.bytesLess (l.getD (i - 1) (⟨#[]⟩, ⟨#[]⟩)).1.toList x.1.toList)
def wishIs (l : List Setg) : Bool := (List.range l.length).all (wishAt l)
theorem wishAt_eq {l : List Setg} {i : Nat} (h : i < l.length) : wishAt l i = (nameOf l[i].1.data.toList && valueOf l[i].2.data.toList && (decide (i = 0) || Op.bytesLess (l.getD (i - 1) (⟨#[]⟩, ⟨#[]⟩)).1.toList l[i].1.toList)) := by
  unfold wishAt
  rw [List.getElem?_eq_getElem h]
theorem wishIs_no {l : List Setg} {i : Nat} (h : i < l.length) (hi : wishAt l i = false) : wishIs l = false := by
  unfold wishIs
  rw [List.all_eq_false]
  exact ⟨i, List.mem_range.2 h, by rw [hi]; simp⟩
theorem wishIs_yes {l : List Setg} (h : ∀ i, i < l.length → wishAt l i = true) : wishIs l = true := by
  unfold wishIs
  rw [List.all_eq_true]
  exact fun i hi => h i (List.mem_range.1 hi)
set_option maxRecDepth 10000 in
set_option maxHeartbeats 2000000 in
theorem wishRef_is {w : World} {v : Value} {l : List Setg} (h : RSets w [v] l) : Calls Try.prog 31 #[v] w fun e w' => e = .returned (.bool (wishIs l)) ∧ ∃ q, w' = w.drewN q := by
  obtain ⟨a, cap, rfl, hz, g⟩ := sets_open h
  obtain ⟨n, hn⟩ : ∃ n, n = l.length := ⟨_, rfl⟩
  obtain ⟨r, hr⟩ : ∃ r, r = wishIs l := ⟨_, rfl⟩
  rw [← hr]
  rw [← hn] at hz h ⊢
  have Hh := Lib.hid h; have Hg := Lib.hid g; have Hn := Lib.hid hn; have Hr := Lib.hid hr; clear h g hn hr
  go_enter Try.func31, Try.ntmps31
  go_wp2_with fail
  go_loopw [6] (fun i wr => ∃ k : Nat, k ≤ n ∧ i = .int .i64 k ∧ (∀ j, j < k → wishAt l j = true) ∧ ∃ q, wr = w.drewN q) (fun i _ => n - (intOf i).toNat)
  case atStart => exact ⟨0, Nat.zero_le _, rfl, fun _ h => by omega, 0, rfl⟩
  case round =>
    obtain ⟨k, hk, rfl, hno, q, rfl⟩ := hrel
    by_cases hlt : k < n
    · have hkl : k < l.length := by have := Hn.out; omega
      obtain ⟨b, off, rfl, d0, d1, hs1, hs2⟩ := Hg.out k _ (List.getElem?_eq_getElem hkl)
      have hwa := wishAt_eq hkl
      have hnx : wishAt l k = true → ∀ j, j < k + 1 → wishAt l j = true := fun h j hj => by
        by_cases e : j = k
        · rw [e]; exact h
        · exact hno j (by omega)
      have hbd := fun (h : wishAt l k = false) => wishIs_no hkl h
      obtain ⟨x, hx⟩ : ∃ x, x = l[k] := ⟨_, rfl⟩
      rw [← hx] at d0 d1 hs1 hs2 hwa
      obtain ⟨s, hs⟩ : ∃ s, s = x.1 := ⟨_, rfl⟩
      obtain ⟨t, ht⟩ : ∃ s, s = x.2 := ⟨_, rfl⟩
      rw [← hs] at d0 hs1 hwa
      rw [← ht] at d1 hs2 hwa
      have hN := fun (W : World) => (nameRef_any s hs1 W).mono (fun e w' (⟨he, hw⟩ : _ ∧ W = w') => (⟨he, 0, hw.symm⟩ : e = _ ∧ ∃ m, w' = W.drewN m))
      have hV := fun (W : World) => (valueRef_any t hs2 W).mono (fun e w' (⟨he, hw⟩ : _ ∧ W = w') => (⟨he, 0, hw.symm⟩ : e = _ ∧ ∃ m, w' = W.drewN m))
      obtain ⟨p1, hp1⟩ : ∃ p, p = nameOf s.data.toList := ⟨_, rfl⟩
      obtain ⟨p2, hp2⟩ : ∃ p, p = valueOf t.data.toList := ⟨_, rfl⟩
      rw [← hp1] at hN hwa
      rw [← hp2] at hV hwa
      have k5 : (0 : Int) ≤ (k : Int) := by omega
      have k6 : (k : Int) < (n : Int) := by omega
      clear hx hkl hs ht
      have HN := Lib.hid hN; have HV := Lib.hid hV; have Hp1 := Lib.hid hp1; have Hp2 := Lib.hid hp2; have Hno := Lib.hid hno; have Hnx := Lib.hid hnx; have Hbd := Lib.hid hbd; have Hwa := Lib.hid hwa; clear hN hV hp1 hp2 hno hnx hbd hwa
      cases p1 with
      | false =>
        have hf : r = false := by rw [Hr.out]; exact Hbd.out (by rw [Hwa.out]; rfl)
        have Hf := Lib.hid hf; clear hf
        go_wp2_with fail
        go_quiet (first | (go_at_call 18; exact quiet_addl (HN.out _)) | (go_at_call 20; exact quiet_addl (HV.out _)))
        go_wp2_with fail
        go_ret
        exact ⟨ret_bool Hf.out.symm, _, by rw [World.drewN_drewN]⟩
      | true =>
        cases p2 with
        | false =>
          have hf : r = false := by rw [Hr.out]; exact Hbd.out (by rw [Hwa.out]; rfl)
          have Hf := Lib.hid hf; clear hf
          go_wp2_with fail
          go_quiet (first | (go_at_call 18; exact quiet_addl (HN.out _)) | (go_at_call 20; exact quiet_addl (HV.out _)))
          go_wp2_with fail
          go_ret
          exact ⟨ret_bool Hf.out.symm, _, by rw [World.drewN_drewN]⟩
        | true =>
          by_cases h0 : 0 < k
          · obtain ⟨k', rfl⟩ : ∃ k', k = k' + 1 := ⟨k - 1, by omega⟩
            have hkl' : k' < l.length := by have := Hn.out; omega
            obtain ⟨b2, off2, e2, f0, f1, hs3, hs4⟩ := Hg.out k' _ (List.getElem?_eq_getElem hkl')
            injection e2 with e2
            injection e2 with e3 e4
            subst e3 e4
            obtain ⟨z, hz4⟩ : ∃ z, z = l[k'].1 := ⟨_, rfl⟩
            rw [← hz4] at f0 hs3
            have hwb : wishAt l (k' + 1) = Op.bytesLess z.toList s.toList := by rw [Hwa.out, hz4]; simp [List.getD_eq_getElem?_getD, List.getElem?_eq_getElem hkl']
            have Hz4 := Lib.hid hz4; have Hwb := Lib.hid hwb; clear hz4 hwb
            clear f1 hs4
            have k7 : decide ((0 : Int) < ((k' + 1 : Nat) : Int)) = true := by rw [decide_eq_true_eq]; omega
            have k8 : (((k' + 1 : Nat) : Int) - 1) = (k' : Int) := by omega
            have k11 : IntKind.i64.wrap (((k' + 1 : Nat) : Int) - 1) = (k' : Int) := by rw [k8]; exact IntWalk.i64_in _ (by omega)
            have k9 : (0 : Int) ≤ (k' : Int) := by omega
            have k10 : (k' : Int) < (n : Int) := by omega
            go_wp2_with fail
            go_quiet (first | (go_at_call 18; exact quiet_addl (HN.out _)) | (go_at_call 20; exact quiet_addl (HV.out _)))
            obtain ⟨bl, hbl⟩ : ∃ b, b = Op.bytesLess z.toList s.toList := ⟨_, rfl⟩
            have hwb := Hwb.out
            rw [← hbl] at hwb ⊢
            have Hbl := Lib.hid hbl; have Hwb := Lib.hid hwb; clear hbl hwb
            cases bl with
            | true =>
              have hq := Hnx.out Hwb.out
              have Hq := Lib.hid hq; clear hq
              go_wp2_with fail
              go_roundw
              case rel => exact ⟨k' + 1 + 1, by omega, by go_num, Hq.out, _, rfl⟩
              case measure => simp [intOf]; omega
            | false =>
              have hf : r = false := by rw [Hr.out]; exact Hbd.out Hwb.out
              have Hf := Lib.hid hf; clear hf
              go_wp2_with fail
              go_ret
              exact ⟨ret_bool Hf.out.symm, _, by rw [World.drewN_drewN]⟩
          · have k7 : decide ((0 : Int) < (k : Int)) = false := by rw [decide_eq_false_iff_not]; omega
            have hq := Hnx.out (by rw [Hwa.out, show k = 0 by omega]; rfl)
            have Hq := Lib.hid hq; clear hq
            go_wp2_with fail
            go_quiet (first | (go_at_call 18; exact quiet_addl (HN.out _)) | (go_at_call 20; exact quiet_addl (HV.out _)))
            go_wp2_with fail
            go_roundw
            case rel => exact ⟨k + 1, by omega, by go_num, Hq.out, _, rfl⟩
            case measure => simp [intOf]; omega
    · obtain rfl : n = k := by omega
      have hf : r = true := by rw [Hr.out]; exact wishIs_yes (by rw [← Hn.out]; exact hno)
      have Hno := Lib.hid hno; have Hf := Lib.hid hf; clear hno hf
      go_wp2_with fail
      go_ret
      exact ⟨ret_bool Hf.out.symm, _, rfl⟩
end Go.Proofs.Ytnelgellbabkoaa

/- The walk of variant.Wish, exactly: are settings a wish. No condition. -/
namespace Go.Proofs.Ytnelgellbabkoaa
open Go.RowKit Go.Shelf VarM
attribute [local go_sem ↓] Go.wp_at_zero Go.wp_at_succ

set_option maxRecDepth 10000 in
set_option maxHeartbeats 4000000 in
theorem wish04_any {w : World} {v : Value} {l : List Setg} (h : RSets w [v] l) : Calls Try.prog 45 #[v] w fun e w' => e = .returned (.bool (wishIs l)) ∧ Below w.heap.size w w' := by
  obtain ⟨a, cap, rfl, hz, g⟩ := sets_open h
  obtain ⟨n, hn⟩ : ∃ n, n = l.length := ⟨_, rfl⟩
  obtain ⟨r, hr⟩ : ∃ r, r = wishIs l := ⟨_, rfl⟩
  rw [← hr]
  rw [← hn] at hz h ⊢
  have Hh := Lib.hid h; have Hg := Lib.hid g; have Hn := Lib.hid hn; have Hr := Lib.hid hr; clear h g hn hr
  go_enter Try.func45, Try.ntmps45
  go_wp2_with fail
  go_loopw [7] (fun i wr => ∃ k : Nat, k ≤ n ∧ i = .int .i64 k ∧ (∀ j, j < k → wishAt l j = true) ∧ Below w.heap.size w wr) (fun i _ => n - (intOf i).toNat)
  case atStart => exact ⟨0, Nat.zero_le _, rfl, fun _ h => by omega, Below.refl _ _⟩
  case round =>
    obtain ⟨k, hk, rfl, hno, hb⟩ := hrel
    by_cases hlt : k < n
    · have hkl : k < l.length := by have := Hn.out; omega
      obtain ⟨b, off, rfl, d0, d1, hs1, hs2⟩ := Hg.out k _ (List.getElem?_eq_getElem hkl)
      have hwa := wishAt_eq hkl
      have hnx : wishAt l k = true → ∀ j, j < k + 1 → wishAt l j = true := fun h j hj => by
        by_cases e : j = k
        · rw [e]; exact h
        · exact hno j (by omega)
      have hbd := fun (h : wishAt l k = false) => wishIs_no hkl h
      obtain ⟨x, hx⟩ : ∃ x, x = l[k] := ⟨_, rfl⟩
      rw [← hx] at d0 d1 hs1 hs2 hwa
      obtain ⟨s, hs⟩ : ∃ s, s = x.1 := ⟨_, rfl⟩
      obtain ⟨t, ht⟩ : ∃ s, s = x.2 := ⟨_, rfl⟩
      rw [← hs] at d0 hs1 hwa
      rw [← ht] at d1 hs2 hwa
      have hN := fun (W : World) => (name_any s hs1 W).mono (fun e w' (⟨he, hw⟩ : _ ∧ W = w') => (⟨he, 0, hw.symm⟩ : e = _ ∧ ∃ m, w' = W.drewN m))
      have hV := fun (W : World) => (value_any t hs2 W).mono (fun e w' (⟨he, hw⟩ : _ ∧ W = w') => (⟨he, 0, hw.symm⟩ : e = _ ∧ ∃ m, w' = W.drewN m))
      obtain ⟨p1, hp1⟩ : ∃ p, p = nameOf s.data.toList := ⟨_, rfl⟩
      obtain ⟨p2, hp2⟩ : ∃ p, p = valueOf t.data.toList := ⟨_, rfl⟩
      rw [← hp1] at hN hwa
      rw [← hp2] at hV hwa
      have e0 := cell_later hb d0
      have e1 := cell_later hb d1
      obtain ⟨W1, hW1⟩ : ∃ W1, W1 = wr.alloc (.cells #[.string s, .string t] 38) := ⟨_, rfl⟩
      have hbn : Below wr.heap.size wr W1 := by rw [hW1]; exact below_alloc1 _ _
      have hb1 := hb.trans (hbn.mono hb.size)
      obtain ⟨D, hD⟩ : ∃ D, D = wr.heap.size := ⟨_, rfl⟩
      have hdb : W1.heap[D]? = some (.cells #[.string s, .string t] 38 (0, 0)) := by rw [hW1, hD]; exact heap_alloc_new _ _
      have f0 := cells_at hdb 0
      have f1 := cells_at hdb 1
      simp only [List.getElem?_toArray, List.getElem?_cons_zero, List.getElem?_cons_succ] at f0 f1
      have k5 : (0 : Int) ≤ (k : Int) := by omega
      have k6 : (k : Int) < (n : Int) := by omega
      clear hx hs ht
      have HN := Lib.hid hN; have HV := Lib.hid hV; have Hp1 := Lib.hid hp1; have Hp2 := Lib.hid hp2; have Hno := Lib.hid hno; have Hnx := Lib.hid hnx; have Hbd := Lib.hid hbd; have Hwa := Lib.hid hwa; have Hb := Lib.hid hb; have Hbn := Lib.hid hbn; have Hb1 := Lib.hid hb1; have Hdb := Lib.hid hdb; clear hN hV hp1 hp2 hno hnx hbd hwa hb hbn hb1 hdb
      go_upto_region 4 with (fail)
      rw [← hW1, ← hD]
      have HW1 := Lib.hid hW1; have HD := Lib.hid hD; clear hW1 hD
      clear e0 e1
      cases p1 with
      | false =>
        have hf : r = false := by rw [Hr.out]; exact Hbd.out (by rw [Hwa.out]; rfl)
        have Hf := Lib.hid hf; clear hf
        go_quiet (first | (go_at_call 17; exact quiet_eq (HN.out _)) | (go_at_call 19; exact quiet_eq (HV.out _)))
        go_wp2_with fail
        go_ret
        exact ⟨ret_bool Hf.out.symm, bel_drewN Hb1.out _⟩
      | true =>
        cases p2 with
        | false =>
          have hf : r = false := by rw [Hr.out]; exact Hbd.out (by rw [Hwa.out]; rfl)
          have Hf := Lib.hid hf; clear hf
          go_quiet (first | (go_at_call 17; exact quiet_eq (HN.out _)) | (go_at_call 19; exact quiet_eq (HV.out _)))
          go_wp2_with fail
          go_ret
          exact ⟨ret_bool Hf.out.symm, bel_drewN Hb1.out _⟩
        | true =>
          by_cases h0 : 0 < k
          · obtain ⟨k', rfl⟩ : ∃ k', k = k' + 1 := ⟨k - 1, by omega⟩
            have hkl' : k' < l.length := by have := Hn.out; omega
            obtain ⟨b2, off2, e2, y0, _, _, _⟩ := Hg.out k' _ (List.getElem?_eq_getElem hkl')
            injection e2 with e2
            injection e2 with e3 e4
            subst e3 e4
            obtain ⟨z, hz4⟩ : ∃ z, z = l[k'].1 := ⟨_, rfl⟩
            rw [← hz4] at y0
            have y0 := cell_later Hb1.out y0
            have hwb : wishAt l (k' + 1) = Op.bytesLess z.toList s.toList := by rw [Hwa.out, hz4]; simp [List.getD_eq_getElem?_getD, List.getElem?_eq_getElem hkl']
            have Hz4 := Lib.hid hz4; have Hwb := Lib.hid hwb; clear hz4 hwb

            have k7 : decide ((0 : Int) < ((k' + 1 : Nat) : Int)) = true := by rw [decide_eq_true_eq]; omega
            have k8 : (((k' + 1 : Nat) : Int) - 1) = (k' : Int) := by omega
            have k11 : IntKind.i64.wrap (((k' + 1 : Nat) : Int) - 1) = (k' : Int) := by rw [k8]; exact IntWalk.i64_in _ (by omega)
            have k9 : (0 : Int) ≤ (k' : Int) := by omega
            have k10 : (k' : Int) < (n : Int) := by omega
            go_quiet (first | (go_at_call 17; exact quiet_eq (HN.out _)) | (go_at_call 19; exact quiet_eq (HV.out _)))
            obtain ⟨bl, hbl⟩ : ∃ b, b = Op.bytesLess z.toList s.toList := ⟨_, rfl⟩
            have hwb := Hwb.out
            rw [← hbl] at hwb ⊢
            have Hbl := Lib.hid hbl; have Hwb := Lib.hid hwb; clear hbl hwb
            cases bl with
            | true =>
              have hq := Hnx.out Hwb.out
              have Hq := Lib.hid hq; clear hq
              go_wp2_with fail
              go_roundw
              case rel => exact ⟨k' + 1 + 1, by omega, by go_num, Hq.out, bel_drewN Hb1.out _⟩
              case measure => simp [intOf]; omega
            | false =>
              have hf : r = false := by rw [Hr.out]; exact Hbd.out Hwb.out
              have Hf := Lib.hid hf; clear hf
              go_wp2_with fail
              go_ret
              exact ⟨ret_bool Hf.out.symm, bel_drewN Hb1.out _⟩
          · have k7 : decide ((0 : Int) < (k : Int)) = false := by rw [decide_eq_false_iff_not]; omega
            have hq := Hnx.out (by rw [Hwa.out, show k = 0 by omega]; rfl)
            have Hq := Lib.hid hq; clear hq
            go_quiet (first | (go_at_call 17; exact quiet_eq (HN.out _)) | (go_at_call 19; exact quiet_eq (HV.out _)))
            go_wp2_with fail
            go_roundw
            case rel => exact ⟨k + 1, by omega, by go_num, Hq.out, bel_drewN Hb1.out _⟩
            case measure => simp [intOf]; omega
    · obtain rfl : n = k := by omega
      have hf : r = true := by rw [Hr.out]; exact wishIs_yes (by rw [← Hn.out]; exact hno)
      have Hno := Lib.hid hno; have Hf := Lib.hid hf; have Hb := Lib.hid hb; clear hno hf hb
      go_wp2_with fail
      go_ret
      exact ⟨ret_bool Hf.out.symm, Hb.out⟩
end Go.Proofs.Ytnelgellbabkoaa

/- The walk of cooperref04.Legal: where it says yes the names are the variants'. No condition. -/
namespace Go.Proofs.Ytnelgellbabkoaa
open Go.RowKit Go.Shelf
attribute [local go_sem ↓] Go.wp_at_zero Go.wp_at_succ

def NamesIs (l : List Var) (s : List Setg) : Prop := l.length = s.length ∧ ∀ (k : Nat) (x : Var) (y : Setg), l[k]? = some x → s[k]? = some y → x.1 = y.1
def LegalPost (w : World) (l : List Var) (s : List Setg) (e : Ending) (w' : World) : Prop := (∃ r, e = .returned (.bool r) ∧ (r = true → NamesIs l s)) ∧ ∃ q, w' = w.drewN q
set_option maxRecDepth 10000 in
set_option maxHeartbeats 2000000 in
theorem legal_any {w : World} {v u : Value} {l : List Var} {s : List Setg} (h : RVars w [v] l) (hs : RSets w [u] s) : Calls Try.prog 24 #[v, u] w (LegalPost w l s) := by
  obtain ⟨a, cap, rfl, hz, g⟩ := vars_open h
  obtain ⟨sa, sc, rfl, hsz, g2⟩ := sets_open hs
  obtain ⟨n, hn⟩ : ∃ n, n = l.length := ⟨_, rfl⟩
  obtain ⟨ns, hns⟩ : ∃ n, n = s.length := ⟨_, rfl⟩
  rw [← hn] at hz h ⊢
  rw [← hns] at hs hsz ⊢
  by_cases hlen : n = ns
  · subst hlen
    have e1 : ((n : Int) == (n : Int)) = true := by simp
    have e2 : ((n : Int) != (n : Int)) = false := by simp
    clear hsz
    have Hh := Lib.hid h; have Hs := Lib.hid hs; have Hg := Lib.hid g; have Hg2 := Lib.hid g2; have Hn := Lib.hid hn; have Hns := Lib.hid hns; clear h hs g g2 hn hns
    go_enter Try.func24, Try.ntmps24
    go_wp2_with fail
    go_loopw [15] (fun i wr => ∃ k : Nat, k ≤ n ∧ i = .int .i64 k ∧ (∀ j x y, j < k → l[j]? = some x → s[j]? = some y → x.1 = y.1) ∧ ∃ q, wr = w.drewN q) (fun i _ => n - (intOf i).toNat)
    case atStart => exact ⟨0, Nat.zero_le _, rfl, fun j x y hj => by omega, 0, rfl⟩
    case round =>
      obtain ⟨k, hk, rfl, hall, q1, rfl⟩ := hrel
      by_cases hlt : k < n
      · have hkl : k < l.length := by have := Hn.out; omega
        have hks : k < s.length := by have := Hns.out; omega
        obtain ⟨b, off, u, rfl, d0, d1, hsx, hu⟩ := Hg.out k hkl
        obtain ⟨b2, off2, rfl, c0, c1, hs1, hs2⟩ := Hg2.out k _ (List.getElem?_eq_getElem hks)
        have hall2 : l[k].1 = s[k].1 → ∀ j x y, j < k + 1 → l[j]? = some x → s[j]? = some y → x.1 = y.1 := fun he j x y hj hx hy => by
          by_cases e : j = k
          · subst e
            rw [List.getElem?_eq_getElem hkl] at hx
            rw [List.getElem?_eq_getElem hks] at hy
            cases hx; cases hy; exact he
          · exact hall j x y (by omega) hx hy
        obtain ⟨x, hx⟩ : ∃ x, x = l[k] := ⟨_, rfl⟩
        rw [← hx] at d0 hu hsx hall2
        obtain ⟨y, hy⟩ : ∃ x, x = s[k] := ⟨_, rfl⟩
        rw [← hy] at c0 c1 hs1 hs2 hall2
        obtain ⟨ua, uc, rfl, hz2, g3⟩ := strs_open hu
        obtain ⟨m, hm⟩ : ∃ m, m = x.2.length := ⟨_, rfl⟩
        rw [← hm] at d1 hu hz2
        obtain ⟨t, ht⟩ : ∃ s, s = x.1 := ⟨_, rfl⟩
        rw [← ht] at d0 hsx hall2
        obtain ⟨y0, hy0⟩ : ∃ s, s = y.1 := ⟨_, rfl⟩
        obtain ⟨y1, hy1⟩ : ∃ s, s = y.2 := ⟨_, rfl⟩
        rw [← hy0] at c0 hs1 hall2
        rw [← hy1] at c1 hs2
        have k5 : (0 : Int) ≤ (k : Int) := by omega
        have k6 : (k : Int) < (n : Int) := by omega
        clear hall
        have Hu := Lib.hid hu; have Hg3 := Lib.hid g3; have Hm := Lib.hid hm; have Ht := Lib.hid ht; have Hx := Lib.hid hx; have Hy := Lib.hid hy; have Hy0 := Lib.hid hy0; have Hy1 := Lib.hid hy1; have Hall2 := Lib.hid hall2; clear hu g3 hm ht hx hy hy0 hy1 hall2
        go_wp2_with fail
        go_loopw [6, 24] (fun o j wr => ∃ (i : Nat) (f : Bool), i ≤ m ∧ j = .int .i64 i ∧ o = .bool f ∧ ∃ q, wr = w.drewN q) (fun _ j _ => m - (intOf j).toNat)
        case atStart => exact ⟨0, false, Nat.zero_le _, rfl, rfl, q1, rfl⟩
        case round =>
          obtain ⟨i, f, hi, rfl, rfl, q2, rfl⟩ := hrel
          by_cases hlt2 : i < m
          · have hil : i < x.2.length := by have := Hm.out; omega
            obtain ⟨b3, off3, rfl, d2, hys⟩ := Hg3.out i hil
            obtain ⟨z, hz3⟩ : ∃ z, z = x.2[i] := ⟨_, rfl⟩
            rw [← hz3] at d2 hys
            obtain ⟨p, hp⟩ : ∃ p, p = (z.toList == y1.toList) := ⟨_, rfl⟩
            have hpe := hp.symm
            have k7 : (0 : Int) ≤ (i : Int) := by omega
            have k8 : (i : Int) < (m : Int) := by omega
            have Hp := Lib.hid hp; have Hz3 := Lib.hid hz3; clear hp hz3
            cases f with
            | true =>
              go_wp2_with fail
              go_region
              go_wp2_with fail
              go_roundw
              case rel => exact ⟨i + 1, true, by omega, by go_num, rfl, _, rfl⟩
              case measure => simp [intOf]; omega
            | false =>
              go_wp2_with fail
              go_region
              go_wp2_with fail
              go_roundw
              case rel => exact ⟨i + 1, p, by omega, by go_num, by first | rfl | (rw [← hpe]), _, rfl⟩
              case measure => simp [intOf]; omega
          · obtain rfl : m = i := by omega
            obtain ⟨p, hp⟩ : ∃ p, p = (t.toList == y0.toList) := ⟨_, rfl⟩
            have hpe := hp.symm
            cases p with
            | false =>
              have Hp := Lib.hid hp; clear hp
              go_wp2_with fail
              go_region
              go_wp2_with fail
              go_ret
              exact ⟨⟨false, rfl, fun h => by cases h⟩, _, rfl⟩
            | true =>
              have he : t = y0 := by rw [bytes_dec] at hp; exact of_decide_eq_true hp.symm
              have hnx := Hall2.out he
              cases f with
              | false =>
                have Hp := Lib.hid hp; have He := Lib.hid he; have Hnx := Lib.hid hnx; clear hp he hnx
                go_wp2_with fail
                go_region
                go_wp2_with fail
                go_ret
                exact ⟨⟨false, rfl, fun h => by cases h⟩, _, rfl⟩
              | true =>
                have Hp := Lib.hid hp; have He := Lib.hid he; have Hnx := Lib.hid hnx; clear hp he hnx
                go_wp2_with fail
                go_region
                go_wp2_with fail
                go_roundw
                case rel => exact ⟨k + 1, by omega, by go_num, Hnx.out, _, rfl⟩
                case measure => simp [intOf]; omega
      · obtain rfl : n = k := by omega
        have hfin : NamesIs l s := ⟨by rw [← Hn.out, ← Hns.out], fun k x y hx hy => hall k x y (by have := (List.getElem?_eq_some_iff.1 hx).1; have := Hn.out; omega) hx hy⟩
        have Hall := Lib.hid hall; have Hfin := Lib.hid hfin; clear hall hfin
        go_wp2_with fail
        go_ret
        exact ⟨⟨true, rfl, fun _ => Hfin.out⟩, _, rfl⟩
  · have e1 : ((n : Int) == (ns : Int)) = false := by rw [beq_eq_false_iff_ne]; omega
    have e2 : ((n : Int) != (ns : Int)) = true := by simp; omega
    clear hsz
    have Hh := Lib.hid h; have Hs := Lib.hid hs; have Hg := Lib.hid g; have Hg2 := Lib.hid g2; have Hn := Lib.hid hn; have Hns := Lib.hid hns; have Hlen := Lib.hid hlen; clear h hs g g2 hn hns hlen
    go_enter Try.func24, Try.ntmps24
    go_wp2_with fail
    go_ret
    exact ⟨⟨false, rfl, fun h => by cases h⟩, 0, rfl⟩
end Go.Proofs.Ytnelgellbabkoaa
