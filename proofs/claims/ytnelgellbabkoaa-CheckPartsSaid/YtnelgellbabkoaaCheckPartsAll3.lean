/- Walks and plain facts. Texts merged: ChkP, ChkQ, ChkV, VarE, VarF, IdxSet, VarV, IdxVar, ChkA, ChkB, RecG, RecD, RecP, RecQ. Condition: none beyond what each says. -/
import Derived.Test.YtnelgellbabkoaaShelf
import Derived.Laws.StructEq
import Derived.Test.YtnelgellbabkoaaRows
import Derived.BigQuiet
import Derived.Test.YtnelgellbabkoaaCheckPartsAll1
import Derived.Test.YtnelgellbabkoaaCheckPartsAll2
/- The walk of check.Providers: the places of the packages that provide a name. Condition: few packages. -/
namespace Go.Proofs.Ytnelgellbabkoaa
open Go.RowKit Go.Shelf
attribute [local go_sem ↓] Go.wp_at_zero Go.wp_at_succ

theorem elem_int9 : Elem Try.prog 22 3 (.int .i64 0) 1 8 := ⟨Try.underlying22, by kernel_rfl, rfl, by decide⟩
theorem hasT_iff (l : List ByteArray) (s : ByteArray) : hasT l s = true ↔ s ∈ l := by
  unfold hasT
  rw [List.any_eq_true]
  constructor
  · rintro ⟨x, hx, h⟩
    rw [decide_eq_true_eq] at h
    rw [← h]; exact hx
  · intro h
    exact ⟨s, h, by simp⟩
theorem contains_any {w : World} {v : Value} {l : List ByteArray} (h : RSs w [v] l) (s : ByteArray) : Calls Try.prog 87 #[v, .string s] w fun e w' => e = .returned (.bool (hasT l s)) ∧ w = w' := by
  obtain ⟨a, cap, rfl, hz, g⟩ := strs_open h
  by_cases h0 : l = []
  · subst h0
    exact (Try.slices_Contains_string_empty a cap s w).mono fun e w' ⟨he, hw⟩ => ⟨by rw [he]; rfl, hw.symm⟩
  · have hp : 0 < l.length := List.length_pos_iff.2 h0
    obtain ⟨b, off, rfl, _⟩ := g 0 hp
    refine (Try.slices_Contains_string b off l.length cap l s w (Nat.le_refl _) hz (fun j hj => ?_)).mono fun e w' ⟨he, hw⟩ => ⟨?_, hw.symm⟩
    · obtain ⟨b', off', e, hc, _⟩ := g j hj
      injection e with e
      injection e with e1 e2
      subst e1 e2
      rw [List.getD_eq_getElem?_getD, List.getElem?_eq_getElem hj]
      exact hc
    · rw [he, List.take_length]
      have : Lib.containsS l s = hasT l s := by rw [Bool.eq_iff_iff, Lib.containsS_iff, hasT_iff]
      rw [this]
theorem slice_any_shape {α : Type} {sz : Nat} {R : Rd α} {w : World} {v : Value} {l : List α} (h : RSlice sz R w [v] l) : ∃ a n c, v = .slice a n c := by
  obtain ⟨a, cap, hv, _⟩ := h
  simp only [List.cons.injEq, and_true] at hv
  exact ⟨_, _, _, hv⟩
/-- the places of the packages that provide a name, of the first k -/
def pv (s : ByteArray) (l : List Pkg) (k : Nat) : List Nat := (List.range k).filter fun i => match l[i]? with | some x => hasT x.2.2.2.2.1 s | none => false
def natv (i : Nat) : Value := .int .i64 i
theorem pv_zero (s : ByteArray) (l : List Pkg) : pv s l 0 = [] := rfl
theorem pv_succ {s : ByteArray} {l : List Pkg} {k : Nat} (h : k < l.length) : pv s l (k + 1) = pv s l k ++ if hasT l[k].2.2.2.2.1 s then [k] else [] := by
  unfold pv
  rw [List.range_succ, List.filter_append, List.filter_cons, List.getElem?_eq_getElem h]
  simp
theorem pv_le (s : ByteArray) (l : List Pkg) (k : Nat) : (pv s l k).length ≤ k := by
  unfold pv
  refine Nat.le_trans (List.length_filter_le _ _) ?_
  simp
set_option maxRecDepth 10000 in
set_option maxHeartbeats 2000000 in
theorem providers_any {w : World} {v pw : Value} {l : List Pkg} (h : RSlice 8 RPkg w [v] l) (hl : l.length ≤ 1000000) (s : ByteArray) : Calls Try.prog 37 #[.agg #[v, pw], .string s] w fun e w' => ∃ o, e = .returned o ∧ w'.ownsRow w.heap.size 3 1 o (pv s l l.length).length ((pv s l l.length).map natv) ∧ Below w.heap.size w w' := by
  obtain ⟨a, cap, rfl, hz, g⟩ := pkgs_open h
  obtain ⟨n, hn⟩ : ∃ n, n = l.length := ⟨_, rfl⟩
  rw [← hn] at hz h hl ⊢
  have hb0 : Below w.heap.size w (w.alloc (.cells #[.slice a n cap, pw] 52)) := below_alloc1 _ _
  have Hh := Lib.hid h; have Hg := Lib.hid g; have Hn := Lib.hid hn; have Hb0 := Lib.hid hb0; clear h g hn hb0
  go_enter Try.func37, Try.ntmps37
  go_wp2_with fail
  go_loopw [5, 11] (fun o i wr => ∃ k : Nat, k ≤ n ∧ i = .int .i64 k ∧ wr.ownsRow w.heap.size 3 1 o (pv s l k).length ((pv s l k).map natv) ∧ Below w.heap.size w wr) (fun _ i _ => n - (intOf i).toNat)
  case atStart => exact ⟨0, Nat.zero_le _, rfl, World.ownsRow_nil _ _ _ _, Hb0.out⟩
  case round =>
    obtain ⟨k, hk, rfl, ho, hb⟩ := hrel
    obtain ⟨oa, oc, rfl⟩ := own_shape ho
    have hB := hb.size
    have hpl := pv_le s l k
    obtain ⟨m, hm⟩ : ∃ m, m = (pv s l k).length := ⟨_, rfl⟩
    rw [← hm] at ho hpl ⊢
    by_cases hlt : k < n
    · have hkl : k < l.length := by have := Hn.out; omega
      obtain ⟨b, off, u2, u3, u4, u5, u6, u7, rfl, hp⟩ := Hg.out k _ (List.getElem?_eq_getElem hkl)
      have hps := pv_succ (s := s) hkl
      obtain ⟨x, hx⟩ : ∃ x, x = l[k] := ⟨_, rfl⟩
      rw [← hx] at hp hps
      obtain ⟨a2, n2, c2, rfl⟩ := slice_any_shape hp.r2
      obtain ⟨a3, n3, c3, rfl⟩ := slice_any_shape hp.r3
      obtain ⟨a4, n4, c4, rfl⟩ := slice_any_shape hp.r4
      obtain ⟨a5, n5, c5, rfl⟩ := slice_any_shape hp.r5
      obtain ⟨a6, n6, c6, rfl⟩ := slice_any_shape hp.r6
      obtain ⟨a7, n7, c7, rfl⟩ := slice_any_shape hp.r7
      have d0 := cell_later hb hp.c0
      have d1 := cell_later hb hp.c1
      have d2 := cell_later hb hp.c2
      have d3 := cell_later hb hp.c3
      have d4 := cell_later hb hp.c4
      have d5 := cell_later hb hp.c5
      have d6 := cell_later hb hp.c6
      have d7 := cell_later hb hp.c7
      obtain ⟨nm, hnm⟩ : ∃ nm, nm = x.1 := ⟨_, rfl⟩
      obtain ⟨ln, hln⟩ : ∃ ln, ln = x.2.1 := ⟨_, rfl⟩
      rw [← hnm] at d0
      rw [← hln] at d1
      obtain ⟨W1, hW1⟩ : ∃ W1, W1 = wr.alloc (.cells #[.string nm, .int .i64 ln, .slice a2 n2 c2, .slice a3 n3 c3, .slice a4 n4 c4, .slice a5 n5 c5, .slice a6 n6 c6, .slice a7 n7 c7] 68) := ⟨_, rfl⟩
      have hb1 : Below w.heap.size w W1 := by rw [hW1]; exact hb.alloc hB _
      have hbW : Below wr.heap.size wr W1 := by rw [hW1]; exact below_alloc1 _ _
      have hC := contains_any (stays_slice stays_str _ _ _ _ hp.r4 hb1) s
      have ho1 := ownsRow_below ho hbW
      have hB1 := hb1.size
      have k5 : (0 : Int) ≤ (k : Int) := by omega
      have k6 : (k : Int) < (n : Int) := by omega
      obtain ⟨r, hr⟩ : ∃ r, r = hasT x.2.2.2.2.1 s := ⟨_, rfl⟩
      rw [← hr] at hC hps
      clear hx hkl
      cases r with
      | false =>
        rw [if_neg (by simp), List.append_nil] at hps
        have ho2 : W1.ownsRow w.heap.size 3 1 (.slice oa m oc) (pv s l (k + 1)).length ((pv s l (k + 1)).map natv) := by rw [hps, ← hm]; exact ho1
        have Ho := Lib.hid ho; have Hb := Lib.hid hb; have Hp := Lib.hid hp; have Hps := Lib.hid hps; have Hm := Lib.hid hm; have Hb1 := Lib.hid hb1; have HbW := Lib.hid hbW; have HC := Lib.hid hC; have Ho1 := Lib.hid ho1; have Hr := Lib.hid hr; have Hnm := Lib.hid hnm; have Hln := Lib.hid hln; have Ho2 := Lib.hid ho2; clear ho hb hp hps hm hb1 hbW hC ho1 hr hnm hln ho2
        go_wp2_with fail
        rw [← hW1]
        have HW1 := Lib.hid hW1; clear hW1
        refine HC.out.mono ?_
        rintro e w2 ⟨rfl, rfl⟩
        go_wp2_with fail
        go_roundw
        case rel => exact ⟨k + 1, by omega, by go_num, Ho2.out, Hb1.out⟩
        case measure => simp [intOf]; omega
      | true =>
        rw [if_pos rfl] at hps
        have Ho := Lib.hid ho; have Hb := Lib.hid hb; have Hp := Lib.hid hp; have Hps := Lib.hid hps; have Hm := Lib.hid hm; have Hb1 := Lib.hid hb1; have HbW := Lib.hid hbW; have HC := Lib.hid hC; have Ho1 := Lib.hid ho1; have Hr := Lib.hid hr; have Hnm := Lib.hid hnm; have Hln := Lib.hid hln; clear ho hb hp hps hm hb1 hbW hC ho1 hr hnm hln
        go_wp2_with fail
        rw [← hW1]
        have HW1 := Lib.hid hW1; clear hW1
        refine HC.out.mono ?_
        rintro e w2 ⟨rfl, rfl⟩
        go_wp2_with (at_builtin; (refine wpList_append_some elem_int9 rfl (.tmp 20) (.tmp 22) rfl w.heap.size (.slice oa m oc) m _ rfl Ho1.out 1 (by decide) #[.int .i64 k] rfl rfl (by simp [Value.oneCell']) (by omega) (by unfold maxLen; omega) hB1 ?_; intro g8 c8 w8 hown8 hg8 hm8))
        have hbel8 := bel_own Hb1.out Ho1.out (Nat.le_refl _) hg8 hB1
        have hown9 : w8.ownsRow w.heap.size 3 1 (.slice (some ⟨g8, 0, none⟩) (m + 1) c8) (pv s l (k + 1)).length ((pv s l (k + 1)).map natv) := by
          rw [Hps.out, List.map_append, List.length_append, ← Hm.out]; exact hown8
        have Hown8 := Lib.hid hown8; have Hg8 := Lib.hid hg8; have Hbel8 := Lib.hid hbel8; have Hown9 := Lib.hid hown9; clear hown8 hg8 hbel8 hown9
        clear hm8
        go_wp2_with fail
        go_roundw
        case rel => exact ⟨k + 1, by omega, by go_num, Hown9.out, Hbel8.out⟩
        case measure => simp [intOf]; omega
    · obtain rfl : n = k := by omega
      have Ho := Lib.hid ho; have Hb := Lib.hid hb; have Hm := Lib.hid hm; clear ho hb hm
      go_wp2_with fail
      go_ret
      exact ⟨_, rfl, by rw [← Hm.out]; exact Ho.out, Hb.out⟩
end Go.Proofs.Ytnelgellbabkoaa

/- The walk of cooperref09.Providers. Condition: few packages. -/
namespace Go.Proofs.Ytnelgellbabkoaa
open Go.RowKit Go.Shelf
attribute [local go_sem ↓] Go.wp_at_zero Go.wp_at_succ

set_option maxRecDepth 10000 in
set_option maxHeartbeats 2000000 in
theorem providersRef_any {w : World} {v pw : Value} {l : List Pkg} (h : RSlice 8 RPkg w [v] l) (hl : l.length ≤ 1000000) (s : ByteArray) : Calls Try.prog 38 #[.agg #[v, pw], .string s] w fun e w' => ∃ o, e = .returned o ∧ w'.ownsRow w.heap.size 3 1 o (pv s l l.length).length ((pv s l l.length).map natv) ∧ Below w.heap.size w w' := by
  obtain ⟨a, cap, rfl, hz, g⟩ := pkgs_open h
  obtain ⟨n, hn⟩ : ∃ n, n = l.length := ⟨_, rfl⟩
  rw [← hn] at hz h hl ⊢
  obtain ⟨nb, hnb⟩ : ∃ nb, nb = w.heap.size := ⟨_, rfl⟩
  obtain ⟨W0, hW0⟩ : ∃ W0, W0 = w.alloc (.cells #[.slice a n cap, pw] 52) := ⟨_, rfl⟩
  have hb0 : Below w.heap.size w W0 := by rw [hW0]; exact below_alloc1 _ _
  have hbx : W0.heap[nb]? = some (.cells #[.slice a n cap, pw] 52 (0, 0)) := by rw [hW0, hnb]; exact heap_alloc_new _ _
  have hl0 : (W0.alloc (.cells #[] 3)).ownsRow w.heap.size 3 1 (.slice (some ⟨W0.heap.size, 0, none⟩) 0 0) 0 [] := World.ownsRow_lit (base := w.heap.size) (e := 3) (size := 1) W0 #[] 0 hb0.size (by decide) rfl
  have hb1 : Below w.heap.size w (W0.alloc (.cells #[] 3)) := hb0.alloc hb0.size _
  have hbx1 := heap_below (below_alloc1 W0 (.cells #[] 3)) hbx
  have c0 := cells_at hbx 0
  have c1 := cells_at hbx1 0
  simp only [List.getElem?_toArray, List.getElem?_cons_zero] at c0 c1
  have Hh := Lib.hid h; have Hg := Lib.hid g; have Hn := Lib.hid hn; have Hb0 := Lib.hid hb0; have Hbx := Lib.hid hbx; have Hl0 := Lib.hid hl0; have Hb1 := Lib.hid hb1; have Hbx1 := Lib.hid hbx1; clear h g hn hb0 hbx hl0 hb1 hbx1
  go_enter Try.func38, Try.ntmps38
  go_upto_region 1 with (fail)
  rw [← hW0, ← hnb]
  have HW0 := Lib.hid hW0; have Hnb := Lib.hid hnb; clear hW0 hnb
  go_wp2_with fail
  go_loopw [5, 11] (fun o i wr => ∃ k : Nat, k ≤ n ∧ i = .int .i64 k ∧ wr.ownsRow w.heap.size 3 1 o (pv s l k).length ((pv s l k).map natv) ∧ Below w.heap.size w wr ∧ wr.heap[nb]? = some (.cells #[.slice a n cap, pw] 52 (0, 0))) (fun _ i _ => n - (intOf i).toNat)
  case atStart => exact ⟨0, Nat.zero_le _, rfl, Hl0.out, Hb1.out, Hbx1.out⟩
  case round =>
    obtain ⟨k, hk, rfl, ho, hb, hbox⟩ := hrel
    obtain ⟨oa, oc, rfl⟩ := own_shape ho
    have hB := hb.size
    have hpl := pv_le s l k
    obtain ⟨m, hm⟩ : ∃ m, m = (pv s l k).length := ⟨_, rfl⟩
    rw [← hm] at ho hpl ⊢
    by_cases hlt : k < n
    · have hkl : k < l.length := by have := Hn.out; omega
      obtain ⟨b, off, u2, u3, u4, u5, u6, u7, rfl, hp⟩ := Hg.out k _ (List.getElem?_eq_getElem hkl)
      have hps := pv_succ (s := s) hkl
      obtain ⟨x, hx⟩ : ∃ x, x = l[k] := ⟨_, rfl⟩
      rw [← hx] at hp hps
      obtain ⟨a4, n4, c4, rfl⟩ := slice_any_shape hp.r4
      have d4 := cell_later hb hp.c4
      have e0 := cells_at hbox 0
      simp only [List.getElem?_toArray, List.getElem?_cons_zero] at e0
      have hC := hasRef_any (stays_slice stays_str _ _ _ _ hp.r4 hb) s
      have k5 : (0 : Int) ≤ (k : Int) := by omega
      have k6 : (k : Int) < (n : Int) := by omega
      obtain ⟨r, hr⟩ : ∃ r, r = hasT x.2.2.2.2.1 s := ⟨_, rfl⟩
      rw [← hr] at hC hps
      clear hx hkl c0 c1
      cases r with
      | false =>
        rw [if_neg (by simp), List.append_nil] at hps
        have ho2 : wr.ownsRow w.heap.size 3 1 (.slice oa m oc) (pv s l (k + 1)).length ((pv s l (k + 1)).map natv) := by rw [hps, ← hm]; exact ho
        have Ho := Lib.hid ho; have Hb := Lib.hid hb; have Hbox := Lib.hid hbox; have Hp := Lib.hid hp; have Hps := Lib.hid hps; have Hm := Lib.hid hm; have HC := Lib.hid hC; have Hr := Lib.hid hr; have Ho2 := Lib.hid ho2; clear ho hb hbox hp hps hm hC hr ho2
        go_wp2_with fail
        refine HC.out.mono ?_
        rintro e w2 ⟨rfl, q, rfl⟩
        go_wp2_with fail
        go_roundw
        case rel => exact ⟨k + 1, by omega, by go_num, Ho2.out, bel_drewN Hb.out q, Hbox.out⟩
        case measure => simp [intOf]; omega
      | true =>
        rw [if_pos rfl] at hps
        have Ho := Lib.hid ho; have Hb := Lib.hid hb; have Hbox := Lib.hid hbox; have Hp := Lib.hid hp; have Hps := Lib.hid hps; have Hm := Lib.hid hm; have HC := Lib.hid hC; have Hr := Lib.hid hr; clear ho hb hbox hp hps hm hC hr
        go_wp2_with fail
        refine HC.out.mono ?_
        rintro e w2 ⟨rfl, q, rfl⟩
        have ho1 : (wr.drewN q).ownsRow w.heap.size 3 1 (.slice oa m oc) m ((pv s l k).map natv) := ownsRow_below Ho.out (bel_drewN (Below.refl _ _) q)
        have hb1' := bel_drewN Hb.out q
        have hB1 := hb1'.size
        have Ho1 := Lib.hid ho1; have Hb1' := Lib.hid hb1'; clear ho1 hb1'
        go_wp2_with (at_builtin; (refine wpList_append_some elem_int9 rfl (.tmp 22) (.tmp 24) rfl w.heap.size (.slice oa m oc) m _ rfl Ho1.out 1 (by decide) #[.int .i64 k] rfl rfl (by simp [Value.oneCell']) (by omega) (by unfold maxLen; omega) hB1 ?_; intro g8 c8 w8 hown8 hg8 hm8))
        have hbel8 := bel_own Hb1'.out Ho1.out (Nat.le_refl _) hg8 hB1
        have hown9 : w8.ownsRow w.heap.size 3 1 (.slice (some ⟨g8, 0, none⟩) (m + 1) c8) (pv s l (k + 1)).length ((pv s l (k + 1)).map natv) := by
          rw [Hps.out, List.map_append, List.length_append, ← Hm.out]; exact hown8
        have hbox8 := keepT_grown hg8 Ho1.out (by decide) _ _ _ Hbox.out
        have Hown8 := Lib.hid hown8; have Hg8 := Lib.hid hg8; have Hbel8 := Lib.hid hbel8; have Hown9 := Lib.hid hown9; have Hbox8 := Lib.hid hbox8; clear hown8 hg8 hbel8 hown9 hbox8
        clear hm8
        go_wp2_with fail
        go_roundw
        case rel => exact ⟨k + 1, by omega, by go_num, Hown9.out, Hbel8.out, Hbox8.out⟩
        case measure => simp [intOf]; omega
    · obtain rfl : n = k := by omega
      have Ho := Lib.hid ho; have Hb := Lib.hid hb; have Hm := Lib.hid hm; have Hbox := Lib.hid hbox; clear ho hb hm hbox
      go_wp2_with fail
      go_ret
      exact ⟨_, rfl, by rw [← Hm.out]; exact Ho.out, Hb.out⟩
end Go.Proofs.Ytnelgellbabkoaa

/- The walks of check.Virtual and cooperref09.Virtual. Condition: few packages. -/
namespace Go.Proofs.Ytnelgellbabkoaa
open Go.RowKit Go.Shelf
attribute [local go_sem ↓] Go.wp_at_zero Go.wp_at_succ

def virtOf (s : ByteArray) (l : List Pkg) : Bool := decide (idxOf (named s) l < 0) && decide (0 < (pv s l l.length).length)
set_option maxRecDepth 10000 in
set_option maxHeartbeats 1000000 in
theorem virtual_any {w : World} {v pw : Value} {l : List Pkg} (h : RSlice 8 RPkg w [v] l) (hl : l.length ≤ 1000000) (s : ByteArray) : Calls Try.prog 41 #[.agg #[v, pw], .string s] w fun e w' => e = .returned (.bool (virtOf s l)) ∧ Below w.heap.size w w' := by
  have hb0 : Below w.heap.size w (w.alloc (.cells #[v, pw] 52)) := below_alloc1 _ _
  have hI := find_any (pv := pw) (stays_slice stays_pkg _ _ _ _ h hb0) s
  have hP := fun (W : World) (hb : Below w.heap.size w W) => providers_any (pw := pw) (stays_slice stays_pkg _ _ _ _ h hb) hl s
  obtain ⟨nb, hnb⟩ : ∃ nb, nb = w.heap.size := ⟨_, rfl⟩
  obtain ⟨W0, hW0⟩ : ∃ W0, W0 = w.alloc (.cells #[v, pw] 52) := ⟨_, rfl⟩
  have hbx : W0.heap[nb]? = some (.cells #[v, pw] 52 (0, 0)) := by rw [hW0, hnb]; exact heap_alloc_new _ _
  rw [← hW0] at hb0 hI
  obtain ⟨a, cap, rfl, hz, _⟩ := pkgs_open h
  obtain ⟨n, hn⟩ : ∃ n, n = l.length := ⟨_, rfl⟩
  obtain ⟨i, hi⟩ : ∃ i, i = idxOf (named s) l := ⟨_, rfl⟩
  obtain ⟨m, hm⟩ : ∃ m, m = (pv s l l.length).length := ⟨_, rfl⟩
  obtain ⟨r, hr⟩ : ∃ r, r = virtOf s l := ⟨_, rfl⟩
  have hv : r = (decide (i < 0) && decide (0 < m)) := by rw [hr, hi, hm]; rfl
  rw [← hr]
  rw [← hi] at hI
  rw [← hm] at hP
  rw [← hn] at hz h hI hP hbx hW0
  rw [← hn]
  have c0 := cells_at hbx 0
  have c1 := cells_at hbx 1
  simp only [List.getElem?_toArray, List.getElem?_cons_zero, List.getElem?_cons_succ] at c0 c1
  have Hh := Lib.hid h; have Hn := Lib.hid hn; have Hb0 := Lib.hid hb0; have HI := Lib.hid hI; have HP := Lib.hid hP; have Hi := Lib.hid hi; have Hm := Lib.hid hm; have Hr := Lib.hid hr; have Hv := Lib.hid hv; have Hbx := Lib.hid hbx; clear h hn hb0 hI hP hi hm hr hv hbx
  go_enter Try.func41, Try.ntmps41
  go_upto_region 1 with (fail)
  rw [← hW0, ← hnb]
  have HW0 := Lib.hid hW0; have Hnb := Lib.hid hnb; clear hW0 hnb
  by_cases hneg : i < 0
  · have k1 : decide (i < 0) = true := decide_eq_true hneg
    go_wp2_with fail
    refine HI.out.mono ?_
    rintro e w1 ⟨rfl, hb1⟩
    have hb2 := Hb0.out.trans (hb1.mono Hb0.out.size)
    have hbx1 := heap_below hb1 Hbx.out
    have d0 := cells_at hbx1 0
    have d1 := cells_at hbx1 1
    simp only [List.getElem?_toArray, List.getElem?_cons_zero, List.getElem?_cons_succ] at d0 d1
    have hP1 := HP.out w1 hb2
    have Hb1 := Lib.hid hb1; have Hb2 := Lib.hid hb2; have Hbx1 := Lib.hid hbx1; have HP1 := Lib.hid hP1; clear hb1 hb2 hbx1 hP1
    go_wp2_with fail
    refine HP1.out.mono ?_
    rintro e w2 ⟨o, rfl, ho, hb3⟩
    obtain ⟨oa, oc, rfl⟩ := own_shape ho
    have hb4 := Hb2.out.trans (hb3.mono Hb2.out.size)
    have hfin : r = decide (0 < m) := by rw [Hv.out, k1]; rfl
    by_cases hm0 : 0 < m
    · have k2 : decide ((0 : Int) < (m : Int)) = true := by rw [decide_eq_true_eq]; omega
      have hf : r = true := by rw [hfin]; exact decide_eq_true hm0
      have Ho := Lib.hid ho; have Hb3 := Lib.hid hb3; have Hb4 := Lib.hid hb4; have Hfin := Lib.hid hfin; have Hf := Lib.hid hf; clear ho hb3 hb4 hfin hf
      go_wp2_with fail
      go_ret
      exact ⟨ret_bool Hf.out.symm, Hb4.out⟩
    · have k2 : decide ((0 : Int) < (m : Int)) = false := by rw [decide_eq_false_iff_not]; omega
      have hf : r = false := by rw [hfin]; exact decide_eq_false hm0
      have Ho := Lib.hid ho; have Hb3 := Lib.hid hb3; have Hb4 := Lib.hid hb4; have Hfin := Lib.hid hfin; have Hf := Lib.hid hf; clear ho hb3 hb4 hfin hf
      go_wp2_with fail
      go_ret
      exact ⟨ret_bool Hf.out.symm, Hb4.out⟩
  · have k1 : decide (i < 0) = false := decide_eq_false hneg
    have hf : r = false := by rw [Hv.out, k1]; rfl
    have Hf := Lib.hid hf; clear hf
    go_wp2_with fail
    refine HI.out.mono ?_
    rintro e w1 ⟨rfl, hb1⟩
    have hb2 := Hb0.out.trans (hb1.mono Hb0.out.size)
    have Hb1 := Lib.hid hb1; have Hb2 := Lib.hid hb2; clear hb1 hb2
    go_wp2_with fail
    go_ret
    exact ⟨ret_bool Hf.out.symm, Hb2.out⟩
set_option maxRecDepth 10000 in
set_option maxHeartbeats 1000000 in
theorem virtualRef_any {w : World} {v pw : Value} {l : List Pkg} (h : RSlice 8 RPkg w [v] l) (hl : l.length ≤ 1000000) (s : ByteArray) : Calls Try.prog 42 #[.agg #[v, pw], .string s] w fun e w' => e = .returned (.bool (virtOf s l)) ∧ Below w.heap.size w w' := by
  have hb0 : Below w.heap.size w (w.alloc (.cells #[v, pw] 52)) := below_alloc1 _ _
  have hI := findRef_any (pv := pw) (stays_slice stays_pkg _ _ _ _ h hb0) s
  have hP := fun (W : World) (hb : Below w.heap.size w W) => providersRef_any (pw := pw) (stays_slice stays_pkg _ _ _ _ h hb) hl s
  obtain ⟨nb, hnb⟩ : ∃ nb, nb = w.heap.size := ⟨_, rfl⟩
  obtain ⟨W0, hW0⟩ : ∃ W0, W0 = w.alloc (.cells #[v, pw] 52) := ⟨_, rfl⟩
  have hbx : W0.heap[nb]? = some (.cells #[v, pw] 52 (0, 0)) := by rw [hW0, hnb]; exact heap_alloc_new _ _
  rw [← hW0] at hb0 hI
  obtain ⟨a, cap, rfl, hz, _⟩ := pkgs_open h
  obtain ⟨n, hn⟩ : ∃ n, n = l.length := ⟨_, rfl⟩
  obtain ⟨i, hi⟩ : ∃ i, i = idxOf (named s) l := ⟨_, rfl⟩
  obtain ⟨m, hm⟩ : ∃ m, m = (pv s l l.length).length := ⟨_, rfl⟩
  obtain ⟨r, hr⟩ : ∃ r, r = virtOf s l := ⟨_, rfl⟩
  have hv : r = (decide (i < 0) && decide (0 < m)) := by rw [hr, hi, hm]; rfl
  rw [← hr]
  rw [← hi] at hI
  rw [← hm] at hP
  rw [← hn] at hz h hI hP hbx hW0
  rw [← hn]
  have c0 := cells_at hbx 0
  have c1 := cells_at hbx 1
  simp only [List.getElem?_toArray, List.getElem?_cons_zero, List.getElem?_cons_succ] at c0 c1
  have Hh := Lib.hid h; have Hn := Lib.hid hn; have Hb0 := Lib.hid hb0; have HI := Lib.hid hI; have HP := Lib.hid hP; have Hi := Lib.hid hi; have Hm := Lib.hid hm; have Hr := Lib.hid hr; have Hv := Lib.hid hv; have Hbx := Lib.hid hbx; clear h hn hb0 hI hP hi hm hr hv hbx
  go_enter Try.func42, Try.ntmps42
  go_upto_region 1 with (fail)
  rw [← hW0, ← hnb]
  have HW0 := Lib.hid hW0; have Hnb := Lib.hid hnb; clear hW0 hnb
  by_cases hneg : i < 0
  · have k1 : decide (i < 0) = true := decide_eq_true hneg
    go_wp2_with fail
    refine HI.out.mono ?_
    rintro e w1 ⟨rfl, hb1⟩
    have hb2 := Hb0.out.trans (hb1.mono Hb0.out.size)
    have hbx1 := heap_below hb1 Hbx.out
    have d0 := cells_at hbx1 0
    have d1 := cells_at hbx1 1
    simp only [List.getElem?_toArray, List.getElem?_cons_zero, List.getElem?_cons_succ] at d0 d1
    have hP1 := HP.out w1 hb2
    have Hb1 := Lib.hid hb1; have Hb2 := Lib.hid hb2; have Hbx1 := Lib.hid hbx1; have HP1 := Lib.hid hP1; clear hb1 hb2 hbx1 hP1
    go_wp2_with fail
    refine HP1.out.mono ?_
    rintro e w2 ⟨o, rfl, ho, hb3⟩
    obtain ⟨oa, oc, rfl⟩ := own_shape ho
    have hb4 := Hb2.out.trans (hb3.mono Hb2.out.size)
    have hfin : r = decide (0 < m) := by rw [Hv.out, k1]; rfl
    by_cases hm0 : 0 < m
    · have k2 : decide ((0 : Int) < (m : Int)) = true := by rw [decide_eq_true_eq]; omega
      have hf : r = true := by rw [hfin]; exact decide_eq_true hm0
      have Ho := Lib.hid ho; have Hb3 := Lib.hid hb3; have Hb4 := Lib.hid hb4; have Hfin := Lib.hid hfin; have Hf := Lib.hid hf; clear ho hb3 hb4 hfin hf
      go_wp2_with fail
      go_ret
      exact ⟨ret_bool Hf.out.symm, Hb4.out⟩
    · have k2 : decide ((0 : Int) < (m : Int)) = false := by rw [decide_eq_false_iff_not]; omega
      have hf : r = false := by rw [hfin]; exact decide_eq_false hm0
      have Ho := Lib.hid ho; have Hb3 := Lib.hid hb3; have Hb4 := Lib.hid hb4; have Hfin := Lib.hid hfin; have Hf := Lib.hid hf; clear ho hb3 hb4 hfin hf
      go_wp2_with fail
      go_ret
      exact ⟨ret_bool Hf.out.symm, Hb4.out⟩
  · have k1 : decide (i < 0) = false := decide_eq_false hneg
    have hf : r = false := by rw [Hv.out, k1]; rfl
    have Hf := Lib.hid hf; clear hf
    go_wp2_with fail
    refine HI.out.mono ?_
    rintro e w1 ⟨rfl, hb1⟩
    have hb2 := Hb0.out.trans (hb1.mono Hb0.out.size)
    have Hb1 := Lib.hid hb1; have Hb2 := Lib.hid hb2; clear hb1 hb2
    go_wp2_with fail
    go_ret
    exact ⟨ret_bool Hf.out.symm, Hb2.out⟩
end Go.Proofs.Ytnelgellbabkoaa

/- The walk of cooperref04.Legal at settings that are of the variants. Condition: they are. -/
namespace Go.Proofs.Ytnelgellbabkoaa
open Go.RowKit Go.Shelf
attribute [local go_sem ↓] Go.wp_at_zero Go.wp_at_succ

theorem sets_open {w : World} {v : Value} {l : List Setg} (h : RSets w [v] l) : ∃ a cap, v = .slice a l.length cap ∧ l.length ≤ 9223372036854775807 ∧ ∀ i x, l[i]? = some x → ∃ b off, a = some ⟨b, off, none⟩ ∧ w.cell? ⟨b, off + i * 2, none⟩ = some (.string x.1) ∧ w.cell? ⟨b, off + i * 2 + 1, none⟩ = some (.string x.2) ∧ x.1.size ≤ 9223372036854775807 ∧ x.2.size ≤ 9223372036854775807 := by
  obtain ⟨a, cap, hv, hcap, hmax, hel⟩ := h
  simp only [List.cons.injEq, and_true] at hv
  unfold maxLen at hmax
  refine ⟨a, cap, hv, by omega, fun i x hi => ?_⟩
  obtain ⟨b, off, ecs, h1, h2, h3, h4, h5, h6⟩ := hel i x hi
  subst h4
  unfold maxLen at h5 h6
  exact ⟨b, off, h1, by simpa using h3 0 _ rfl, by simpa using h3 1 _ rfl, by omega, by omega⟩
theorem any_take_succ {ys : List ByteArray} {y : ByteArray} {k : Nat} (h : k < ys.length) : ((ys.take (k + 1)).any fun z => decide (z = y)) = (((ys.take k).any fun z => decide (z = y)) || decide (ys[k] = y)) := by
  rw [List.take_succ_eq_append_getElem h, List.any_append]; simp
set_option maxRecDepth 10000 in
set_option maxHeartbeats 2000000 in
theorem legal_yes {w : World} {v u : Value} {l : List Var} {s : List Setg} (h : RVars w [v] l) (hs : RSets w [u] s) (hL : LegalIs l s) : Calls Try.prog 24 #[v, u] w fun e w' => e = .returned (.bool true) ∧ ∃ q, w' = w.drewN q := by
  obtain ⟨a, cap, rfl, hz, g⟩ := vars_open h
  obtain ⟨sa, sc, rfl, hsz, g2⟩ := sets_open hs
  have hlen := hL.len
  obtain ⟨n, hn⟩ : ∃ n, n = l.length := ⟨_, rfl⟩
  rw [← hn] at hz h hlen ⊢
  rw [hlen] at hs ⊢
  have e1 : ((n : Int) == (n : Int)) = true := by simp
  have e2 : ((n : Int) != (n : Int)) = false := by simp
  clear hsz hlen
  have Hh := Lib.hid h; have Hs := Lib.hid hs; have Hg := Lib.hid g; have Hg2 := Lib.hid g2; have Hn := Lib.hid hn; have HL := Lib.hid hL; clear h hs g g2 hn hL
  go_enter Try.func24, Try.ntmps24
  go_wp2_with fail
  go_loopw [15] (fun i wr => ∃ k : Nat, k ≤ n ∧ i = .int .i64 k ∧ ∃ q, wr = w.drewN q) (fun i _ => n - (intOf i).toNat)
  case atStart => exact ⟨0, Nat.zero_le _, rfl, 0, rfl⟩
  case round =>
    obtain ⟨k, hk, rfl, q1, rfl⟩ := hrel
    by_cases hlt : k < n
    · have hkl : k < l.length := by have := Hn.out; omega
      obtain ⟨b, off, u, rfl, d0, d1, hsx, hu⟩ := Hg.out k hkl
      obtain ⟨y, hy, hmem⟩ := HL.out.at' k hkl
      obtain ⟨b2, off2, rfl, c0, c1, hs1, hs2⟩ := Hg2.out k _ hy
      obtain ⟨x, hx⟩ : ∃ x, x = l[k] := ⟨_, rfl⟩
      rw [← hx] at d0 hu hsx hmem c0 hs1
      obtain ⟨ua, uc, rfl, hz2, g3⟩ := strs_open hu
      obtain ⟨m, hm⟩ : ∃ m, m = x.2.length := ⟨_, rfl⟩
      rw [← hm] at d1 hu hz2
      dsimp only at c0 c1 hs1 hs2
      obtain ⟨s, hs⟩ : ∃ s, s = x.1 := ⟨_, rfl⟩
      rw [← hs] at d0 hsx c0 hs1
      have hfin : (x.2.any fun z => decide (z = y)) = true := by rw [List.any_eq_true]; exact ⟨y, hmem, by simp⟩
      have k5 : (0 : Int) ≤ (k : Int) := by omega
      have k6 : (k : Int) < (n : Int) := by omega
      clear hx hkl hy hmem
      have Hu := Lib.hid hu; have Hg3 := Lib.hid g3; have Hm := Lib.hid hm; have Hs := Lib.hid hs; have Hfin := Lib.hid hfin; clear hu g3 hm hs hfin
      go_wp2_with fail
      go_loopw [6, 24] (fun o j wr => ∃ i : Nat, i ≤ m ∧ j = .int .i64 i ∧ o = .bool ((x.2.take i).any fun z => decide (z = y)) ∧ ∃ q, wr = w.drewN q) (fun _ j _ => m - (intOf j).toNat)
      case atStart => exact ⟨0, Nat.zero_le _, rfl, rfl, q1, rfl⟩
      case round =>
        obtain ⟨i, hi, rfl, rfl, q2, rfl⟩ := hrel
        by_cases hlt2 : i < m
        · have hil : i < x.2.length := by have := Hm.out; omega
          obtain ⟨b3, off3, rfl, d2, hys⟩ := Hg3.out i hil
          have hnext := any_take_succ (y := y) hil
          obtain ⟨z, hz3⟩ : ∃ z, z = x.2[i] := ⟨_, rfl⟩
          rw [← hz3] at d2 hys hnext
          obtain ⟨q, hq⟩ : ∃ q, q = ((x.2.take i).any fun z => decide (z = y)) := ⟨_, rfl⟩
          rw [← hq] at hnext ⊢
          obtain ⟨p, hp⟩ : ∃ p, p = decide (z = y) := ⟨_, rfl⟩
          have hpe : (z.toList == y.toList) = p := by rw [hp, ← beq_toListBytes]; exact beq_dec z y
          rw [← hp] at hnext
          have k7 : (0 : Int) ≤ (i : Int) := by omega
          have k8 : (i : Int) < (m : Int) := by omega
          clear hz3 hil
          have Hnext := Lib.hid hnext; have Hq := Lib.hid hq; have Hp := Lib.hid hp; clear hnext hq hp
          cases q with
          | true =>
            go_wp2_with fail
            go_region
            go_wp2_with fail
            go_roundw
            case rel => exact ⟨i + 1, by omega, by go_num, by rw [Hnext.out]; rfl, _, rfl⟩
            case measure => simp [intOf]; omega
          | false =>
            go_wp2_with fail
            go_region
            go_wp2_with fail
            go_roundw
            case rel => exact ⟨i + 1, by omega, by go_num, by rw [Hnext.out]; simp, _, rfl⟩
            case measure => simp [intOf]; omega
        · obtain rfl : m = i := by omega
          have e : x.2.take m = x.2 := List.take_of_length_le (by have := Hm.out; omega)
          rw [e, Hfin.out]
          clear e
          go_wp2_with fail
          go_region
          go_wp2_with fail
          go_roundw
          case rel => exact ⟨k + 1, by omega, by go_num, _, rfl⟩
          case measure => simp [intOf]; omega
    · obtain rfl : n = k := by omega
      go_wp2_with fail
      go_ret
      exact ⟨rfl, _, rfl⟩
end Go.Proofs.Ytnelgellbabkoaa

/- The walk of cooperlaw04.fixed: two variants, their settings. No condition. -/
namespace Go.Proofs.Ytnelgellbabkoaa
open Go.RowKit Go.Shelf
attribute [local go_sem ↓] Go.wp_at_zero Go.wp_at_succ

def ex04 : List Var := [(⟨#[120]⟩, [⟨#[111, 110]⟩, ⟨#[111, 102, 102]⟩]), (⟨#[121]⟩, [⟨#[49]⟩, ⟨#[50]⟩])]
theorem texts_two {W : World} {b : Nat} {s t : ByteArray} {ty : TypeId} {fr : Nat × Nat} (h : W.heap[b]? = some (.cells #[.string s, .string t] ty fr)) (hs : s.size ≤ maxLen) (ht : t.size ≤ maxLen) : RSs W [.slice (some ⟨b, 0, none⟩) 2 2] [s, t] := by
  refine ⟨_, _, rfl, Nat.le_refl _, (by decide : 2 ≤ maxLen), fun i a hi => ?_⟩
  match i, hi with
  | 0, hi => simp at hi; subst hi; exact ⟨b, 0, [.string s], rfl, rfl, fun j u hj => by match j, hj with | 0, hj => simp at hj; subst hj; simpa using cells_at h 0, rfl, hs⟩
  | 1, hi => simp at hi; subst hi; exact ⟨b, 0, [.string t], rfl, rfl, fun j u hj => by match j, hj with | 0, hj => simp at hj; subst hj; simpa using cells_at h 1, rfl, ht⟩
theorem vars_two {W : World} {b : Nat} {s t : ByteArray} {u v : Value} {l m : List ByteArray} {ty : TypeId} {fr : Nat × Nat} (h : W.heap[b]? = some (.cells #[.string s, u, .string t, v] ty fr)) (hs : s.size ≤ maxLen) (ht : t.size ≤ maxLen) (hu : RSs W [u] l) (hv : RSs W [v] m) : RVars W [.slice (some ⟨b, 0, none⟩) 2 2] [(s, l), (t, m)] := by
  refine ⟨_, _, rfl, Nat.le_refl _, (by decide : 2 ≤ maxLen), fun i a hi => ?_⟩
  match i, hi with
  | 0, hi =>
    simp at hi; subst hi
    exact ⟨b, 0, [.string s, u], rfl, rfl, fun j x hj => by
      match j, hj with
      | 0, hj => simp at hj; subst hj; simpa using cells_at h 0
      | 1, hj => simp at hj; subst hj; simpa using cells_at h 1, _, rfl, hs, hu⟩
  | 1, hi =>
    simp at hi; subst hi
    exact ⟨b, 0, [.string t, v], rfl, rfl, fun j x hj => by
      match j, hj with
      | 0, hj => simp at hj; subst hj; simpa using cells_at h 2
      | 1, hj => simp at hj; subst hj; simpa using cells_at h 3, _, rfl, ht, hv⟩
theorem set_eqs (s t a b : ByteArray) (W : World) : (binOp .eql 38 (.agg #[.string s, .string t]) (.agg #[.string a, .string b])).run Try.prog W = .ok (.bool (decide (s = a) && decide (t = b))) W := by
  have u9 := Try.underlying9
  have hS : Try.prog.underlying 38 = some (.struct (Try.prog.fieldsOf 38)) := by kernel_rfl
  have hp : Try.prog.stoodInHeld 38 = false := by kernel_rfl
  rw [run_eql_struct, show (10000 : Nat) = 9999 + 1 from rfl, run_equalIn_agg W 9999 38 _ _ hS hp]
  simp only [Program.fieldsOf, Try.underlying38]
  go_simp
  have e : ∀ x y : ByteArray, (x.toList == y.toList) = decide (x = y) := fun x y => by
    rw [ByteArray.toList_eq, ByteArray.toList_eq]
    by_cases h : x = y
    · subst h; simp
    · have : x.data.toList ≠ y.data.toList := fun e => h (ByteArray.ext (Array.ext' e))
      simpa [h] using fun e => this (congrArg Array.toList e)
  have e1 := e s a
  have e2 := e t b
  by_cases h1 : s = a <;> by_cases h2 : t = b <;> simp [h1, h2] at e1 e2 ⊢ <;> simp_all
set_option maxRecDepth 10000 in
set_option maxHeartbeats 1000000 in
theorem fixed04 (w : World) : Calls Try.prog 16 #[] w fun e w' => e = .returned (.bool true) ∧ Below w.heap.size w w' := by
  obtain ⟨W3, hW3⟩ : ∃ W3, W3 = ((w.alloc (.cells #[.string ⟨#[111, 110]⟩, .string ⟨#[111, 102, 102]⟩] 9)).alloc (.cells #[.string ⟨#[49]⟩, .string ⟨#[50]⟩] 9)).alloc (.cells #[.string ⟨#[120]⟩, .slice (some ⟨w.heap.size, 0, none⟩) 2 2, .string ⟨#[121]⟩, .slice (some ⟨w.heap.size + 1, 0, none⟩) 2 2] 35) := ⟨_, rfl⟩
  have hb1 := below_alloc1 w (.cells #[.string ⟨#[111, 110]⟩, .string ⟨#[111, 102, 102]⟩] 9)
  have hb2 := hb1.alloc hb1.size (.cells #[.string ⟨#[49]⟩, .string ⟨#[50]⟩] 9)
  have hb3 : Below w.heap.size w W3 := by rw [hW3]; exact hb2.alloc hb2.size _
  have hr : RVars W3 [.slice (some ⟨w.heap.size + 1 + 1, 0, none⟩) 2 2] ex04 := by
    rw [hW3]
    refine vars_two (heap_new_at (by simp)) (by decide) (by decide) ?_ ?_
    · exact stays_slice stays_str _ _ _ _ (stays_slice stays_str _ _ _ _ (texts_two (heap_alloc_new _ _) (by decide) (by decide)) (below_alloc1 _ _)) (below_alloc1 _ _)
    · exact stays_slice stays_str _ _ _ _ (texts_two (heap_new_at (by simp)) (by decide) (by decide)) (below_alloc1 _ _)
  have hU := usual_any hr (by decide)
  have eU : usualOf ex04 = [(⟨#[120]⟩, ⟨#[111, 110]⟩), (⟨#[121]⟩, ⟨#[49]⟩)] := by kernel_rfl
  have hA := fun (W : World) (hW : Below W3.heap.size W3 W) => all_any (stays_slice stays_var _ _ _ _ hr hW) (by decide +kernel : mayOf ex04 = true)
  have eA : (allOf ex04).length = 4 := by kernel_rfl
  rw [eU] at hU
  have q1 := set_eqs ⟨#[120]⟩ ⟨#[111, 110]⟩ ⟨#[120]⟩ ⟨#[111, 110]⟩
  have q2 := set_eqs ⟨#[121]⟩ ⟨#[49]⟩ ⟨#[121]⟩ ⟨#[49]⟩
  simp only [decide_true, Bool.and_true] at q1 q2
  have Hb1 := Lib.hid hb1; have Hb2 := Lib.hid hb2; have Hb3 := Lib.hid hb3; have Hr := Lib.hid hr; have HU := Lib.hid hU; have HA := Lib.hid hA; have HeA := Lib.hid eA; have HeU := Lib.hid eU; clear hb1 hb2 hb3 hr hU hA eA eU
  go_enter Try.func16, Try.ntmps16
  go_wp2_with fail
  rw [← hW3]
  have HW3 := Lib.hid hW3; clear hW3
  refine HU.out.mono ?_
  rintro e W4 ⟨o, rfl, h1, hb4⟩
  obtain ⟨g, cap, rfl, _, _, _, _, hc⟩ := ownsRow_some h1 (by simp)
  have d0 := hc 0 _ rfl
  have d1 := hc 1 _ rfl
  have d2 := hc 2 _ rfl
  have d3 := hc 3 _ rfl
  have hA4 := HA.out W4 hb4
  have hl : ([(⟨#[120]⟩, ⟨#[111, 110]⟩), (⟨#[121]⟩, ⟨#[49]⟩)] : List Setg).length = 2 := rfl
  rw [hl]
  have hb5 := Hb3.out.trans (hb4.mono Hb3.out.size)
  clear hl hc
  have H1 := Lib.hid h1; have Hb4 := Lib.hid hb4; have HA4 := Lib.hid hA4; have Hb5 := Lib.hid hb5; clear h1 hb4 hA4 hb5
  go_wp2_with fail
  refine HA4.out.mono ?_
  rintro e W5 ⟨o5, vs5, rfl, hs5, hb6⟩
  have hrow := hs5.row
  obtain ⟨a5, c5, rfl⟩ := own_shape hrow
  rw [HeA.out]
  have e0 := cell_later hb6 d0
  have e1 := cell_later hb6 d1
  have e2 := cell_later hb6 d2
  have e3 := cell_later hb6 d3
  have hb7 := Hb5.out.trans (hb6.mono Hb5.out.size)
  have Hs5 := Lib.hid hs5; have Hb6 := Lib.hid hb6; have Hrow := Lib.hid hrow; have Hd0 := Lib.hid d0; have Hd1 := Lib.hid d1; have Hd2 := Lib.hid d2; have Hd3 := Lib.hid d3; have Hb7 := Lib.hid hb7; clear hs5 hb6 hrow d0 d1 d2 d3 hb7
  go_wp2_with fail
  go_ret
  exact ⟨rfl, Hb7.out⟩
end Go.Proofs.Ytnelgellbabkoaa

/- The walks of slices.IndexFunc and slices.ContainsFunc at Set: the first element of which a predicate holds; whether it holds of one. Condition: what the predicate gives is read off its contract. -/
namespace Go.Proofs.Ytnelgellbabkoaa
open Go.RowKit
namespace IdxSet
theorem cells_2 {ecs : List Value} (h : ecs.length = 2) : ∃ u0 u1, ecs = [u0, u1] := by
  match ecs, h with
  | [u0, u1], _ => exact ⟨u0, u1, rfl⟩

/-- what the predicate is -/
def Pred {α : Type} (R : Rd α) (p : α → Bool) (g : Nat) (cb : Array Value) (l : List α) (w : World) : Prop :=
  ∀ W u0 u1 x, Below w.heap.size w W → x ∈ l → R W [u0, u1] x → Calls Try.prog g (#[.agg #[u0, u1]] ++ cb) W fun e w' => e = .returned (.bool (p x)) ∧ Below W.heap.size W w'
set_option maxRecDepth 10000 in
set_option maxHeartbeats 400000 in
theorem idx_any {α : Type} {R : Rd α} (hR : Stays R) (p : α → Bool) (g : Nat) (cb : Array Value) (eg : ∀ args w, (callFunc g args).run Try.prog w = .ok (.enter g args) w) {w : World} {v : Value} {l : List α} (hl : RSlice 2 R w [v] l) (hp : Pred R p g cb l w) :
    Calls Try.prog 107 #[v, .func (.func g) #[] cb] w fun e w' => e = .returned (.int .i64 (idxOf p l)) ∧ Below w.heap.size w w' := by
  obtain ⟨a, cap, hv, hcap, hmax, hel⟩ := hl
  simp only [List.cons.injEq, and_true] at hv
  subst hv
  unfold maxLen at hmax
  obtain ⟨n, hn⟩ : ∃ n, n = l.length := ⟨_, rfl⟩
  rw [← hn] at hcap ⊢
  have hn63 : n ≤ 9223372036854775807 := by omega
  have Hn := Lib.hid hn; have Hel := Lib.hid hel; have Hp := Lib.hid hp; clear hn hel hp
  go_enter Try.func107, Try.ntmps107
  go_wp2_with fail
  go_loopw [8] (fun i wr => ∃ k : Nat, k ≤ n ∧ i = .int .i64 k ∧ NoneIn p l k ∧ Below w.heap.size w wr) (fun i _ => n - (intOf i).toNat)
  case atStart => exact ⟨0, Nat.zero_le _, rfl, noneIn_zero p l, Below.refl _ _⟩
  case round =>
    obtain ⟨k, hk, rfl, hno, hb⟩ := hrel
    by_cases hlt : k < n
    · have hkl : k < l.length := by have := Hn.out; omega
      obtain ⟨x, hx⟩ : ∃ x, x = l[k]'hkl := ⟨_, rfl⟩
      obtain ⟨b, off, ecs, rfl, h4, h5, h6⟩ := Hel.out k x (by rw [hx]; exact List.getElem?_eq_getElem hkl)
      obtain ⟨u0, u1, rfl⟩ : ∃ u0 u1, ecs = [u0, u1] := cells_2 h4
      have hxl : x ∈ l := by rw [hx]; exact List.getElem_mem hkl
      have c0 : wr.cell? ⟨b, off + k * 2, none⟩ = some u0 := cell_later hb (by simpa using h5 0 u0 rfl)
      have c1 : wr.cell? ⟨b, off + k * 2 + 1, none⟩ = some u1 := cell_later hb (by simpa using h5 1 u1 rfl)
      have hcall := Hp.out wr u0 u1 x hb hxl (hR _ _ _ _ h6 hb)
      have q0 : (0 : Int) ≤ (k : Int) := by omega
      have q1 : (k : Int) < (n : Int) := by omega
      by_cases hpx : p x = true
      · rw [hpx] at hcall
        have hi : idxOf p l = k := idxOf_at hkl hno (by rw [← hx]; exact hpx)
        have Hx := Lib.hid hx; have Hno := Lib.hid hno; have Hcall := Lib.hid hcall; have H5 := Lib.hid h5; have H6 := Lib.hid h6; have Hpx := Lib.hid hpx; have Hi := Lib.hid hi; have Hb := Lib.hid hb; have Hxl := Lib.hid hxl; clear hx hno hcall h5 h6 hpx hi hb hxl
        clear h4
        go_wp2_with fail
        refine Hcall.out.mono ?_
        rintro e w2 ⟨rfl, hb2⟩
        have hb3 := Hb.out.trans (hb2.mono Hb.out.size)
        have Hb2 := Lib.hid hb2; have Hb3 := Lib.hid hb3; clear hb2 hb3
        go_wp2_with fail
        go_ret
        exact ⟨ret_int Hi.out.symm, Hb3.out⟩
      · have hpx' : p x = false := by simpa using hpx
        rw [hpx'] at hcall
        have hno2 := noneIn_succ hkl hno (by rw [← hx]; exact hpx')
        have Hx := Lib.hid hx; have Hno := Lib.hid hno; have Hcall := Lib.hid hcall; have H5 := Lib.hid h5; have H6 := Lib.hid h6; have Hpx := Lib.hid hpx; have Hpx' := Lib.hid hpx'; have Hno2 := Lib.hid hno2; have Hb := Lib.hid hb; have Hxl := Lib.hid hxl; clear hx hno hcall h5 h6 hpx hpx' hno2 hb hxl
        clear h4
        go_wp2_with fail
        refine Hcall.out.mono ?_
        rintro e w2 ⟨rfl, hb2⟩
        have hb3 := Hb.out.trans (hb2.mono Hb.out.size)
        have Hb2 := Lib.hid hb2; have Hb3 := Lib.hid hb3; clear hb2 hb3
        go_wp2_with fail
        go_roundw
        case rel => exact ⟨k + 1, by omega, by go_num, Hno2.out, Hb3.out⟩
        case measure => simp [intOf]; omega
    · have hi : idxOf p l = -1 := idxOf_none (by have := Hn.out; omega) hno
      have Hno := Lib.hid hno; have Hi := Lib.hid hi; have Hb := Lib.hid hb; clear hno hi hb
      go_wp2_with fail
      go_ret
      exact ⟨ret_int Hi.out.symm, Hb.out⟩
set_option maxRecDepth 10000 in
set_option maxHeartbeats 400000 in
theorem has_any {α : Type} {R : Rd α} (hR : Stays R) (p : α → Bool) (g : Nat) (cb : Array Value) (eg : ∀ args w, (callFunc g args).run Try.prog w = .ok (.enter g args) w) {w : World} {v : Value} {l : List α} (hl : RSlice 2 R w [v] l) (hp : Pred R p g cb l w) :
    Calls Try.prog 76 #[v, .func (.func g) #[] cb] w fun e w' => e = .returned (.bool (l.any p)) ∧ Below w.heap.size w w' := by
  have hI := idx_any hR p g cb eg hl hp
  have hab := idxOf_any p l
  obtain ⟨i, hi⟩ : ∃ i, i = idxOf p l := ⟨_, rfl⟩
  rw [← hi] at hI hab
  have Hl := Lib.hid hl; have Hp := Lib.hid hp; have HI := Lib.hid hI; have Hi := Lib.hid hi; have HR := Lib.hid hR; clear hl hp hI hi hR
  cases hq : l.any p with
  | true =>
    have hpos : 0 ≤ i := hab.1 hq
    have Hq := Lib.hid hq; have Hab := Lib.hid hab; clear hq hab
    go_enter Try.func76, Try.ntmps76
    go_wp2_with fail
    refine HI.out.mono ?_
    rintro e w2 ⟨rfl, hb2⟩
    have Hb2 := Lib.hid hb2; clear hb2
    go_wp2_with fail
    go_ret
    exact ⟨rfl, Hb2.out⟩
  | false =>
    have hneg : i < 0 := by
      rcases Int.lt_or_le i 0 with h | h
      · exact h
      · have := hab.2 h; rw [hq] at this; cases this
    have Hq := Lib.hid hq; have Hab := Lib.hid hab; clear hq hab
    go_enter Try.func76, Try.ntmps76
    go_wp2_with fail
    refine HI.out.mono ?_
    rintro e w2 ⟨rfl, hb2⟩
    have Hb2 := Lib.hid hb2; clear hb2
    go_wp2_with fail
    go_ret
    exact ⟨ret_bool (by simpa using hneg), Hb2.out⟩
end IdxSet
end Go.Proofs.Ytnelgellbabkoaa

/- The walks of slices.Index and Contains at settings, and of variant.Meets. No condition. -/
namespace Go.Proofs.Ytnelgellbabkoaa
open Go.RowKit Go.Shelf
attribute [local go_sem ↓] Go.wp_at_zero Go.wp_at_succ

def isSet (x : Setg) (z : Setg) : Bool := decide (x.1 = z.1) && decide (x.2 = z.2)
set_option maxRecDepth 10000 in
set_option maxHeartbeats 1000000 in
theorem indexSet_any {w : World} {v : Value} {l : List Setg} (h : RSets w [v] l) (s t : ByteArray) : Calls Try.prog 108 #[v, .agg #[.string s, .string t]] w fun e w' => e = .returned (.int .i64 (idxOf (isSet (s, t)) l)) ∧ Below w.heap.size w w' := by
  obtain ⟨a, cap, rfl, hz, g⟩ := sets_open h
  obtain ⟨n, hn⟩ : ∃ n, n = l.length := ⟨_, rfl⟩
  rw [← hn] at hz h ⊢
  have q1 := fun a b => set_eqs s t a b
  obtain ⟨W0, hW0⟩ : ∃ W0, W0 = w.alloc (.cells #[.string s, .string t] 38) := ⟨_, rfl⟩
  have hb0 : Below w.heap.size w W0 := by rw [hW0]; exact below_alloc1 _ _
  have hcW : W0.heap[w.heap.size]? = some (.cells #[.string s, .string t] 38 (0, 0)) := by rw [hW0]; exact heap_alloc_new _ _
  have c0 := cells_at hcW 0
  have c1 := cells_at hcW 1
  simp only [List.getElem?_toArray, List.getElem?_cons_succ, List.getElem?_cons_zero] at c0 c1
  clear hcW
  have Hh := Lib.hid h; have Hg := Lib.hid g; have Hn := Lib.hid hn; have Hb0 := Lib.hid hb0; have Hq1 := Lib.hid q1; clear h g hn hb0 q1
  go_enter Try.func108, Try.ntmps108
  go_upto_region 2 with (fail)
  rw [← hW0]
  obtain ⟨nb, hnb⟩ : ∃ nb, nb = w.heap.size := ⟨_, rfl⟩
  rw [← hnb] at c0 c1 ⊢
  have HW0 := Lib.hid hW0; have Hnb := Lib.hid hnb; clear hW0 hnb
  go_loopw [8] (fun i wr => ∃ k : Nat, k ≤ n ∧ i = .int .i64 k ∧ NoneIn (isSet (s, t)) l k ∧ ∃ q, wr = W0.drewN q) (fun i _ => n - (intOf i).toNat)
  case atStart => exact ⟨0, Nat.zero_le _, rfl, noneIn_zero _ _, 0, rfl⟩
  case round =>
    obtain ⟨k, hk, rfl, hno, q, rfl⟩ := hrel
    by_cases hlt : k < n
    · have hkl : k < l.length := by have := Hn.out; omega
      obtain ⟨b, off, rfl, d0, d1, hs1, hs2⟩ := Hg.out k _ (List.getElem?_eq_getElem hkl)
      have hyes := fun h => idxOf_at hkl hno h
      have hnn := fun h => noneIn_succ hkl hno h
      obtain ⟨x, hx⟩ : ∃ x, x = l[k] := ⟨_, rfl⟩
      rw [← hx] at d0 d1 hyes hnn hs1 hs2
      have e0 := cell_later Hb0.out d0
      have e1 := cell_later Hb0.out d1
      obtain ⟨y, hy⟩ : ∃ y, y = x.1 := ⟨_, rfl⟩
      obtain ⟨z, hz3⟩ : ∃ z, z = x.2 := ⟨_, rfl⟩
      have hp : isSet (s, t) x = (decide (s = y) && decide (t = z)) := by rw [hy, hz3]; rfl
      rw [← hy] at e0 hs1
      rw [← hz3] at e1 hs2
      have q2 := Hq1.out y z
      rw [← hp] at q2
      have k5 : (0 : Int) ≤ (k : Int) := by omega
      have k6 : (k : Int) < (n : Int) := by omega
      clear hx hkl d0 d1
      cases hb : isSet (s, t) x with
      | true =>
        have hr := hyes hb
        rw [hb] at q2
        have Hno := Lib.hid hno; have Hyes := Lib.hid hyes; have Hnn := Lib.hid hnn; have Hp := Lib.hid hp; have Hb := Lib.hid hb; have Hr := Lib.hid hr; have Hy := Lib.hid hy; have Hz3 := Lib.hid hz3; clear hno hyes hnn hp hb hr hy hz3
        go_wp2_with fail
        go_region
        go_wp2_with fail
        go_ret
        exact ⟨by rw [Hr.out]; rfl, bel_drewN Hb0.out _⟩
      | false =>
        have hr := hnn hb
        rw [hb] at q2
        have Hno := Lib.hid hno; have Hyes := Lib.hid hyes; have Hnn := Lib.hid hnn; have Hp := Lib.hid hp; have Hb := Lib.hid hb; have Hr := Lib.hid hr; have Hy := Lib.hid hy; have Hz3 := Lib.hid hz3; clear hno hyes hnn hp hb hr hy hz3
        go_wp2_with fail
        go_region
        go_wp2_with fail
        go_roundw
        case rel => exact ⟨k + 1, by omega, by go_num, Hr.out, _, rfl⟩
        case measure => simp [intOf]; omega
    · obtain rfl : n = k := by omega
      have hr : idxOf (isSet (s, t)) l = -1 := idxOf_none (by have := Hn.out; omega) hno
      have Hno := Lib.hid hno; have Hr := Lib.hid hr; clear hno hr
      go_wp2_with fail
      go_ret
      exact ⟨by rw [Hr.out]; rfl, bel_drewN Hb0.out _⟩
set_option maxRecDepth 10000 in
set_option maxHeartbeats 1000000 in
theorem containsSet_any {w : World} {v : Value} {l : List Setg} (h : RSets w [v] l) (s t : ByteArray) : Calls Try.prog 78 #[v, .agg #[.string s, .string t]] w fun e w' => e = .returned (.bool (l.any (isSet (s, t)))) ∧ Below w.heap.size w w' := by
  have hb0 : Below w.heap.size w (w.alloc (.cells #[.string s, .string t] 38)) := below_alloc1 _ _
  have hI := indexSet_any (stays_slice stays_set _ _ _ _ h hb0) s t
  have hab := idxOf_any (isSet (s, t)) l
  obtain ⟨a, cap, rfl, hz, _⟩ := sets_open h
  obtain ⟨n, hn⟩ : ∃ n, n = l.length := ⟨_, rfl⟩
  rw [← hn] at hz h hI ⊢
  obtain ⟨i, hi⟩ : ∃ i, i = idxOf (isSet (s, t)) l := ⟨_, rfl⟩
  rw [← hi] at hI hab
  obtain ⟨r, hr⟩ : ∃ r, r = l.any (isSet (s, t)) := ⟨_, rfl⟩
  rw [← hr] at hab ⊢
  have k1 : decide ((0 : Int) ≤ i) = r := by
    by_cases h0 : 0 ≤ i
    · rw [decide_eq_true h0, hab.2 h0]
    · rw [decide_eq_false h0]
      cases r with
      | true => exact absurd (hab.1 rfl) h0
      | false => rfl
  have Hh := Lib.hid h; have Hn := Lib.hid hn; have Hb0 := Lib.hid hb0; have HI := Lib.hid hI; have Hi := Lib.hid hi; have Hr := Lib.hid hr; have Hab := Lib.hid hab; clear h hn hb0 hI hi hr hab
  go_enter Try.func78, Try.ntmps78
  go_wp2_with fail
  refine HI.out.mono ?_
  rintro e w1 ⟨rfl, hb1⟩
  have hb2 := Hb0.out.trans (hb1.mono Hb0.out.size)
  have Hb1 := Lib.hid hb1; have Hb2 := Lib.hid hb2; clear hb1 hb2
  go_wp2_with fail
  go_ret
  exact ⟨by first | rfl | (rw [k1]), Hb2.out⟩
/-- do settings meet a wish? -/
def meetsOf (s wish : List Setg) : Bool := wish.all fun x => s.any (isSet x)
def SBox (B : Nat) (v : Value) (w : World) : Prop := w.heap[B]? = some (.cells #[v] 36 (0, 0))
theorem SBox.below {B : Nat} {v : Value} {w w' : World} (h : SBox B v w) (hb : Below w.heap.size w w') : SBox B v w' := heap_below hb h
set_option maxRecDepth 10000 in
set_option maxHeartbeats 1000000 in
theorem meetsIn_any {w : World} {B : Nat} {v : Value} {l : List Setg} (h : RSets w [v] l) (hB : SBox B v w) (s t : ByteArray) : Calls Try.prog 77 #[.agg #[.string s, .string t], .pointer (some ⟨B, 0, none⟩)] w fun e w' => e = .returned (.bool (!(l.any (isSet (s, t))))) ∧ Below w.heap.size w w' := by
  have hb0 : Below w.heap.size w (w.alloc (.cells #[.string s, .string t] 38)) := below_alloc1 _ _
  have hC := containsSet_any (stays_slice stays_set _ _ _ _ h hb0) s t
  have c0 := cells_at (hB.below hb0) 0
  have c9 := cells_at hB 0
  simp only [List.getElem?_toArray, List.getElem?_cons_zero] at c0 c9
  obtain ⟨r, hr⟩ : ∃ r, r = l.any (isSet (s, t)) := ⟨_, rfl⟩
  rw [← hr] at hC ⊢
  obtain ⟨a, cap, rfl, hz, _⟩ := sets_open h
  obtain ⟨n, hn⟩ : ∃ n, n = l.length := ⟨_, rfl⟩
  rw [← hn] at hz h hC c0 c9 hB
  have Hh := Lib.hid h; have HB := Lib.hid hB; have HC := Lib.hid hC; have Hb0 := Lib.hid hb0; have Hr := Lib.hid hr; have Hn := Lib.hid hn; clear h hB hC hb0 hr hn
  go_enter Try.func77, Try.ntmps77
  go_wp2_with fail
  refine HC.out.mono ?_
  rintro e w1 ⟨rfl, hb1⟩
  have hb2 := Hb0.out.trans (hb1.mono Hb0.out.size)
  have Hb1 := Lib.hid hb1; have Hb2 := Lib.hid hb2; clear hb1 hb2
  go_wp2_with fail
  go_ret
  exact ⟨rfl, Hb2.out⟩
theorem enters_meets : ∀ args w, (callFunc 77 args).run Try.prog w = .ok (.enter 77 args) w := enters_of Try.func77 (by kernel_rfl) rfl
theorem meets_pred {w : World} {B : Nat} {v : Value} {l : List Setg} (h : RSets w [v] l) (hB : SBox B v w) (wish : List Setg) : IdxSet.Pred RSet (fun x => !(l.any (isSet x))) 77 #[.pointer (some ⟨B, 0, none⟩)] wish w := by
  intro W u0 u1 x hb _ hx
  obtain ⟨h1, _, _⟩ := hx
  simp only [List.cons.injEq, and_true] at h1
  obtain ⟨rfl, rfl⟩ := h1
  exact meetsIn_any (stays_slice stays_set _ _ _ _ h hb) (hB.below hb) x.1 x.2
theorem meetsOf_any (s wish : List Setg) : (!(wish.any fun x => !(s.any (isSet x)))) = meetsOf s wish := by
  unfold meetsOf
  rw [List.not_any_eq_all_not]
  simp
set_option maxRecDepth 10000 in
theorem meets_any {w : World} {u v : Value} {s wish : List Setg} (hs : RSets w [u] s) (hw : RSets w [v] wish) : Calls Try.prog 32 #[u, v] w fun e w' => e = .returned (.bool (meetsOf s wish)) ∧ Below w.heap.size w w' := by
  have hbx : Below w.heap.size w (w.alloc (.cells #[u] 36)) := below_alloc1 _ _
  have hC := IdxSet.has_any stays_set (fun x => !(s.any (isSet x))) 77 #[.pointer (some ⟨w.heap.size, 0, none⟩)] enters_meets (stays_slice stays_set _ _ _ _ hw hbx) (meets_pred (stays_slice stays_set _ _ _ _ hs hbx) (heap_alloc_new _ _) wish)
  have hh := meetsOf_any s wish
  obtain ⟨r, hr⟩ : ∃ r, r = wish.any fun x => !(s.any (isSet x)) := ⟨_, rfl⟩
  rw [← hr] at hC hh
  obtain ⟨a, cap, rfl, _, _⟩ := sets_open hs
  obtain ⟨n, hn⟩ : ∃ n, n = s.length := ⟨_, rfl⟩
  obtain ⟨a2, cap2, rfl, _, _⟩ := sets_open hw
  obtain ⟨n2, hn2⟩ : ∃ n, n = wish.length := ⟨_, rfl⟩
  rw [← hn, ← hn2] at hC
  rw [← hn] at hbx
  rw [← hn, ← hn2, ← hh]
  have Hs := Lib.hid hs; have Hw := Lib.hid hw; have HC := Lib.hid hC; have Hbx := Lib.hid hbx; have Hr := Lib.hid hr; have Hh := Lib.hid hh; have Hn := Lib.hid hn; have Hn2 := Lib.hid hn2; clear hs hw hC hbx hr hh hn hn2
  go_enter Try.func32, Try.ntmps32
  go_wp2_with fail
  refine HC.out.mono ?_
  rintro e w1 ⟨rfl, hb1⟩
  have hb2 := Hbx.out.trans (hb1.mono Hbx.out.size)
  have Hb1 := Lib.hid hb1; have Hb2 := Lib.hid hb2; clear hb1 hb2
  go_wp2_with fail
  go_ret
  exact ⟨rfl, Hb2.out⟩
end Go.Proofs.Ytnelgellbabkoaa

/- The walks of slices.IndexFunc and slices.ContainsFunc at Var: the first element of which a predicate holds; whether it holds of one. Condition: what the predicate gives is read off its contract. -/
namespace Go.Proofs.Ytnelgellbabkoaa
open Go.RowKit
namespace IdxVar
theorem cells_2 {ecs : List Value} (h : ecs.length = 2) : ∃ u0 u1, ecs = [u0, u1] := by
  match ecs, h with
  | [u0, u1], _ => exact ⟨u0, u1, rfl⟩

/-- what the predicate is -/
def Pred {α : Type} (R : Rd α) (p : α → Bool) (g : Nat) (cb : Array Value) (l : List α) (w : World) : Prop :=
  ∀ W u0 u1 x, Below w.heap.size w W → x ∈ l → R W [u0, u1] x → Calls Try.prog g (#[.agg #[u0, u1]] ++ cb) W fun e w' => e = .returned (.bool (p x)) ∧ Below W.heap.size W w'
set_option maxRecDepth 10000 in
set_option maxHeartbeats 400000 in
theorem idx_any {α : Type} {R : Rd α} (hR : Stays R) (p : α → Bool) (g : Nat) (cb : Array Value) (eg : ∀ args w, (callFunc g args).run Try.prog w = .ok (.enter g args) w) {w : World} {v : Value} {l : List α} (hl : RSlice 2 R w [v] l) (hp : Pred R p g cb l w) :
    Calls Try.prog 155 #[v, .func (.func g) #[] cb] w fun e w' => e = .returned (.int .i64 (idxOf p l)) ∧ Below w.heap.size w w' := by
  obtain ⟨a, cap, hv, hcap, hmax, hel⟩ := hl
  simp only [List.cons.injEq, and_true] at hv
  subst hv
  unfold maxLen at hmax
  obtain ⟨n, hn⟩ : ∃ n, n = l.length := ⟨_, rfl⟩
  rw [← hn] at hcap ⊢
  have hn63 : n ≤ 9223372036854775807 := by omega
  have Hn := Lib.hid hn; have Hel := Lib.hid hel; have Hp := Lib.hid hp; clear hn hel hp
  go_enter Try.func155, Try.ntmps155
  go_wp2_with fail
  go_loopw [8] (fun i wr => ∃ k : Nat, k ≤ n ∧ i = .int .i64 k ∧ NoneIn p l k ∧ Below w.heap.size w wr) (fun i _ => n - (intOf i).toNat)
  case atStart => exact ⟨0, Nat.zero_le _, rfl, noneIn_zero p l, Below.refl _ _⟩
  case round =>
    obtain ⟨k, hk, rfl, hno, hb⟩ := hrel
    by_cases hlt : k < n
    · have hkl : k < l.length := by have := Hn.out; omega
      obtain ⟨x, hx⟩ : ∃ x, x = l[k]'hkl := ⟨_, rfl⟩
      obtain ⟨b, off, ecs, rfl, h4, h5, h6⟩ := Hel.out k x (by rw [hx]; exact List.getElem?_eq_getElem hkl)
      obtain ⟨u0, u1, rfl⟩ : ∃ u0 u1, ecs = [u0, u1] := cells_2 h4
      have hxl : x ∈ l := by rw [hx]; exact List.getElem_mem hkl
      have c0 : wr.cell? ⟨b, off + k * 2, none⟩ = some u0 := cell_later hb (by simpa using h5 0 u0 rfl)
      have c1 : wr.cell? ⟨b, off + k * 2 + 1, none⟩ = some u1 := cell_later hb (by simpa using h5 1 u1 rfl)
      have hcall := Hp.out wr u0 u1 x hb hxl (hR _ _ _ _ h6 hb)
      have q0 : (0 : Int) ≤ (k : Int) := by omega
      have q1 : (k : Int) < (n : Int) := by omega
      by_cases hpx : p x = true
      · rw [hpx] at hcall
        have hi : idxOf p l = k := idxOf_at hkl hno (by rw [← hx]; exact hpx)
        have Hx := Lib.hid hx; have Hno := Lib.hid hno; have Hcall := Lib.hid hcall; have H5 := Lib.hid h5; have H6 := Lib.hid h6; have Hpx := Lib.hid hpx; have Hi := Lib.hid hi; have Hb := Lib.hid hb; have Hxl := Lib.hid hxl; clear hx hno hcall h5 h6 hpx hi hb hxl
        clear h4
        go_wp2_with fail
        refine Hcall.out.mono ?_
        rintro e w2 ⟨rfl, hb2⟩
        have hb3 := Hb.out.trans (hb2.mono Hb.out.size)
        have Hb2 := Lib.hid hb2; have Hb3 := Lib.hid hb3; clear hb2 hb3
        go_wp2_with fail
        go_ret
        exact ⟨ret_int Hi.out.symm, Hb3.out⟩
      · have hpx' : p x = false := by simpa using hpx
        rw [hpx'] at hcall
        have hno2 := noneIn_succ hkl hno (by rw [← hx]; exact hpx')
        have Hx := Lib.hid hx; have Hno := Lib.hid hno; have Hcall := Lib.hid hcall; have H5 := Lib.hid h5; have H6 := Lib.hid h6; have Hpx := Lib.hid hpx; have Hpx' := Lib.hid hpx'; have Hno2 := Lib.hid hno2; have Hb := Lib.hid hb; have Hxl := Lib.hid hxl; clear hx hno hcall h5 h6 hpx hpx' hno2 hb hxl
        clear h4
        go_wp2_with fail
        refine Hcall.out.mono ?_
        rintro e w2 ⟨rfl, hb2⟩
        have hb3 := Hb.out.trans (hb2.mono Hb.out.size)
        have Hb2 := Lib.hid hb2; have Hb3 := Lib.hid hb3; clear hb2 hb3
        go_wp2_with fail
        go_roundw
        case rel => exact ⟨k + 1, by omega, by go_num, Hno2.out, Hb3.out⟩
        case measure => simp [intOf]; omega
    · have hi : idxOf p l = -1 := idxOf_none (by have := Hn.out; omega) hno
      have Hno := Lib.hid hno; have Hi := Lib.hid hi; have Hb := Lib.hid hb; clear hno hi hb
      go_wp2_with fail
      go_ret
      exact ⟨ret_int Hi.out.symm, Hb.out⟩
set_option maxRecDepth 10000 in
set_option maxHeartbeats 400000 in
theorem has_any {α : Type} {R : Rd α} (hR : Stays R) (p : α → Bool) (g : Nat) (cb : Array Value) (eg : ∀ args w, (callFunc g args).run Try.prog w = .ok (.enter g args) w) {w : World} {v : Value} {l : List α} (hl : RSlice 2 R w [v] l) (hp : Pred R p g cb l w) :
    Calls Try.prog 140 #[v, .func (.func g) #[] cb] w fun e w' => e = .returned (.bool (l.any p)) ∧ Below w.heap.size w w' := by
  have hI := idx_any hR p g cb eg hl hp
  have hab := idxOf_any p l
  obtain ⟨i, hi⟩ : ∃ i, i = idxOf p l := ⟨_, rfl⟩
  rw [← hi] at hI hab
  have Hl := Lib.hid hl; have Hp := Lib.hid hp; have HI := Lib.hid hI; have Hi := Lib.hid hi; have HR := Lib.hid hR; clear hl hp hI hi hR
  cases hq : l.any p with
  | true =>
    have hpos : 0 ≤ i := hab.1 hq
    have Hq := Lib.hid hq; have Hab := Lib.hid hab; clear hq hab
    go_enter Try.func140, Try.ntmps140
    go_wp2_with fail
    refine HI.out.mono ?_
    rintro e w2 ⟨rfl, hb2⟩
    have Hb2 := Lib.hid hb2; clear hb2
    go_wp2_with fail
    go_ret
    exact ⟨rfl, Hb2.out⟩
  | false =>
    have hneg : i < 0 := by
      rcases Int.lt_or_le i 0 with h | h
      · exact h
      · have := hab.2 h; rw [hq] at this; cases this
    have Hq := Lib.hid hq; have Hab := Lib.hid hab; clear hq hab
    go_enter Try.func140, Try.ntmps140
    go_wp2_with fail
    refine HI.out.mono ?_
    rintro e w2 ⟨rfl, hb2⟩
    have Hb2 := Lib.hid hb2; clear hb2
    go_wp2_with fail
    go_ret
    exact ⟨ret_bool (by simpa using hneg), Hb2.out⟩
end IdxVar
end Go.Proofs.Ytnelgellbabkoaa

/- The walk of check.of: whether settings are of a package. No condition. -/
namespace Go.Proofs.Ytnelgellbabkoaa
open Go.RowKit Go.Shelf
attribute [local go_sem ↓] Go.wp_at_zero Go.wp_at_succ

/-- is a setting one of a variant? -/
def oneIs (s t : ByteArray) (v : Var) : Bool := decide (v.1 = s) && hasT v.2 t
def setIn (vs : List Var) (s t : ByteArray) : Bool := vs.any (oneIs s t)
def setNo (vs : List Var) (y : Setg) : Bool := !(setIn vs y.1 y.2)
def ofOf (vs : List Var) (l : List Setg) : Bool := !(l.any (setNo vs))
def YBox (B : Nat) (s t : ByteArray) (w : World) : Prop := w.heap[B]? = some (.cells #[.string s, .string t] 38 (0, 0))
theorem YBox.below {B : Nat} {s t : ByteArray} {w w' : World} (h : YBox B s t w) (hb : Below w.heap.size w w') : YBox B s t w' := heap_below hb h
set_option maxRecDepth 10000 in
set_option maxHeartbeats 1000000 in
theorem ofIn2_any {w : World} {B : Nat} {vn s t : ByteArray} {u : Value} {ys : List ByteArray} (hu : RSs w [u] ys) (hB : YBox B s t w) : Calls Try.prog 141 #[.agg #[.string vn, u], .pointer (some ⟨B, 0, none⟩)] w fun e w' => e = .returned (.bool (decide (vn = s) && hasT ys t)) ∧ Below w.heap.size w w' := by
  have hb0 : Below w.heap.size w (w.alloc (.cells #[.string vn, u] 35)) := below_alloc1 _ _
  have hC := contains_any (stays_slice stays_str _ _ _ _ hu hb0) t
  have c0 := cells_at (hB.below hb0) 0
  have c1 := cells_at (hB.below hb0) 1
  simp only [List.getElem?_toArray, List.getElem?_cons_zero, List.getElem?_cons_succ] at c0 c1
  obtain ⟨a, n, cap, rfl⟩ := slice_any_shape hu
  have q1 := bytes_dec vn s
  obtain ⟨r, hr⟩ : ∃ r, r = hasT ys t := ⟨_, rfl⟩
  rw [← hr] at hC ⊢
  by_cases e : vn = s
  · rw [decide_eq_true e] at q1 ⊢
    clear e
    have Hu := Lib.hid hu; have HB := Lib.hid hB; have Hb0 := Lib.hid hb0; have HC := Lib.hid hC; have Hr := Lib.hid hr; clear hu hB hb0 hC hr
    go_enter Try.func141, Try.ntmps141
    go_wp2_with fail
    refine HC.out.mono ?_
    rintro e w1 ⟨rfl, rfl⟩
    go_wp2_with fail
    go_ret
    exact ⟨by simp, Hb0.out⟩
  · rw [decide_eq_false e] at q1 ⊢
    clear e
    have Hu := Lib.hid hu; have HB := Lib.hid hB; have Hb0 := Lib.hid hb0; have HC := Lib.hid hC; have Hr := Lib.hid hr; clear hu hB hb0 hC hr
    go_enter Try.func141, Try.ntmps141
    go_wp2_with fail
    go_ret
    exact ⟨by simp, Hb0.out⟩
theorem enters_of2 : ∀ args w, (callFunc 141 args).run Try.prog w = .ok (.enter 141 args) w := enters_of Try.func141 (by kernel_rfl) rfl
theorem of2_pred {w : World} {B : Nat} {s t : ByteArray} (hB : YBox B s t w) (l : List Var) : IdxVar.Pred RVar (oneIs s t) 141 #[.pointer (some ⟨B, 0, none⟩)] l w := by
  intro W u0 u1 x hb _ hx
  obtain ⟨v, h1, _, h2⟩ := hx
  simp only [List.cons.injEq, and_true] at h1
  obtain ⟨rfl, rfl⟩ := h1
  exact ofIn2_any h2 (hB.below hb)
def PBox (B : Nat) (cs : Array Value) (w : World) : Prop := w.heap[B]? = some (.cells cs 68 (0, 0))
theorem PBox.below {B : Nat} {cs : Array Value} {w w' : World} (h : PBox B cs w) (hb : Below w.heap.size w w') : PBox B cs w' := heap_below hb h
set_option maxRecDepth 10000 in
set_option maxHeartbeats 1000000 in
theorem ofIn_any {w : World} {B : Nat} {v0 v1 v2 v3 v4 v5 v6 v7 : Value} {vs : List Var} (h : RVars w [v3] vs) (hB : PBox B #[v0, v1, v2, v3, v4, v5, v6, v7] w) (s t : ByteArray) : Calls Try.prog 139 #[.agg #[.string s, .string t], .pointer (some ⟨B, 0, none⟩)] w fun e w' => e = .returned (.bool (!(setIn vs s t))) ∧ Below w.heap.size w w' := by
  have hb0 : Below w.heap.size w (w.alloc (.cells #[.string s, .string t] 38)) := below_alloc1 _ _
  have hC := IdxVar.has_any stays_var (oneIs s t) 141 #[.pointer (some ⟨w.heap.size, 0, none⟩)] enters_of2 (stays_slice stays_var _ _ _ _ h hb0) (of2_pred (heap_alloc_new _ _) vs)
  have c3 := cells_at (hB.below hb0) 3
  simp only [List.getElem?_toArray, List.getElem?_cons_zero, List.getElem?_cons_succ] at c3
  obtain ⟨a, n, cap, rfl⟩ := slice_any_shape h
  obtain ⟨r, hr⟩ : ∃ r, r = setIn vs s t := ⟨_, rfl⟩
  rw [show vs.any (oneIs s t) = r by rw [hr]; rfl] at hC
  rw [← hr]
  have Hh := Lib.hid h; have HB := Lib.hid hB; have HC := Lib.hid hC; have Hb0 := Lib.hid hb0; have Hr := Lib.hid hr; clear h hB hC hb0 hr
  go_enter Try.func139, Try.ntmps139
  go_wp2_with fail
  refine HC.out.mono ?_
  rintro e w1 ⟨rfl, hb1⟩
  have hb2 := Hb0.out.trans (hb1.mono Hb0.out.size)
  have Hb1 := Lib.hid hb1; have Hb2 := Lib.hid hb2; clear hb1 hb2
  go_wp2_with fail
  go_ret
  exact ⟨rfl, Hb2.out⟩
theorem enters_of1 : ∀ args w, (callFunc 139 args).run Try.prog w = .ok (.enter 139 args) w := enters_of Try.func139 (by kernel_rfl) rfl
theorem of1_pred {w : World} {B : Nat} {v0 v1 v2 v3 v4 v5 v6 v7 : Value} {vs : List Var} (h : RVars w [v3] vs) (hB : PBox B #[v0, v1, v2, v3, v4, v5, v6, v7] w) (l : List Setg) : IdxSet.Pred RSet (setNo vs) 139 #[.pointer (some ⟨B, 0, none⟩)] l w := by
  intro W u0 u1 x hb _ hx
  obtain ⟨h1, _, _⟩ := hx
  simp only [List.cons.injEq, and_true] at h1
  obtain ⟨rfl, rfl⟩ := h1
  exact ofIn_any (stays_slice stays_var _ _ _ _ h hb) (hB.below hb) x.1 x.2
set_option maxRecDepth 10000 in
theorem of_any {w : World} {v0 v1 v2 v3 v4 v5 v6 v7 u : Value} {vs : List Var} {l : List Setg} (h : RVars w [v3] vs) (hs : RSets w [u] l) : Calls Try.prog 112 #[.agg #[v0, v1, v2, v3, v4, v5, v6, v7], u] w fun e w' => e = .returned (.bool (ofOf vs l)) ∧ Below w.heap.size w w' := by
  have hb0 : Below w.heap.size w (w.alloc (.cells #[v0, v1, v2, v3, v4, v5, v6, v7] 68)) := below_alloc1 _ _
  have hC := IdxSet.has_any stays_set (setNo vs) 139 #[.pointer (some ⟨w.heap.size, 0, none⟩)] enters_of1 (stays_slice stays_set _ _ _ _ hs hb0) (of1_pred (stays_slice stays_var _ _ _ _ h hb0) (heap_alloc_new _ _) l)
  obtain ⟨a, n, cap, rfl⟩ := slice_any_shape hs
  obtain ⟨r, hr⟩ : ∃ r, r = l.any (setNo vs) := ⟨_, rfl⟩
  rw [← hr] at hC
  rw [show ofOf vs l = !r by rw [hr]; rfl]
  have Hh := Lib.hid h; have Hs := Lib.hid hs; have HC := Lib.hid hC; have Hb0 := Lib.hid hb0; have Hr := Lib.hid hr; clear h hs hC hb0 hr
  go_enter Try.func112, Try.ntmps112
  go_wp2_with fail
  refine HC.out.mono ?_
  rintro e w1 ⟨rfl, hb1⟩
  have hb2 := Hb0.out.trans (hb1.mono Hb0.out.size)
  have Hb1 := Lib.hid hb1; have Hb2 := Lib.hid hb2; clear hb1 hb2
  go_wp2_with fail
  go_ret
  exact ⟨rfl, Hb2.out⟩
end Go.Proofs.Ytnelgellbabkoaa

/- The walk of cooperref09.settings: whether settings are of a package. No condition. -/
namespace Go.Proofs.Ytnelgellbabkoaa
open Go.RowKit Go.Shelf
attribute [local go_sem ↓] Go.wp_at_zero Go.wp_at_succ

theorem quiet_add2 {P : Program} {f : FuncId} {args : Array Value} {w : World} {a n : Nat} {v : Value}
    (h : Calls P f args (w.drewN (a + n)) fun e w' => e = .returned v ∧ ∃ m, w' = (w.drewN (a + n)).drewN m) :
    Calls P f args (w.drewN (a + n)) fun e w'' => e = .returned v ∧ ∃ m, w'' = w.drewN (a + m) :=
  h.mono fun _ _ ⟨he, m, hm⟩ => ⟨he, n + m, by rw [hm, World.drewN_drewN, Nat.add_assoc]⟩
theorem any_take_one {α : Type} {p : α → Bool} {l : List α} {k : Nat} (h : k < l.length) : (l.take (k + 1)).any p = ((l.take k).any p || p l[k]) := by
  rw [List.take_succ_eq_append_getElem h, List.any_append]; simp
set_option maxRecDepth 10000 in
set_option maxHeartbeats 2000000 in
theorem settingsRef_any {w : World} {v0 v1 v2 v3 v4 v5 v6 v7 u : Value} {vs : List Var} {l : List Setg} (h : RVars w [v3] vs) (hs : RSets w [u] l) : Calls Try.prog 119 #[.agg #[v0, v1, v2, v3, v4, v5, v6, v7], u] w fun e w' => e = .returned (.bool (ofOf vs l)) ∧ Below w.heap.size w w' := by
  obtain ⟨a, cap, rfl, hz, g⟩ := vars_open h
  obtain ⟨a2, cap2, rfl, hz2, g2⟩ := sets_open hs
  obtain ⟨n, hn⟩ : ∃ n, n = vs.length := ⟨_, rfl⟩
  obtain ⟨n2, hn2⟩ : ∃ n, n = l.length := ⟨_, rfl⟩
  rw [← hn] at hz h ⊢
  rw [← hn2] at hz2 hs ⊢
  obtain ⟨r, hr⟩ : ∃ r, r = ofOf vs l := ⟨_, rfl⟩
  rw [← hr]
  obtain ⟨nb, hnb⟩ : ∃ nb, nb = w.heap.size := ⟨_, rfl⟩
  obtain ⟨W0, hW0⟩ : ∃ W0, W0 = w.alloc (.cells #[v0, v1, v2, .slice a n cap, v4, v5, v6, v7] 68) := ⟨_, rfl⟩
  have hb0 : Below w.heap.size w W0 := by rw [hW0]; exact below_alloc1 _ _
  have hbx : W0.heap[nb]? = some (.cells #[v0, v1, v2, .slice a n cap, v4, v5, v6, v7] 68 (0, 0)) := by rw [hW0, hnb]; exact heap_alloc_new _ _
  have c3 := cells_at hbx 3
  simp only [List.getElem?_toArray, List.getElem?_cons_zero, List.getElem?_cons_succ] at c3
  have Hh := Lib.hid h; have Hs := Lib.hid hs; have Hg := Lib.hid g; have Hg2 := Lib.hid g2; have Hn := Lib.hid hn; have Hn2 := Lib.hid hn2; have Hr := Lib.hid hr; have Hb0 := Lib.hid hb0; have Hbx := Lib.hid hbx; clear h hs g g2 hn hn2 hr hb0 hbx
  go_enter Try.func119, Try.ntmps119
  go_upto_region 1 with (fail)
  rw [← hW0, ← hnb]
  have HW0 := Lib.hid hW0; have Hnb := Lib.hid hnb; clear hW0 hnb
  go_wp2_with fail
  go_loopw [10] (fun i wr => ∃ k : Nat, k ≤ n2 ∧ i = .int .i64 k ∧ NoneIn (setNo vs) l k ∧ ∃ q, wr = W0.drewN q) (fun i _ => n2 - (intOf i).toNat)
  case atStart => exact ⟨0, Nat.zero_le _, rfl, noneIn_zero _ _, 0, rfl⟩
  case round =>
    obtain ⟨k, hk, rfl, hno, q, rfl⟩ := hrel
    by_cases hlt : k < n2
    · have hkl : k < l.length := by have := Hn2.out; omega
      obtain ⟨b, off, rfl, d0, d1, hs1, hs2⟩ := Hg2.out k _ (List.getElem?_eq_getElem hkl)
      have hyes := fun h => any_yes (p := setNo vs) hkl h
      have hnn := fun h => noneIn_succ hkl hno h
      obtain ⟨x, hx⟩ : ∃ x, x = l[k] := ⟨_, rfl⟩
      rw [← hx] at d0 d1 hyes hnn
      have e0 := cell_later Hb0.out d0
      have e1 := cell_later Hb0.out d1
      obtain ⟨s, hs⟩ : ∃ y, y = x.1 := ⟨_, rfl⟩
      obtain ⟨t, ht⟩ : ∃ y, y = x.2 := ⟨_, rfl⟩
      rw [← hs] at e0
      rw [← ht] at e1
      have hp : setNo vs x = !(vs.any (oneIs s t)) := by rw [hs, ht]; rfl
      have k5 : (0 : Int) ≤ (k : Int) := by omega
      have k6 : (k : Int) < (n2 : Int) := by omega
      clear hx hkl d0 d1 hs1 hs2
      have Hno := Lib.hid hno; have Hyes := Lib.hid hyes; have Hnn := Lib.hid hnn; have Hp := Lib.hid hp; have Hs := Lib.hid hs; have Ht := Lib.hid ht; clear hno hyes hnn hp hs ht
      go_wp2_with fail
      go_loopw [6, 16] (fun o j wr => ∃ i : Nat, i ≤ n ∧ j = .int .i64 i ∧ o = .bool ((vs.take i).any (oneIs s t)) ∧ ∃ q, wr = W0.drewN q) (fun _ j _ => n - (intOf j).toNat)
      case atStart => exact ⟨0, Nat.zero_le _, rfl, by simp, q, rfl⟩
      case round =>
        obtain ⟨i, hi, rfl, rfl, q2, rfl⟩ := hrel
        by_cases hlt2 : i < n
        · have hil : i < vs.length := by have := Hn.out; omega
          obtain ⟨b2, off2, u2, rfl, f0, f1, hsx, hu⟩ := Hg.out i hil
          have hnext := any_take_one (p := oneIs s t) hil
          obtain ⟨y, hy⟩ : ∃ y, y = vs[i] := ⟨_, rfl⟩
          rw [← hy] at f0 hsx hu hnext
          obtain ⟨z, hz3⟩ : ∃ z, z = y.1 := ⟨_, rfl⟩
          rw [← hz3] at f0 hsx
          have hC := fun (q : Nat) => hasRef_any (stays_slice stays_str _ _ _ _ hu (bel_drewN Hb0.out q)) t
          obtain ⟨a3, n3, c3', rfl⟩ := slice_any_shape hu
          have e2 := cell_later Hb0.out f0
          have e3 := cell_later Hb0.out f1
          obtain ⟨p, hpp⟩ : ∃ p, p = (vs.take i).any (oneIs s t) := ⟨_, rfl⟩
          obtain ⟨r2, hr2⟩ : ∃ r, r = hasT y.2 t := ⟨_, rfl⟩
          have hone : oneIs s t y = (decide (z = s) && r2) := by rw [hz3, hr2]; rfl
          rw [← hr2] at hC
          rw [← hpp] at hnext ⊢
          rw [hone] at hnext
          have q1 := bytes_dec z s
          have k7 : (0 : Int) ≤ (i : Int) := by omega
          have k8 : (i : Int) < (n : Int) := by omega
          clear hy hil f0 f1
          cases p with
          | true =>
            have Hnext := Lib.hid hnext; have Hu := Lib.hid hu; have HC := Lib.hid hC; have Hpp := Lib.hid hpp; have Hr2 := Lib.hid hr2; have Hone := Lib.hid hone; have Hz3 := Lib.hid hz3; clear hnext hu hC hpp hr2 hone hz3
            go_wp2_with fail
            go_quiet (fail)
            go_wp2_with fail
            go_roundw
            case rel => exact ⟨i + 1, by omega, by go_num, by rw [Hnext.out]; rfl, _, rfl⟩
            case measure => simp [intOf]; omega
          | false =>
            by_cases e : z = s
            · rw [decide_eq_true e] at q1 hnext
              clear e
              have Hnext := Lib.hid hnext; have Hu := Lib.hid hu; have HC := Lib.hid hC; have Hpp := Lib.hid hpp; have Hr2 := Lib.hid hr2; have Hone := Lib.hid hone; have Hz3 := Lib.hid hz3; clear hnext hu hC hpp hr2 hone hz3
              go_wp2_with fail
              go_quiet ((go_at_call 88; exact quiet_add2 (HC.out _)))
              go_wp2_with fail
              go_roundw
              case rel => exact ⟨i + 1, by omega, by go_num, by rw [Hnext.out]; simp, _, rfl⟩
              case measure => simp [intOf]; omega
            · rw [decide_eq_false e] at q1 hnext
              clear e
              have Hnext := Lib.hid hnext; have Hu := Lib.hid hu; have HC := Lib.hid hC; have Hpp := Lib.hid hpp; have Hr2 := Lib.hid hr2; have Hone := Lib.hid hone; have Hz3 := Lib.hid hz3; clear hnext hu hC hpp hr2 hone hz3
              go_wp2_with fail
              go_quiet (fail)
              go_wp2_with fail
              go_roundw
              case rel => exact ⟨i + 1, by omega, by go_num, by rw [Hnext.out]; rfl, _, rfl⟩
              case measure => simp [intOf]; omega
        · obtain rfl : n = i := by omega
          have e : vs.take n = vs := List.take_of_length_le (by have := Hn.out; omega)
          rw [e]
          clear e
          obtain ⟨p, hpp⟩ : ∃ p, p = vs.any (oneIs s t) := ⟨_, rfl⟩
          rw [← hpp]
          cases p with
          | true =>
            have hq := Hnn.out (by rw [Hp.out, ← hpp]; rfl)
            have Hpp := Lib.hid hpp; have Hq := Lib.hid hq; clear hpp hq
            go_wp2_with fail
            go_roundw
            case rel => exact ⟨k + 1, by omega, by go_num, Hq.out, _, rfl⟩
            case measure => simp [intOf]; omega
          | false =>
            have hf : r = false := by rw [Hr.out]; unfold ofOf; rw [Hyes.out (by rw [Hp.out, ← hpp]; rfl)]; rfl
            have Hpp := Lib.hid hpp; have Hf := Lib.hid hf; clear hpp hf
            go_wp2_with fail
            go_ret
            exact ⟨ret_bool Hf.out.symm, bel_drewN Hb0.out _⟩
    · obtain rfl : n2 = k := by omega
      have hf : r = true := by rw [Hr.out]; unfold ofOf; rw [any_no (by rw [← Hn2.out]; exact hno)]; rfl
      have Hno := Lib.hid hno; have Hf := Lib.hid hf; clear hno hf
      go_wp2_with fail
      go_ret
      exact ⟨ret_bool Hf.out.symm, bel_drewN Hb0.out _⟩
end Go.Proofs.Ytnelgellbabkoaa

/- The walk of cooperref07.greatTexts: it answers. No condition. -/
namespace Go.Proofs.Ytnelgellbabkoaa
open Go.RowKit Go.Shelf

set_option maxRecDepth 10000 in
set_option maxHeartbeats 1000000 in
theorem greatTexts_bd {w : World} {v : Value} {l : List ByteArray} (h : RSs w [v] l) : Calls Try.prog 80 #[v] w fun e w' => (∃ r, e = .returned (.bool r) ∧ (r = false → l.length ≤ 50)) ∧ w = w' := by
  obtain ⟨a, cap, rfl, hz, g⟩ := strs_open h
  obtain ⟨n, hn⟩ : ∃ n, n = l.length := ⟨_, rfl⟩
  rw [← hn] at hz h ⊢
  have Hh := Lib.hid h; have Hg := Lib.hid g; have Hn := Lib.hid hn; clear h g hn
  go_enter Try.func80, Try.ntmps80
  by_cases h50 : 50 < n
  · have k1 : decide ((50 : Int) < (n : Int)) = true := by simp; omega
    go_wp2_with fail
    go_ret
    exact ⟨⟨true, rfl, fun h => by cases h⟩, rfl⟩
  · have k1 : decide ((50 : Int) < (n : Int)) = false := by simp; omega
    go_wp2_with fail
    have h50' : n ≤ 50 := by omega
    clear k1 h50
    go_loopw [9] (fun i wr => ∃ k : Nat, k ≤ n ∧ i = .int .i64 k ∧ w = wr) (fun i _ => n - (intOf i).toNat)
    case atStart => exact ⟨0, Nat.zero_le _, rfl, rfl⟩
    case round =>
      obtain ⟨k, hk, rfl, rfl⟩ := hrel
      by_cases hlt : k < n
      · have hkl : k < l.length := by have := Hn.out; omega
        obtain ⟨b, off, rfl, d0, hs1⟩ := Hg.out k hkl
        obtain ⟨x, hx⟩ : ∃ x, x = l[k] := ⟨_, rfl⟩
        rw [← hx] at d0 hs1
        have k5 : (0 : Int) ≤ (k : Int) := by omega
        have k6 : (k : Int) < (n : Int) := by omega
        clear hx hkl
        by_cases h100 : 100 < x.size
        · have k7 : decide ((100 : Int) < (x.size : Int)) = true := by simp; omega
          go_wp2_with fail
          go_ret
          exact ⟨⟨true, rfl, fun h => by cases h⟩, rfl⟩
        · have k7 : decide ((100 : Int) < (x.size : Int)) = false := by simp; omega
          go_wp2_with fail
          go_roundw
          case rel => exact ⟨k + 1, by omega, by go_num, by first | rfl | trivial⟩
          case measure => simp [intOf]; omega
      · obtain rfl : k = n := by omega
        go_wp2_with fail
        go_ret
        exact ⟨⟨false, rfl, fun _ => by have := Hn.out; omega⟩, rfl⟩
theorem greatTexts_any {w : World} {v : Value} {l : List ByteArray} (h : RSs w [v] l) : Calls Try.prog 80 #[v] w fun e w' => (∃ r, e = .returned (.bool r)) ∧ w = w' :=
  (greatTexts_bd h).mono fun _ _ ⟨⟨r, he, _⟩, hw⟩ => ⟨⟨r, he⟩, hw⟩
theorem spans_open {w : World} {v : Value} {l : List Spn} (h : RSlice 2 RSpn w [v] l) : ∃ a cap, v = .slice a l.length cap ∧ l.length ≤ 9223372036854775807 ∧ ∀ i x, l[i]? = some x → ∃ b off, a = some ⟨b, off, none⟩ ∧ w.cell? ⟨b, off + i * 2, none⟩ = some (.string x.1) ∧ w.cell? ⟨b, off + i * 2 + 1, none⟩ = some (.string x.2.1) ∧ x.1.size ≤ 9223372036854775807 ∧ x.2.1.size ≤ 9223372036854775807 := by
  obtain ⟨a, cap, hv, hcap, hmax, hel⟩ := h
  simp only [List.cons.injEq, and_true] at hv
  unfold maxLen at hmax
  refine ⟨a, cap, hv, by omega, fun i x hi => ?_⟩
  obtain ⟨b, off, ecs, h1, h2, h3, h4⟩ := hel i x hi
  obtain ⟨a0, t0, rfl, _, ⟨rfl, h5⟩, a1, t1, rfl, _, ⟨rfl, h6⟩, h7⟩ := h4
  obtain rfl : t1 = [] := h7
  unfold maxLen at h5 h6
  exact ⟨b, off, h1, by simpa using h3 0 _ rfl, by simpa using h3 1 _ rfl, by omega, by omega⟩
set_option maxRecDepth 10000 in
set_option maxHeartbeats 1000000 in
theorem greatSpans_any {w : World} {v : Value} {l : List Spn} (h : RSlice 2 RSpn w [v] l) : Calls Try.prog 138 #[v] w fun e w' => (∃ r, e = .returned (.bool r) ∧ (r = false → l.length ≤ 30)) ∧ w = w' := by
  obtain ⟨a, cap, rfl, hz, g⟩ := spans_open h
  obtain ⟨n, hn⟩ : ∃ n, n = l.length := ⟨_, rfl⟩
  rw [← hn] at hz h ⊢
  have Hh := Lib.hid h; have Hg := Lib.hid g; have Hn := Lib.hid hn; clear h g hn
  go_enter Try.func138, Try.ntmps138
  by_cases h50 : 30 < n
  · have k1 : decide ((30 : Int) < (n : Int)) = true := by simp; omega
    go_wp2_with fail
    go_ret
    exact ⟨⟨true, rfl, fun h => by cases h⟩, rfl⟩
  · have k1 : decide ((30 : Int) < (n : Int)) = false := by simp; omega
    have h50' : n ≤ 30 := by omega
    go_wp2_with fail
    clear k1 h50
    go_loopw [9] (fun i wr => ∃ k : Nat, k ≤ n ∧ i = .int .i64 k ∧ w = wr) (fun i _ => n - (intOf i).toNat)
    case atStart => exact ⟨0, Nat.zero_le _, rfl, rfl⟩
    case round =>
      obtain ⟨k, hk, rfl, rfl⟩ := hrel
      by_cases hlt : k < n
      · have hkl : k < l.length := by have := Hn.out; omega
        obtain ⟨b, off, rfl, d0, d1, hs1, hs2⟩ := Hg.out k _ (List.getElem?_eq_getElem hkl)
        obtain ⟨x, hx⟩ : ∃ x, x = l[k] := ⟨_, rfl⟩
        rw [← hx] at d0 d1 hs1 hs2
        obtain ⟨s, hs⟩ : ∃ s, s = x.1 := ⟨_, rfl⟩
        obtain ⟨t, ht⟩ : ∃ s, s = x.2.1 := ⟨_, rfl⟩
        rw [← hs] at d0 hs1
        rw [← ht] at d1 hs2
        have k5 : (0 : Int) ≤ (k : Int) := by omega
        have k6 : (k : Int) < (n : Int) := by omega
        clear hx hkl hs ht
        by_cases h100 : 100 < s.size
        · have k7 : decide ((100 : Int) < (s.size : Int)) = true := by simp; omega
          go_wp2_with fail
          go_ret
          exact ⟨⟨true, rfl, fun h => by cases h⟩, rfl⟩
        · have k7 : decide ((100 : Int) < (s.size : Int)) = false := by simp; omega
          by_cases hm20 : 100 < t.size
          · have k8 : decide ((100 : Int) < (t.size : Int)) = true := by simp; omega
            go_wp2_with fail
            go_ret
            exact ⟨⟨true, rfl, fun h => by cases h⟩, rfl⟩
          · have k8 : decide ((100 : Int) < (t.size : Int)) = false := by simp; omega
            go_wp2_with fail
            go_roundw
            case rel => exact ⟨k + 1, by omega, by go_num, by first | rfl | trivial⟩
            case measure => simp [intOf]; omega
      · obtain rfl : k = n := by omega
        go_wp2_with fail
        go_ret
        exact ⟨⟨false, rfl, fun _ => by have := Hn.out; omega⟩, rfl⟩
set_option maxRecDepth 10000 in
set_option maxHeartbeats 1000000 in
theorem greatSpec_any {w : World} {nm : ByteArray} {u v : Value} {sp : List Spn} {l : List Setg} (hsp : RSlice 2 RSpn w [u] sp) (h : RSets w [v] l) : Calls Try.prog 109 #[.agg #[.string nm, u, v]] w fun e w' => (∃ r, e = .returned (.bool r)) ∧ Below w.heap.size w w' := by
  have hb0 : Below w.heap.size w (w.alloc (.cells #[.string nm, u, v] 107)) := below_alloc1 _ _
  have hG := greatSpans_any (stays_slice stays_spn _ _ _ _ hsp hb0)
  obtain ⟨W0, hW0⟩ : ∃ W0, W0 = w.alloc (.cells #[.string nm, u, v] 107) := ⟨_, rfl⟩
  obtain ⟨nb, hnb⟩ : ∃ nb, nb = w.heap.size := ⟨_, rfl⟩
  have hbx : W0.heap[nb]? = some (.cells #[.string nm, u, v] 107 (0, 0)) := by rw [hW0, hnb]; exact heap_alloc_new _ _
  rw [← hW0] at hb0 hG
  obtain ⟨ua, uc, rfl, hzu, _⟩ := spans_open hsp
  obtain ⟨m, hm⟩ : ∃ m, m = sp.length := ⟨_, rfl⟩
  rw [← hm] at hG hbx hW0 hzu
  obtain ⟨a, cap, rfl, hz, g⟩ := sets_open h
  obtain ⟨n, hn⟩ : ∃ n, n = l.length := ⟨_, rfl⟩
  rw [← hn] at hz h hbx hW0
  rw [← hm, ← hn]
  have c0 := cells_at hbx 0
  have c1 := cells_at hbx 1
  have c2 := cells_at hbx 2
  simp only [List.getElem?_toArray, List.getElem?_cons_zero, List.getElem?_cons_succ] at c0 c1 c2
  have Hh := Lib.hid h; have Hsp := Lib.hid hsp; have Hg := Lib.hid g; have Hn := Lib.hid hn; have Hm := Lib.hid hm; have HG := Lib.hid hG; have Hb0 := Lib.hid hb0; have Hbx := Lib.hid hbx; clear h hsp g hn hm hG hb0 hbx
  go_enter Try.func109, Try.ntmps109
  go_upto_region 1 with (fail)
  rw [← hW0, ← hnb]
  have HW0 := Lib.hid hW0; have Hnb := Lib.hid hnb; clear hW0 hnb
  by_cases h1 : 100 < nm.size
  · have k1 : decide ((100 : Int) < (nm.size : Int)) = true := by simp; omega
    go_wp2_with fail
    go_ret
    exact ⟨⟨_, rfl⟩, Hb0.out⟩
  · have k1 : decide ((100 : Int) < (nm.size : Int)) = false := by simp; omega
    by_cases h2 : 20 < n
    · have k2 : decide ((20 : Int) < (n : Int)) = true := by simp; omega
      go_wp2_with fail
      go_ret
      exact ⟨⟨_, rfl⟩, Hb0.out⟩
    · have k2 : decide ((20 : Int) < (n : Int)) = false := by simp; omega
      go_wp2_with fail
      refine HG.out.mono ?_
      rintro e w1 ⟨⟨r, rfl, _⟩, rfl⟩
      cases r with
      | true =>
        go_wp2_with fail
        go_ret
        exact ⟨⟨_, rfl⟩, Hb0.out⟩
      | false =>
        go_wp2_with fail
        clear k1 k2 h1 h2
        go_loopw [22] (fun i wr => ∃ k : Nat, k ≤ n ∧ i = .int .i64 k ∧ W0 = wr) (fun i _ => n - (intOf i).toNat)
        case atStart => exact ⟨0, Nat.zero_le _, rfl, rfl⟩
        case round =>
          obtain ⟨k, hk, rfl, rfl⟩ := hrel
          by_cases hlt : k < n
          · have hkl : k < l.length := by have := Hn.out; omega
            obtain ⟨b, off, rfl, d0, d1, hs1, hs2⟩ := Hg.out k _ (List.getElem?_eq_getElem hkl)
            obtain ⟨x, hx⟩ : ∃ x, x = l[k] := ⟨_, rfl⟩
            rw [← hx] at d0 d1 hs1 hs2
            obtain ⟨s, hs⟩ : ∃ s, s = x.1 := ⟨_, rfl⟩
            obtain ⟨t, ht⟩ : ∃ s, s = x.2 := ⟨_, rfl⟩
            rw [← hs] at d0 hs1
            rw [← ht] at d1 hs2
            have e0 := cell_later Hb0.out d0
            have e1 := cell_later Hb0.out d1
            have k5 : (0 : Int) ≤ (k : Int) := by omega
            have k6 : (k : Int) < (n : Int) := by omega
            clear hx hkl hs ht d0 d1
            by_cases h100 : 100 < s.size
            · have k7 : decide ((100 : Int) < (s.size : Int)) = true := by simp; omega
              go_wp2_with fail
              go_ret
              exact ⟨⟨_, rfl⟩, Hb0.out⟩
            · have k7 : decide ((100 : Int) < (s.size : Int)) = false := by simp; omega
              by_cases hm20 : 100 < t.size
              · have k8 : decide ((100 : Int) < (t.size : Int)) = true := by simp; omega
                go_wp2_with fail
                go_ret
                exact ⟨⟨_, rfl⟩, Hb0.out⟩
              · have k8 : decide ((100 : Int) < (t.size : Int)) = false := by simp; omega
                go_wp2_with fail
                go_roundw
                case rel => exact ⟨k + 1, by omega, by go_num, by first | rfl | trivial⟩
                case measure => simp [intOf]; omega
          · obtain rfl : k = n := by omega
            go_wp2_with fail
            go_ret
            exact ⟨⟨_, rfl⟩, Hb0.out⟩
end Go.Proofs.Ytnelgellbabkoaa

/- The cells of depends, conflicts and releases. No condition. -/
namespace Go.Proofs.Ytnelgellbabkoaa
open Go.RowKit Go.Shelf

theorem spc_cells {w : World} {cs : List Value} {x : Spc} (h : RSpc w cs x) : ∃ u1 u2, cs = [.string x.1, u1, u2] ∧ x.1.size ≤ maxLen ∧ RSlice 2 RSpn w [u1] x.2.1 ∧ RSets w [u2] x.2.2.1 := by
  obtain ⟨a0, t0, rfl, _, ⟨rfl, h0⟩, a1, t1, rfl, l1, h1, a2, t2, rfl, l2, h2, h3⟩ := h
  obtain rfl : t2 = [] := h3
  match a1, l1, a2, l2 with
  | [u1], _, [u2], _ => exact ⟨u1, u2, rfl, h0, h1, h2⟩
theorem dpd_cells {w : World} {cs : List Value} {x : Dpd} (h : RDpd w cs x) : ∃ u1 u2 u4 u5, cs = [.string x.1.1, u1, u2, .string x.2.1.1, u4, u5, .int .i64 x.2.2.1] ∧ x.1.1.size ≤ maxLen ∧ x.2.1.1.size ≤ maxLen ∧ RSlice 2 RSpn w [u1] x.1.2.1 ∧ RSets w [u2] x.1.2.2.1 ∧ RSlice 2 RSpn w [u4] x.2.1.2.1 ∧ RSets w [u5] x.2.1.2.2.1 := by
  obtain ⟨a0, t0, rfl, _, h0, a1, t1, rfl, _, h1, a2, t2, rfl, _, ⟨rfl, _⟩, h3⟩ := h
  obtain rfl : t2 = [] := h3
  obtain ⟨u1, u2, rfl, k0, k1, k2⟩ := spc_cells h0
  obtain ⟨u4, u5, rfl, k3, k4, k5⟩ := spc_cells h1
  exact ⟨u1, u2, u4, u5, rfl, k0, k3, k1, k2, k4, k5⟩
/-- what the seven cells of a depend or a conflict are -/
structure DpdAt (w : World) (b off : Nat) (x : Dpd) (u1 u2 u4 u5 : Value) : Prop where
  c0 : w.cell? ⟨b, off, none⟩ = some (.string x.1.1)
  c1 : w.cell? ⟨b, off + 1, none⟩ = some u1
  c2 : w.cell? ⟨b, off + 2, none⟩ = some u2
  c3 : w.cell? ⟨b, off + 3, none⟩ = some (.string x.2.1.1)
  c4 : w.cell? ⟨b, off + 4, none⟩ = some u4
  c5 : w.cell? ⟨b, off + 5, none⟩ = some u5
  c6 : w.cell? ⟨b, off + 6, none⟩ = some (.int .i64 x.2.2.1)
  s0 : x.1.1.size ≤ maxLen
  s3 : x.2.1.1.size ≤ maxLen
  r1 : RSlice 2 RSpn w [u1] x.1.2.1
  r2 : RSets w [u2] x.1.2.2.1
  r4 : RSlice 2 RSpn w [u4] x.2.1.2.1
  r5 : RSets w [u5] x.2.1.2.2.1
theorem dpds_open {w : World} {v : Value} {l : List Dpd} (h : RSlice 7 RDpd w [v] l) : ∃ a cap, v = .slice a l.length cap ∧ l.length ≤ 9223372036854775807 ∧ ∀ i x, l[i]? = some x → ∃ b off u1 u2 u4 u5, a = some ⟨b, off, none⟩ ∧ DpdAt w b (off + i * 7) x u1 u2 u4 u5 := by
  obtain ⟨a, cap, hv, hcap, hmax, hel⟩ := h
  simp only [List.cons.injEq, and_true] at hv
  unfold maxLen at hmax
  refine ⟨a, cap, hv, by omega, fun i x hi => ?_⟩
  obtain ⟨b, off, ecs, h1, h2, h3, h4⟩ := hel i x hi
  obtain ⟨u1, u2, u4, u5, rfl, k0, k3, k1, k2, k4, k5⟩ := dpd_cells h4
  exact ⟨b, off, u1, u2, u4, u5, h1, ⟨by simpa using h3 0 _ rfl, h3 1 _ rfl, h3 2 _ rfl, h3 3 _ rfl, h3 4 _ rfl, h3 5 _ rfl, h3 6 _ rfl, k0, k3, k1, k2, k4, k5⟩⟩
theorem rlss_open {w : World} {v : Value} {l : List Rls} (h : RSlice 2 RRls w [v] l) : ∃ a cap, v = .slice a l.length cap ∧ l.length ≤ 9223372036854775807 ∧ ∀ i x, l[i]? = some x → ∃ b off, a = some ⟨b, off, none⟩ ∧ w.cell? ⟨b, off + i * 2, none⟩ = some (.string x.1) ∧ w.cell? ⟨b, off + i * 2 + 1, none⟩ = some (.bool x.2.1) ∧ x.1.size ≤ 9223372036854775807 := by
  obtain ⟨a, cap, hv, hcap, hmax, hel⟩ := h
  simp only [List.cons.injEq, and_true] at hv
  unfold maxLen at hmax
  refine ⟨a, cap, hv, by omega, fun i x hi => ?_⟩
  obtain ⟨b, off, ecs, h1, h2, h3, h4⟩ := hel i x hi
  obtain ⟨a0, t0, rfl, _, ⟨rfl, h5⟩, a1, t1, rfl, _, h6, h7⟩ := h4
  obtain rfl : t1 = [] := h7
  obtain rfl : a1 = [.bool x.2.1] := h6
  unfold maxLen at h5
  exact ⟨b, off, h1, by simpa using h3 0 _ rfl, by simpa using h3 1 _ rfl, by omega⟩
end Go.Proofs.Ytnelgellbabkoaa

/- The walk of cooperref07.greatPackage: it answers. No condition. -/
namespace Go.Proofs.Ytnelgellbabkoaa
open Go.RowKit Go.Shelf
attribute [local go_sem ↓] Go.wp_at_zero Go.wp_at_succ

/-- few variants of few values -/
def PkgSmall (x : Pkg) : Prop := x.2.2.2.1.length ≤ 20 ∧ ∀ v ∈ x.2.2.2.1, v.2.length ≤ 50
set_option maxRecDepth 10000 in
set_option maxHeartbeats 4000000 in
theorem greatPkg_any {w : World} {cs : List Value} {x : Pkg} (h : RPkg w cs x) : Calls Try.prog 79 #[.agg cs.toArray] w fun e w' => (∃ r, e = .returned (.bool r) ∧ (r = false → PkgSmall x)) ∧ Below w.heap.size w w' := by
  obtain ⟨u2, u3, u4, u5, u6, u7, rfl, h0, h2, h3, h4, h5, h6, h7⟩ := pkg_cells h
  obtain ⟨a2, q2, rfl, z2, g2⟩ := rlss_open h2
  obtain ⟨a3, q3, rfl, z3, g3⟩ := vars_open h3
  obtain ⟨a4, n4, q4, rfl⟩ := slice_any_shape h4
  obtain ⟨a5, q5, rfl, z5, g5⟩ := dpds_open h5
  obtain ⟨a6, q6, rfl, z6, g6⟩ := dpds_open h6
  obtain ⟨a7, n7, q7, rfl⟩ := slice_any_shape h7
  obtain ⟨n2, hn2⟩ : ∃ n, n = x.2.2.1.length := ⟨_, rfl⟩
  obtain ⟨n3, hn3⟩ : ∃ n, n = x.2.2.2.1.length := ⟨_, rfl⟩
  obtain ⟨n5, hn5⟩ : ∃ n, n = x.2.2.2.2.2.1.length := ⟨_, rfl⟩
  obtain ⟨n6, hn6⟩ : ∃ n, n = x.2.2.2.2.2.2.1.length := ⟨_, rfl⟩
  obtain ⟨nm, hnm⟩ : ∃ n, n = x.1 := ⟨_, rfl⟩
  obtain ⟨ln, hln⟩ : ∃ n, n = x.2.1 := ⟨_, rfl⟩
  rw [← hn2] at h2 z2
  rw [← hn3] at h3 z3
  rw [← hn5] at h5 z5
  rw [← hn6] at h6 z6
  rw [← hnm] at h0
  rw [← hnm, ← hln, ← hn2, ← hn3, ← hn5, ← hn6]
  clear h
  obtain ⟨W0, hW0⟩ : ∃ W0, W0 = w.alloc (.cells #[.string nm, .int .i64 ln, .slice a2 n2 q2, .slice a3 n3 q3, .slice a4 n4 q4, .slice a5 n5 q5, .slice a6 n6 q6, .slice a7 n7 q7] 68) := ⟨_, rfl⟩
  obtain ⟨nb, hnb⟩ : ∃ nb, nb = w.heap.size := ⟨_, rfl⟩
  have hb0 : Below w.heap.size w W0 := by rw [hW0]; exact below_alloc1 _ _
  have hbx : W0.heap[nb]? = some (.cells #[.string nm, .int .i64 ln, .slice a2 n2 q2, .slice a3 n3 q3, .slice a4 n4 q4, .slice a5 n5 q5, .slice a6 n6 q6, .slice a7 n7 q7] 68 (0, 0)) := by rw [hW0, hnb]; exact heap_alloc_new _ _
  have hT4 := greatTexts_any (stays_slice stays_str _ _ _ _ h4 hb0)
  have hT7 := greatTexts_any (stays_slice stays_str _ _ _ _ h7 hb0)
  have c0 := cells_at hbx 0
  have c1 := cells_at hbx 1
  have c2 := cells_at hbx 2
  have c3 := cells_at hbx 3
  have c4 := cells_at hbx 4
  have c5 := cells_at hbx 5
  have c6 := cells_at hbx 6
  have c7 := cells_at hbx 7
  simp only [List.getElem?_toArray, List.getElem?_cons_zero, List.getElem?_cons_succ] at c0 c1 c2 c3 c4 c5 c6 c7
  have H2 := Lib.hid h2; have H3 := Lib.hid h3; have H4 := Lib.hid h4; have H5 := Lib.hid h5; have H6 := Lib.hid h6; have H7 := Lib.hid h7; have Hg2 := Lib.hid g2; have Hg3 := Lib.hid g3; have Hg5 := Lib.hid g5; have Hg6 := Lib.hid g6; have Hn2 := Lib.hid hn2; have Hn3 := Lib.hid hn3; have Hn5 := Lib.hid hn5; have Hn6 := Lib.hid hn6; have Hnm := Lib.hid hnm; have Hln := Lib.hid hln; have Hb0 := Lib.hid hb0; have Hbx := Lib.hid hbx; have HT4 := Lib.hid hT4; have HT7 := Lib.hid hT7; clear h2 h3 h4 h5 h6 h7 g2 g3 g5 g6 hn2 hn3 hn5 hn6 hnm hln hb0 hbx hT4 hT7
  go_enter Try.func79, Try.ntmps79
  go_upto_region 1 with (fail)
  rw [← hW0, ← hnb]
  have HW0 := Lib.hid hW0; have Hnb := Lib.hid hnb; clear hW0 hnb
  by_cases e0 : 100 < nm.size
  · have k0 : decide ((100 : Int) < (nm.size : Int)) = true := by simp; omega
    go_wp2_with fail
    go_ret
    exact ⟨⟨true, rfl, fun h => by cases h⟩, Hb0.out⟩
  have k0 : decide ((100 : Int) < (nm.size : Int)) = false := by simp; omega
  by_cases e1 : 30 < n2
  · have k1 : decide ((30 : Int) < (n2 : Int)) = true := by simp; omega
    go_wp2_with fail
    go_ret
    exact ⟨⟨true, rfl, fun h => by cases h⟩, Hb0.out⟩
  have k1 : decide ((30 : Int) < (n2 : Int)) = false := by simp; omega
  by_cases e2 : 20 < n3
  · have k2 : decide ((20 : Int) < (n3 : Int)) = true := by simp; omega
    go_wp2_with fail
    go_ret
    exact ⟨⟨true, rfl, fun h => by cases h⟩, Hb0.out⟩
  have k2 : decide ((20 : Int) < (n3 : Int)) = false := by simp; omega
  have hn20 : n3 ≤ 20 := by omega
  by_cases e3 : 40 < n5
  · have k3 : decide ((40 : Int) < (n5 : Int)) = true := by simp; omega
    go_wp2_with fail
    go_ret
    exact ⟨⟨true, rfl, fun h => by cases h⟩, Hb0.out⟩
  have k3 : decide ((40 : Int) < (n5 : Int)) = false := by simp; omega
  by_cases e4 : 40 < n6
  · have k4 : decide ((40 : Int) < (n6 : Int)) = true := by simp; omega
    go_wp2_with fail
    go_ret
    exact ⟨⟨true, rfl, fun h => by cases h⟩, Hb0.out⟩
  have k4 : decide ((40 : Int) < (n6 : Int)) = false := by simp; omega
  go_wp2_with fail
  refine HT4.out.mono ?_
  rintro e w1 ⟨⟨r, rfl⟩, rfl⟩
  cases r with
  | true =>
    go_wp2_with fail
    go_ret
    exact ⟨⟨true, rfl, fun h => by cases h⟩, Hb0.out⟩
  | false =>
    go_wp2_with fail
    refine HT7.out.mono ?_
    rintro e w1 ⟨⟨r, rfl⟩, rfl⟩
    cases r with
    | true =>
      go_wp2_with fail
      go_ret
      exact ⟨⟨true, rfl, fun h => by cases h⟩, Hb0.out⟩
    | false =>
      go_wp2_with fail
      clear k0 k1 k2 k3 k4
      go_loopw [48] (fun i wr => ∃ k : Nat, k ≤ n2 ∧ i = .int .i64 k ∧ W0 = wr) (fun i _ => n2 - (intOf i).toNat)
      case atStart => exact ⟨0, Nat.zero_le _, rfl, rfl⟩
      case round =>
        obtain ⟨k, hk, rfl, rfl⟩ := hrel
        by_cases hlt : k < n2
        · have hkl : k < x.2.2.1.length := by have := Hn2.out; omega
          obtain ⟨b, off, rfl, d0, hdd, hs1⟩ := Hg2.out k _ (List.getElem?_eq_getElem hkl)
          clear hdd
          obtain ⟨s, hs⟩ : ∃ s, s = x.2.2.1[k].1 := ⟨_, rfl⟩
          rw [← hs] at d0 hs1
          have e0 := cell_later Hb0.out d0
          have k5 : (0 : Int) ≤ (k : Int) := by omega
          have k6 : (k : Int) < (n2 : Int) := by omega
          clear hs hkl d0
          by_cases h100 : 100 < s.size
          · have k7 : decide ((100 : Int) < (s.size : Int)) = true := by simp; omega
            go_wp2_with fail
            go_ret
            exact ⟨⟨true, rfl, fun h => by cases h⟩, Hb0.out⟩
          · have k7 : decide ((100 : Int) < (s.size : Int)) = false := by simp; omega
            go_wp2_with fail
            go_roundw
            case rel => exact ⟨k + 1, by omega, by go_num, by first | rfl | trivial⟩
            case measure => simp [intOf]; omega
        · obtain rfl : n2 = k := by omega
          go_wp2_with fail
          go_loopw [63] (fun i wr => ∃ k : Nat, k ≤ n3 ∧ i = .int .i64 k ∧ (∀ j (h : j < x.2.2.2.1.length), j < k → (x.2.2.2.1[j]).2.length ≤ 50) ∧ W0 = wr) (fun i _ => n3 - (intOf i).toNat)
          case atStart => exact ⟨0, Nat.zero_le _, rfl, fun _ _ h => by omega, rfl⟩
          case round =>
            obtain ⟨k, hk, rfl, hvl, rfl⟩ := hrel
            by_cases hlt : k < n3
            · have hkl : k < x.2.2.2.1.length := by have := Hn3.out; omega
              obtain ⟨b, off, u, rfl, d0, d1, hs1, hu⟩ := Hg3.out k hkl
              obtain ⟨s, hs⟩ : ∃ s, s = x.2.2.2.1[k].1 := ⟨_, rfl⟩
              rw [← hs] at d0 hs1
              obtain ⟨ua, un, uc, rfl⟩ := slice_any_shape hu
              have hT := greatTexts_bd (stays_slice stays_str _ _ _ _ hu Hb0.out)
              have e0 := cell_later Hb0.out d0
              have e1 := cell_later Hb0.out d1
              have k5 : (0 : Int) ≤ (k : Int) := by omega
              have k6 : (k : Int) < (n3 : Int) := by omega
              have hvn := fun (h : (x.2.2.2.1[k]).2.length ≤ 50) (j : Nat) (hj : j < x.2.2.2.1.length) (hjk : j < k + 1) => (by by_cases e : j = k; (· subst e; exact h); (· exact hvl j hj (by omega)) : (x.2.2.2.1[j]).2.length ≤ 50)
              have HT := Lib.hid hT; have Hu := Lib.hid hu; have Hvl := Lib.hid hvl; have Hvn := Lib.hid hvn; clear hT hu hvl hvn
              clear hs d0 d1
              by_cases h100 : 100 < s.size
              · have k7 : decide ((100 : Int) < (s.size : Int)) = true := by simp; omega
                go_wp2_with fail
                go_ret
                exact ⟨⟨true, rfl, fun h => by cases h⟩, Hb0.out⟩
              · have k7 : decide ((100 : Int) < (s.size : Int)) = false := by simp; omega
                go_wp2_with fail
                refine HT.out.mono ?_
                rintro e w1 ⟨⟨r, rfl, hrb⟩, rfl⟩
                cases r with
                | true =>
                  clear hrb
                  go_wp2_with fail
                  go_ret
                  exact ⟨⟨true, rfl, fun h => by cases h⟩, Hb0.out⟩
                | false =>
                  have hvm := Hvn.out (hrb rfl)
                  clear hrb
                  have Hvm := Lib.hid hvm; clear hvm
                  go_wp2_with fail
                  go_roundw
                  case rel => exact ⟨k + 1, by omega, by go_num, Hvm.out, by first | rfl | trivial⟩
                  case measure => simp [intOf]; omega
            · obtain rfl : n3 = k := by omega
              have hvv : ∀ v ∈ x.2.2.2.1, v.2.length ≤ 50 := fun v hv => by
                obtain ⟨j, hj, rfl⟩ := List.mem_iff_getElem.1 hv
                exact hvl j hj (by have := Hn3.out; omega)
              have Hvl := Lib.hid hvl; have Hvv := Lib.hid hvv; clear hvl hvv
              go_wp2_with fail
              go_loopw [87] (fun i wr => ∃ k : Nat, k ≤ n5 ∧ i = .int .i64 k ∧ Below W0.heap.size W0 wr) (fun i _ => n5 - (intOf i).toNat)
              case atStart => exact ⟨0, Nat.zero_le _, rfl, Below.refl _ _⟩
              case round =>
                obtain ⟨k, hk, rfl, hb⟩ := hrel
                have hbw := Hb0.out.trans (hb.mono Hb0.out.size)
                have f5 := cell_later hb c5
                have f6 := cell_later hb c6
                by_cases hlt : k < n5
                · have hkl : k < x.2.2.2.2.2.1.length := by have := Hn5.out; omega
                  obtain ⟨b, off, u1, u2, u4, u5, rfl, hp⟩ := Hg5.out k _ (List.getElem?_eq_getElem hkl)
                  obtain ⟨y, hy⟩ : ∃ y, y = x.2.2.2.2.2.1[k] := ⟨_, rfl⟩
                  rw [← hy] at hp
                  obtain ⟨b1, m1, p1, rfl⟩ := slice_any_shape hp.r1
                  obtain ⟨b2, m2, p2, rfl⟩ := slice_any_shape hp.r2
                  obtain ⟨b4, m4, p4, rfl⟩ := slice_any_shape hp.r4
                  obtain ⟨b5, m5, p5, rfl⟩ := slice_any_shape hp.r5
                  have e0 := cell_later hbw hp.c0
                  have e1 := cell_later hbw hp.c1
                  have e2 := cell_later hbw hp.c2
                  have e3 := cell_later hbw hp.c3
                  have e4 := cell_later hbw hp.c4
                  have e5 := cell_later hbw hp.c5
                  obtain ⟨s0, hs0⟩ : ∃ s, s = y.1.1 := ⟨_, rfl⟩
                  obtain ⟨s3, hs3⟩ : ∃ s, s = y.2.1.1 := ⟨_, rfl⟩
                  rw [← hs0] at e0
                  rw [← hs3] at e3
                  have hS1 := greatSpec_any (nm := s0) (stays_slice stays_spn _ _ _ _ hp.r1 hbw) (stays_slice stays_set _ _ _ _ hp.r2 hbw)
                  have hS2 := fun (W : World) (hW : Below w.heap.size w W) => greatSpec_any (nm := s3) (stays_slice stays_spn _ _ _ _ hp.r4 hW) (stays_slice stays_set _ _ _ _ hp.r5 hW)
                  have j5 : (0 : Int) ≤ (k : Int) := by omega
                  have j6 : (k : Int) < (n5 : Int) := by omega
                  clear hy hkl
                  have Hb := Lib.hid hb; have Hbw := Lib.hid hbw; have Hp := Lib.hid hp; have HS1 := Lib.hid hS1; have HS2 := Lib.hid hS2; have Hs0 := Lib.hid hs0; have Hs3 := Lib.hid hs3; clear hb hbw hp hS1 hS2 hs0 hs3
                  go_wp2_with fail
                  refine HS1.out.mono ?_
                  rintro e w1 ⟨⟨r, rfl⟩, hb1⟩
                  have hbw1 := Hbw.out.trans (hb1.mono Hbw.out.size)
                  cases r with
                  | true =>
                    have Hb1 := Lib.hid hb1; have Hbw1 := Lib.hid hbw1; clear hb1 hbw1
                    go_wp2_with fail
                    go_ret
                    exact ⟨⟨true, rfl, fun h => by cases h⟩, Hbw1.out⟩
                  | false =>
                    have hS3 := HS2.out w1 hbw1
                    have hb2 := Hb.out.trans (hb1.mono Hb.out.size)
                    have i5 := cell_later hb2 c5
                    have i6 := cell_later hb2 c6
                    have i33 := cell_later hb1 e3
                    have i44 := cell_later hb1 e4
                    have i55 := cell_later hb1 e5
                    clear f5 f6 e0 e1 e2 e3 e4 e5
                    have Hb1 := Lib.hid hb1; have Hbw1 := Lib.hid hbw1; have HS3 := Lib.hid hS3; have Hb2 := Lib.hid hb2; clear hb1 hbw1 hS3 hb2
                    go_wp2_with fail
                    refine HS3.out.mono ?_
                    rintro e w2 ⟨⟨r, rfl⟩, hb3⟩
                    have hbw2 := Hbw1.out.trans (hb3.mono Hbw1.out.size)
                    have hb4 := Hb2.out.trans (hb3.mono Hb2.out.size)
                    have Hb3 := Lib.hid hb3; have Hbw2 := Lib.hid hbw2; have Hb4 := Lib.hid hb4; clear hb3 hbw2 hb4
                    cases r with
                    | true =>
                      go_wp2_with fail
                      go_ret
                      exact ⟨⟨true, rfl, fun h => by cases h⟩, Hbw2.out⟩
                    | false =>
                      go_wp2_with fail
                      go_roundw
                      case rel => exact ⟨k + 1, by omega, by go_num, Hb4.out⟩
                      case measure => simp [intOf]; omega
                · obtain rfl : n5 = k := by omega
                  have Hb := Lib.hid hb; have Hbw := Lib.hid hbw; clear hb hbw
                  go_wp2_with fail
                  go_loopw [110] (fun i wr => ∃ k : Nat, k ≤ n6 ∧ i = .int .i64 k ∧ Below W0.heap.size W0 wr) (fun i _ => n6 - (intOf i).toNat)
                  case atStart => exact ⟨0, Nat.zero_le _, rfl, Hb.out⟩
                  case round =>
                    obtain ⟨k, hk, rfl, hb⟩ := hrel
                    have hbw := Hb0.out.trans (hb.mono Hb0.out.size)
                    have f5 := cell_later hb c5
                    have f6 := cell_later hb c6
                    by_cases hlt : k < n6
                    · have hkl : k < x.2.2.2.2.2.2.1.length := by have := Hn6.out; omega
                      obtain ⟨b, off, u1, u2, u4, u5, rfl, hp⟩ := Hg6.out k _ (List.getElem?_eq_getElem hkl)
                      obtain ⟨y, hy⟩ : ∃ y, y = x.2.2.2.2.2.2.1[k] := ⟨_, rfl⟩
                      rw [← hy] at hp
                      obtain ⟨b1, m1, p1, rfl⟩ := slice_any_shape hp.r1
                      obtain ⟨b2, m2, p2, rfl⟩ := slice_any_shape hp.r2
                      obtain ⟨b4, m4, p4, rfl⟩ := slice_any_shape hp.r4
                      obtain ⟨b5, m5, p5, rfl⟩ := slice_any_shape hp.r5
                      have e0 := cell_later hbw hp.c0
                      have e1 := cell_later hbw hp.c1
                      have e2 := cell_later hbw hp.c2
                      have e3 := cell_later hbw hp.c3
                      have e4 := cell_later hbw hp.c4
                      have e5 := cell_later hbw hp.c5
                      obtain ⟨s0, hs0⟩ : ∃ s, s = y.1.1 := ⟨_, rfl⟩
                      obtain ⟨s3, hs3⟩ : ∃ s, s = y.2.1.1 := ⟨_, rfl⟩
                      rw [← hs0] at e0
                      rw [← hs3] at e3
                      have hS1 := greatSpec_any (nm := s0) (stays_slice stays_spn _ _ _ _ hp.r1 hbw) (stays_slice stays_set _ _ _ _ hp.r2 hbw)
                      have hS2 := fun (W : World) (hW : Below w.heap.size w W) => greatSpec_any (nm := s3) (stays_slice stays_spn _ _ _ _ hp.r4 hW) (stays_slice stays_set _ _ _ _ hp.r5 hW)
                      have j5 : (0 : Int) ≤ (k : Int) := by omega
                      have j6 : (k : Int) < (n6 : Int) := by omega
                      clear hy hkl
                      have Hb := Lib.hid hb; have Hbw := Lib.hid hbw; have Hp := Lib.hid hp; have HS1 := Lib.hid hS1; have HS2 := Lib.hid hS2; have Hs0 := Lib.hid hs0; have Hs3 := Lib.hid hs3; clear hb hbw hp hS1 hS2 hs0 hs3
                      go_wp2_with fail
                      refine HS1.out.mono ?_
                      rintro e w1 ⟨⟨r, rfl⟩, hb1⟩
                      have hbw1 := Hbw.out.trans (hb1.mono Hbw.out.size)
                      cases r with
                      | true =>
                        have Hb1 := Lib.hid hb1; have Hbw1 := Lib.hid hbw1; clear hb1 hbw1
                        go_wp2_with fail
                        go_ret
                        exact ⟨⟨true, rfl, fun h => by cases h⟩, Hbw1.out⟩
                      | false =>
                        have hS3 := HS2.out w1 hbw1
                        have hb2 := Hb.out.trans (hb1.mono Hb.out.size)
                        have i5 := cell_later hb2 c5
                        have i6 := cell_later hb2 c6
                        have i33 := cell_later hb1 e3
                        have i44 := cell_later hb1 e4
                        have i55 := cell_later hb1 e5
                        clear f5 f6 e0 e1 e2 e3 e4 e5
                        have Hb1 := Lib.hid hb1; have Hbw1 := Lib.hid hbw1; have HS3 := Lib.hid hS3; have Hb2 := Lib.hid hb2; clear hb1 hbw1 hS3 hb2
                        go_wp2_with fail
                        refine HS3.out.mono ?_
                        rintro e w2 ⟨⟨r, rfl⟩, hb3⟩
                        have hbw2 := Hbw1.out.trans (hb3.mono Hbw1.out.size)
                        have hb4 := Hb2.out.trans (hb3.mono Hb2.out.size)
                        have Hb3 := Lib.hid hb3; have Hbw2 := Lib.hid hbw2; have Hb4 := Lib.hid hb4; clear hb3 hbw2 hb4
                        cases r with
                        | true =>
                          go_wp2_with fail
                          go_ret
                          exact ⟨⟨true, rfl, fun h => by cases h⟩, Hbw2.out⟩
                        | false =>
                          go_wp2_with fail
                          go_roundw
                          case rel => exact ⟨k + 1, by omega, by go_num, Hb4.out⟩
                          case measure => simp [intOf]; omega
                    · obtain rfl : n6 = k := by omega
                      have Hb := Lib.hid hb; have Hbw := Lib.hid hbw; clear hb hbw
                      go_wp2_with fail
                      go_ret
                      exact ⟨⟨false, rfl, fun _ => ⟨by have := Hn3.out; omega, Hvv.out⟩⟩, Hbw.out⟩
end Go.Proofs.Ytnelgellbabkoaa

/- The walk of cooperref07.Great: it answers; false only at few packages. No condition. -/
namespace Go.Proofs.Ytnelgellbabkoaa
open Go.RowKit Go.Shelf
attribute [local go_sem ↓] Go.wp_at_zero Go.wp_at_succ

theorem prfs_open {w : World} {v : Value} {l : List Prf} (h : RSlice 3 RPrf w [v] l) : ∃ a cap, v = .slice a l.length cap ∧ l.length ≤ 9223372036854775807 ∧ ∀ i x, l[i]? = some x → ∃ b off u, a = some ⟨b, off, none⟩ ∧ w.cell? ⟨b, off + i * 3, none⟩ = some (.string x.1) ∧ w.cell? ⟨b, off + i * 3 + 1, none⟩ = some u ∧ RSs w [u] x.2.1 ∧ x.1.size ≤ 9223372036854775807 := by
  obtain ⟨a, cap, hv, hcap, hmax, hel⟩ := h
  simp only [List.cons.injEq, and_true] at hv
  unfold maxLen at hmax
  refine ⟨a, cap, hv, by omega, fun i x hi => ?_⟩
  obtain ⟨b, off, ecs, h1, h2, h3, h4⟩ := hel i x hi
  obtain ⟨a0, t0, rfl, _, ⟨rfl, h5⟩, a1, t1, rfl, l1, h6, a2, t2, rfl, _, _, h7⟩ := h4
  match a1, l1 with
  | [u], _ =>
    unfold maxLen at h5
    exact ⟨b, off, u, h1, by simpa using h3 0 _ rfl, by simpa using h3 1 _ rfl, h6, by omega⟩
set_option maxRecDepth 10000 in
set_option maxHeartbeats 2000000 in
theorem greatRcp_any {w : World} {v u : Value} {l : List Pkg} {pf : List Prf} (h : RSlice 8 RPkg w [v] l) (hpf : RSlice 3 RPrf w [u] pf) : Calls Try.prog 33 #[.agg #[v, u]] w fun e w' => (∃ r, e = .returned (.bool r) ∧ (r = false → l.length ≤ 30 ∧ ∀ x ∈ l, PkgSmall x)) ∧ Below w.heap.size w w' := by
  have hE := fun (W : World) (hb : Below w.heap.size w W) => stays_slice stays_pkg _ _ _ _ h hb
  obtain ⟨a, cap, rfl, hz, g⟩ := pkgs_open h
  obtain ⟨a2, cap2, rfl, hz2, g2⟩ := prfs_open hpf
  obtain ⟨n, hn⟩ : ∃ n, n = l.length := ⟨_, rfl⟩
  obtain ⟨m, hm⟩ : ∃ m, m = pf.length := ⟨_, rfl⟩
  rw [← hn] at hz h hE
  rw [← hm] at hz2 hpf
  rw [← hn, ← hm]
  obtain ⟨W0, hW0⟩ : ∃ W0, W0 = w.alloc (.cells #[.slice a n cap, .slice a2 m cap2] 52) := ⟨_, rfl⟩
  obtain ⟨nb, hnb⟩ : ∃ nb, nb = w.heap.size := ⟨_, rfl⟩
  have hb0 : Below w.heap.size w W0 := by rw [hW0]; exact below_alloc1 _ _
  have hbx : W0.heap[nb]? = some (.cells #[.slice a n cap, .slice a2 m cap2] 52 (0, 0)) := by rw [hW0, hnb]; exact heap_alloc_new _ _
  have c0 := cells_at hbx 0
  have c1 := cells_at hbx 1
  simp only [List.getElem?_toArray, List.getElem?_cons_zero, List.getElem?_cons_succ] at c0 c1
  have Hh := Lib.hid h; have Hpf := Lib.hid hpf; have Hg := Lib.hid g; have Hg2 := Lib.hid g2; have Hn := Lib.hid hn; have Hm := Lib.hid hm; have Hb0 := Lib.hid hb0; have Hbx := Lib.hid hbx; have HE := Lib.hid hE; clear h hpf g g2 hn hm hb0 hbx hE
  go_enter Try.func33, Try.ntmps33
  go_upto_region 1 with (fail)
  rw [← hW0, ← hnb]
  have HW0 := Lib.hid hW0; have Hnb := Lib.hid hnb; clear hW0 hnb
  by_cases e1 : 30 < n
  · have k1 : decide ((30 : Int) < (n : Int)) = true := by simp; omega
    go_wp2_with fail
    go_ret
    exact ⟨⟨true, rfl, fun h => by cases h⟩, Hb0.out⟩
  · have k1 : decide ((30 : Int) < (n : Int)) = false := by simp; omega
    by_cases e2 : 20 < m
    · have k2 : decide ((20 : Int) < (m : Int)) = true := by simp; omega
      go_wp2_with fail
      go_ret
      exact ⟨⟨true, rfl, fun h => by cases h⟩, Hb0.out⟩
    · have k2 : decide ((20 : Int) < (m : Int)) = false := by simp; omega
      have hn30 : n ≤ 30 := by omega
      go_wp2_with fail
      clear k1 k2 e1 e2
      go_loopw [18] (fun i wr => ∃ k : Nat, k ≤ n ∧ i = .int .i64 k ∧ (∀ j (h : j < l.length), j < k → PkgSmall l[j]) ∧ Below W0.heap.size W0 wr) (fun i _ => n - (intOf i).toNat)
      case atStart => exact ⟨0, Nat.zero_le _, rfl, fun _ _ h => by omega, Below.refl _ _⟩
      case round =>
        obtain ⟨k, hk, rfl, hvl, hb⟩ := hrel
        have hbw := Hb0.out.trans (hb.mono Hb0.out.size)
        have f0 := cell_later hb c0
        have f1 := cell_later hb c1
        by_cases hlt : k < n
        · have hkl : k < l.length := by have := Hn.out; omega
          have hrd := HE.out wr hbw
          obtain ⟨ra, rc, hrs, _, hrg⟩ := pkgs_open hrd
          simp only [Value.slice.injEq] at hrs
          obtain ⟨rfl, hrs2, rfl⟩ := hrs
          obtain ⟨b, off, u2, u3, u4, u5, u6, u7, rfl, hp⟩ := hrg k _ (List.getElem?_eq_getElem hkl)
          obtain ⟨b2, m2, p2, rfl⟩ := slice_any_shape hp.r2
          obtain ⟨b3, m3, p3, rfl⟩ := slice_any_shape hp.r3
          obtain ⟨b4, m4, p4, rfl⟩ := slice_any_shape hp.r4
          obtain ⟨b5, m5, p5, rfl⟩ := slice_any_shape hp.r5
          obtain ⟨b6, m6, p6, rfl⟩ := slice_any_shape hp.r6
          obtain ⟨b7, m7, p7, rfl⟩ := slice_any_shape hp.r7
          have hG := greatPkg_any hp.rp
          have hvn := fun (h : PkgSmall l[k]) (j : Nat) (hj : j < l.length) (hjk : j < k + 1) => (by by_cases e : j = k; (· subst e; exact h); (· exact hvl j hj (by omega)) : PkgSmall l[j])
          obtain ⟨y, hy⟩ : ∃ y, y = l[k] := ⟨_, rfl⟩
          rw [← hy] at hp hG hvn
          have Hvl := Lib.hid hvl; have Hvn := Lib.hid hvn; clear hvl hvn
          have e0 := hp.c0
          have e1 := hp.c1
          have e2 := hp.c2
          have e3 := hp.c3
          have e4 := hp.c4
          have e5 := hp.c5
          have e6 := hp.c6
          have e7 := hp.c7
          obtain ⟨s0, hs0⟩ : ∃ s, s = y.1 := ⟨_, rfl⟩
          obtain ⟨s1, hs1⟩ : ∃ s, s = y.2.1 := ⟨_, rfl⟩
          rw [← hs0] at e0 hG
          rw [← hs1] at e1 hG
          have j5 : (0 : Int) ≤ (k : Int) := by omega
          have j6 : (k : Int) < (n : Int) := by omega
          clear hrd hrg hrs2
          have Hb := Lib.hid hb; have Hbw := Lib.hid hbw; have Hp := Lib.hid hp; have HG := Lib.hid hG; have Hs0 := Lib.hid hs0; have Hs1 := Lib.hid hs1; have Hy := Lib.hid hy; clear hb hbw hp hG hs0 hs1 hy
          go_wp2_with fail
          refine HG.out.mono ?_
          rintro e w1 ⟨⟨r, rfl, hrb⟩, hb1⟩
          have hb2 := Hb.out.trans (hb1.mono Hb.out.size)
          have hbw2 := Hbw.out.trans (hb1.mono Hbw.out.size)
          have Hb1 := Lib.hid hb1; have Hb2 := Lib.hid hb2; have Hbw2 := Lib.hid hbw2; clear hb1 hb2 hbw2
          cases r with
          | true =>
            clear hrb
            go_wp2_with fail
            go_ret
            exact ⟨⟨true, rfl, fun h => by cases h⟩, Hbw2.out⟩
          | false =>
            have hvm := Hvn.out (hrb rfl)
            clear hrb
            have Hvm := Lib.hid hvm; clear hvm
            go_wp2_with fail
            go_roundw
            case rel => exact ⟨k + 1, by omega, by go_num, Hvm.out, Hb2.out⟩
            case measure => simp [intOf]; omega
        · obtain rfl : n = k := by omega
          have hvv : ∀ x ∈ l, PkgSmall x := fun x hx => by
            obtain ⟨j, hj, rfl⟩ := List.mem_iff_getElem.1 hx
            exact hvl j hj (by have := Hn.out; omega)
          have Hb := Lib.hid hb; have Hbw := Lib.hid hbw; have Hvl := Lib.hid hvl; have Hvv := Lib.hid hvv; clear hb hbw hvl hvv
          go_wp2_with fail
          go_loopw [31] (fun i wr => ∃ k : Nat, k ≤ m ∧ i = .int .i64 k ∧ Below W0.heap.size W0 wr) (fun i _ => m - (intOf i).toNat)
          case atStart => exact ⟨0, Nat.zero_le _, rfl, Hb.out⟩
          case round =>
            obtain ⟨k, hk, rfl, hb⟩ := hrel
            have hbw := Hb0.out.trans (hb.mono Hb0.out.size)
            have f0 := cell_later hb c0
            have f1 := cell_later hb c1
            by_cases hlt : k < m
            · have hkl : k < pf.length := by have := Hm.out; omega
              obtain ⟨b, off, u, rfl, d0, d1, hu, hs1⟩ := Hg2.out k _ (List.getElem?_eq_getElem hkl)
              obtain ⟨s, hs⟩ : ∃ s, s = pf[k].1 := ⟨_, rfl⟩
              rw [← hs] at d0 hs1
              obtain ⟨ua, un, uc, rfl⟩ := slice_any_shape hu
              have hT := greatTexts_any (stays_slice stays_str _ _ _ _ hu hbw)
              have e0 := cell_later hbw d0
              have e1 := cell_later hbw d1
              have k5 : (0 : Int) ≤ (k : Int) := by omega
              have k6 : (k : Int) < (m : Int) := by omega
              have HT := Lib.hid hT; have Hu := Lib.hid hu; have Hb := Lib.hid hb; have Hbw := Lib.hid hbw; clear hT hu hb hbw
              clear hs d0 d1
              by_cases h100 : 100 < s.size
              · have k7 : decide ((100 : Int) < (s.size : Int)) = true := by simp; omega
                go_wp2_with fail
                go_ret
                exact ⟨⟨true, rfl, fun h => by cases h⟩, Hbw.out⟩
              · have k7 : decide ((100 : Int) < (s.size : Int)) = false := by simp; omega
                go_wp2_with fail
                refine HT.out.mono ?_
                rintro e w1 ⟨⟨r, rfl⟩, rfl⟩
                cases r with
                | true =>
                  go_wp2_with fail
                  go_ret
                  exact ⟨⟨true, rfl, fun h => by cases h⟩, Hbw.out⟩
                | false =>
                  go_wp2_with fail
                  go_roundw
                  case rel => exact ⟨k + 1, by omega, by go_num, Hb.out⟩
                  case measure => simp [intOf]; omega
            · obtain rfl : m = k := by omega
              have Hb := Lib.hid hb; have Hbw := Lib.hid hbw; clear hb hbw
              go_wp2_with fail
              go_ret
              exact ⟨⟨false, rfl, fun _ => ⟨by have := Hn.out; omega, Hvv.out⟩⟩, Hbw.out⟩
end Go.Proofs.Ytnelgellbabkoaa
