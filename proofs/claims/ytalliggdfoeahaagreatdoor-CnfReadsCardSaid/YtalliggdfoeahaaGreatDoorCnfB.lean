/- The walks of a builder of clauses: New, Add, Most, One, Clauses, at few literals; the chapter's example. Condition: few clauses. -/
import Derived.Test.YtalliggdfoeahaaGreatDoorCnfS
import Derived.Test.YtalliggdfoeahaaGreatDoorMem
import Derived.Deep.Cut
set_option linter.unusedVariables false
set_option linter.unusedSimpArgs false
namespace Go.Proofs.YtalliggdfoeahaaGreatDoor
open Go.RowKit Go.Lib Go.Sort

theorem elem_ints : Elem Tryz.prog 23 34 (.slice none 0 0) 1 24 := ⟨Tryz.underlying23, by kernel_rfl, rfl, by decide⟩
theorem elem_int : Elem Tryz.prog 34 3 (.int .i64 0) 1 8 := ⟨Tryz.underlying34, by kernel_rfl, rfl, by decide⟩
/-- rows of literals that a call owns, in a row -/
structure Rws (B : Nat) (w : World) (v : Value) (vs : List Value) (l : List (List Int)) : Prop where
  len : vs.length = l.length
  row : w.ownsRow B 34 1 v l.length vs
  rows : ∀ (i : Nat) u f, vs[i]? = some u → l[i]? = some f → w.ownsRow B 3 1 u f.length (f.map intv)
theorem Rws.nil (B : Nat) (w : World) : Rws B w (.slice none 0 0) [] [] := ⟨rfl, World.ownsRow_nil _ _ _ _, fun i u f h => by simp at h⟩
theorem Rws.below {B : Nat} {w w' : World} {v : Value} {vs : List Value} {l : List (List Int)} (h : Rws B w v vs l) (hb : Below w.heap.size w w') : Rws B w' v vs l :=
  ⟨h.len, ownsRow_below h.row hb, fun i u f h1 h2 => ownsRow_below (h.rows i u f h1 h2) hb⟩
theorem Rws.frm {B : Nat} {w w' : World} {v : Value} {vs : List Value} {l : List (List Int)} {S : Nat → Prop} (h : Rws B w v vs l) (hf : Frm S w w') (h1 : ∀ k, v.ownBlock = some k → ¬ S k) (h2 : ∀ u ∈ vs, ∀ k, u.ownBlock = some k → ¬ S k) : Rws B w' v vs l :=
  ⟨h.len, hf.owns h.row h1, fun i u f hu hl => hf.owns (h.rows i u f hu hl) (h2 u (List.mem_of_getElem? hu))⟩
/-- a row more -/
theorem Rws.push {B : Nat} {w w' : World} {v v' u : Value} {vs : List Value} {l : List (List Int)} {f : List Int} (h : Rws B w v vs l) (hu : w.ownsRow B 3 1 u f.length (f.map intv))
    (hown : w'.ownsRow B 34 1 v' (l.length + 1) (vs ++ [u])) (hg : w.grownBy w' v.ownBlock) : Rws B w' v' (vs ++ [u]) (l ++ [f]) := by
  have hf := frm_of_grown hg
  refine ⟨by simp [h.len], by simpa using hown, fun i x g hx hl => ?_⟩
  by_cases hi : i < vs.length
  · rw [List.getElem?_append_left hi] at hx
    rw [List.getElem?_append_left (by rw [← h.len]; exact hi)] at hl
    have ho := h.rows i x g hx hl
    exact hf.owns ho (fun k hk => apart_type h.row ho (by decide) k |> fun hh e => hh e hk)
  · have hlt := (List.getElem?_eq_some_iff.1 hx).1
    have hiv : i = vs.length := by simp at hlt; omega
    rw [List.getElem?_append_right (by omega), hiv, Nat.sub_self] at hx
    rw [List.getElem?_append_right (by rw [← h.len]; omega), hiv, h.len, Nat.sub_self] at hl
    simp at hx hl
    subst hx; subst hl
    exact hf.owns hu (fun k hk => apart_type h.row hu (by decide) k |> fun hh e => hh e hk)
theorem Rws.reads {B : Nat} {w : World} {v : Value} {vs : List Value} {l : List (List Int)} (h : Rws B w v vs l) (hw : ∀ f ∈ l, ∀ x ∈ f, -9223372036854775808 ≤ x ∧ x ≤ 9223372036854775807) : RIss w [v] l := by
  obtain ⟨a, cap, rfl, h1, h2, h3⟩ := Sl.of_owns h.row
  refine ⟨a, cap, rfl, h1, h2, fun i f hi => ?_⟩
  have hil := (List.getElem?_eq_some_iff.1 hi).1
  have hiv : i < vs.length := by rw [h.len]; exact hil
  obtain ⟨b, off, ha, hc⟩ := h3 i vs[i] (List.getElem?_eq_getElem hiv)
  refine ⟨b, off, [vs[i]], ha, rfl, fun j u hu => ?_, ?_⟩
  · have hj : j = 0 := by have := (List.getElem?_eq_some_iff.1 hu).1; simp at this; omega
    subst hj
    simp at hu
    subst hu
    simpa using hc
  · exact ints_reads (hw f (List.mem_of_getElem? hi)) (h.rows i _ f (List.getElem?_eq_getElem hiv) hi)
/-- block x is a builder that holds the clauses -/
structure CBld (w0 w : World) (x : Nat) (v : Value) (vs : List Value) (l : List (List Int)) : Prop where
  cells : w.heap[x]? = some (.cells #[v, .bool false, .bool false] 58 (0, 0))
  rws : Rws w0.heap.size w v vs l
  bel : Below w0.heap.size w0 w
  xB : w0.heap.size ≤ x
abbrev bldp (x : Nat) : Value := .pointer (some ⟨x, 0, none⟩)
def BldPost (w0 w : World) (x : Nat) (l : List (List Int)) (e : Ending) (w' : World) : Prop := e = .returned (.tuple #[]) ∧ (∃ v vs, CBld w0 w' x v vs l) ∧ KeepT 3 w w'
theorem CBld.below {w0 w w' : World} {x : Nat} {v : Value} {vs : List Value} {l : List (List Int)} (h : CBld w0 w x v vs l) (hb : Below w.heap.size w w') : CBld w0 w' x v vs l :=
  ⟨heap_below hb h.cells, h.rws.below hb, h.bel.trans (hb.mono h.bel.size), h.xB⟩
theorem geq_big (n : Nat) (h : n ≤ 1000) (W : World) : (binOp .geq 3 (.int .i64 (n : Int)) (.int .i64 262144)).run Tryz.prog W = .ok (.bool false) W := by
  have k1 : ¬ (262144 ≤ (n : Int)) := by omega
  simp [binOp, go_sem, k1]
set_option maxRecDepth 10000 in
set_option maxHeartbeats 1000000 in
theorem add_any {w0 w : World} {x : Nat} {v : Value} {vs : List Value} {l : List (List Int)} (h : CBld w0 w x v vs l) (hl : l.length ≤ 1000) {u : Value} {c : List Int} (hu : RIs w [u] c) (hc : c.length ≤ 1000) {f : List Int} (hf : CnfM.form c = (f, true)) :
    Calls Tryz.prog 24 #[bldp x, u] w (BldPost w0 w x (l ++ [f])) := by
  have hF := form_any hu (by omega)
  have hno : c.any CnfM.wrong = false := (CnfM.form_ok c (by rw [hf])).2.1
  have hW := fun (W : World) (hb : Below w.heap.size w W) => IdxInt.has_any (stays_int .i64) CnfM.wrong 19 #[] enters_wrong (stays_slice (stays_int .i64) _ _ _ _ hu hb) (wrong_pred c W)
  rw [hno] at hW
  have Hh := Lib.hid h; have Hu := Lib.hid hu; have HF := Lib.hid hF; have HW := Lib.hid hW; have Hno := Lib.hid hno; have Hf := Lib.hid hf; clear h hu hF hW hno hf
  go_enter Tryz.func24, Tryz.ntmps24
  go_wp2_with fail
  refine HF.out.mono ?_
  rintro e w1 ⟨r, rfl, hr1, hb1⟩
  rw [Hf.out] at hr1 ⊢
  dsimp only at hr1 ⊢
  have hW1 := HW.out w1 hb1
  obtain ⟨ra, rc, rfl⟩ := own_shape hr1
  obtain ⟨m, hm⟩ : ∃ m, m = f.length := ⟨_, rfl⟩
  rw [← hm]
  have Hr1 := Lib.hid hr1; have Hb1 := Lib.hid hb1; have HW1 := Lib.hid hW1; have Hm := Lib.hid hm; clear hr1 hb1 hW1 hm
  go_wp2_with fail
  refine HW1.out.mono ?_
  rintro e w2 ⟨rfl, hb2⟩
  have hB2 := (Hh.out.below Hb1.out).below hb2
  have hr2 := ownsRow_mono (ownsRow_below Hr1.out hb2) (Hh.out.bel.size)
  have hbw : Below w.heap.size w w2 := Hb1.out.trans (hb2.mono Hb1.out.size)
  have c0 := cells_at hB2.cells 0
  simp only [List.getElem?_toArray, List.getElem?_cons_zero] at c0
  have f0 := frozen_at hB2.cells 0
  obtain ⟨va, vc, rfl⟩ := own_shape hB2.rws.row
  obtain ⟨n, hnl⟩ : ∃ n, n = l.length := ⟨_, rfl⟩
  rw [← hnl] at hl c0
  have k1 : (n : Int) < 262144 := by omega
  have k2 : decide (262144 ≤ (n : Int)) = false := by simpa using k1
  have hown2 := hB2.rws.row
  have hB : w0.heap.size ≤ w2.heap.size := hB2.bel.size
  have hxw := apart_block hown2 hB2.cells (by decide)
  have Hr2 := Lib.hid hr2; have Hb2 := Lib.hid hb2; have HB2 := Lib.hid hB2; have Hbw := Lib.hid hbw; have Hown2 := Lib.hid hown2; have Hxw := Lib.hid hxw; have Hnl := Lib.hid hnl; clear hr2 hb2 hB2 hbw hown2 hxw hnl
  have hown3 : w2.ownsRow w0.heap.size 34 1 (.slice va n vc) n vs := by rw [Hnl.out]; exact Hown2.out
  rw [← Hnl.out] at Hxw
  have cc0 : ∀ o : Obj, (w2.alloc o).cell? ⟨x, 0, none⟩ = some (.slice va n vc) := fun o => ((Frm.refl _ w2).alloc o).keep c0
  have Hown3 := Lib.hid hown3; clear hown3
  go_wp2_with (at_builtin; (refine wpList_append_some elem_ints rfl (.tmp 38) (.tmp 40) rfl w0.heap.size (.slice va n vc) n vs rfl Hown3.out 1 (by decide) #[.slice ra m rc] rfl rfl (by simp [Value.oneCell']) (by omega) (by unfold maxLen; omega) hB ?_; intro g8 c8 w8 hown8 hg8 hm8; have hc8 := heap_to HB2.out.cells (frm_of_grown hg8) Hxw.out; have d0 := cells_at hc8 0; have e0 := frozen_at hc8 0; simp only [List.getElem?_toArray, List.getElem?_cons_zero] at d0))
  have hcells := hc8
  have hpush := HB2.out.rws.push (f := f) Hr2.out (by have := hown8; rw [Hnl.out, Hm.out] at this; exact this) (by have := hg8; rw [Hnl.out] at this; exact this)
  rw [← Hnl.out] at hpush
  have hbel8 := bel_own HB2.out.bel Hown3.out (Nat.le_refl _) hg8 hB
  have hg8b : g8 ≠ x := fun e => apart_block hown8 hc8 (by decide) (by rw [← e]; rfl)
  have Hown8 := Lib.hid hown8; have Hg8 := Lib.hid hg8; have Hcells := Lib.hid hcells; have Hpush := Lib.hid hpush; have Hbel8 := Lib.hid hbel8; have Hg8b := Lib.hid hg8b; clear hown8 hg8 hcells hpush hbel8 hg8b
  clear hm8 hc8
  go_wp2_with fail
  go_end0
  have k0 := heap_setCell_same _ x 0 _ _ (.slice (some ⟨g8, 0, none⟩) (n + 1) c8) Hcells.out
  have f8 : Frm (fun k => k = x) w8 (w8.setCell ⟨x, 0, none⟩ (.slice (some ⟨g8, 0, none⟩) (n + 1) c8)) := frm_cell (Frm.refl _ w8) 0 _
  refine ⟨rfl, ⟨_, _, ⟨k0, Hpush.out.frm f8 ?_ ?_, Hbel8.out.trans (f8.below Hbel8.out.size (fun k hk => by rw [hk]; exact HB2.out.xB)), HB2.out.xB⟩⟩, ((keepT_below Hbw.out).trans (keepT_grown Hg8.out Hown3.out (by decide))).trans (keepT_set Hcells.out (by decide) 0 _)⟩
  · intro k hk e
    simp [Value.ownBlock] at hk
    exact Hg8b.out (by omega)
  · intro u hu k hk e
    obtain ⟨i, hi⟩ := List.mem_iff_getElem?.1 hu
    have hil := (List.getElem?_eq_some_iff.1 hi).1
    have hlt : i < (l ++ [f]).length := by rw [← Hpush.out.len]; exact hil
    exact apart_block (Hpush.out.rows i u _ hi (List.getElem?_eq_getElem hlt)) Hcells.out (by decide) (by rw [hk, e])
theorem form_12 : CnfM.form [1, 2] = ([1, 2], true) := CnfM.form_of_up _ _ (by simp [CnfM.Up, CnfM.lt_iff, CnfM.ab, CnfM.neg, wrap64]; omega) (fun _ => Iff.rfl) (by decide) (by simp [CnfM.bad, CnfM.neg, wrap64])
theorem form_m12 : CnfM.form [-1, -2] = ([-1, -2], true) := CnfM.form_of_up _ _ (by simp [CnfM.Up, CnfM.lt_iff, CnfM.ab, CnfM.neg, wrap64]; omega) (fun _ => Iff.rfl) (by decide) (by simp [CnfM.bad, CnfM.neg, wrap64])
/-- a literal slice of two -/
theorem reads_two {w : World} {g : Nat} {a b : Int} {cap : Nat} (hc : 2 ≤ cap) (hm : cap ≤ maxLen) (h : w.heap[g]? = some (.cells #[.int .i64 a, .int .i64 b] 3 (0, 0))) (ha : -9223372036854775808 ≤ a ∧ a ≤ 9223372036854775807) (hb : -9223372036854775808 ≤ b ∧ b ≤ 9223372036854775807) : RIs w [.slice (some ⟨g, 0, none⟩) 2 cap] [a, b] := by
  refine ⟨_, _, rfl, hc, hm, fun i x hi => ?_⟩
  match i, hi with
  | 0, hi =>
    simp at hi; subst hi
    refine ⟨g, 0, [intv a], rfl, rfl, fun j u hu => ?_, rfl, rint_wf' ha⟩
    match j, hu with
    | 0, hu => simp at hu; subst hu; simpa using cells_at h 0
  | 1, hi =>
    simp at hi; subst hi
    refine ⟨g, 0, [intv b], rfl, rfl, fun j u hu => ?_, rfl, rint_wf' hb⟩
    match j, hu with
    | 0, hu => simp at hu; subst hu; simpa using cells_at h 1
def BldSt (w0 : World) (x : Nat) (l : List (List Int)) (w : World) : Prop := ∃ v vs, CBld w0 w x v vs l
theorem BldSt.size {w0 w : World} {x : Nat} {l : List (List Int)} (h : BldSt w0 x l w) : w0.heap.size ≤ w.heap.size := by obtain ⟨v, vs, h⟩ := h; exact h.bel.size
theorem BldSt.below {w0 w w' : World} {x : Nat} {l : List (List Int)} (h : BldSt w0 x l w) (hb : Below w.heap.size w w') : BldSt w0 x l w' := by obtain ⟨v, vs, h⟩ := h; exact ⟨v, vs, h.below hb⟩
theorem add_st {w0 w : World} {x : Nat} {l : List (List Int)} (h : BldSt w0 x l w) (hl : l.length ≤ 1000) {u : Value} {c : List Int} (hu : RIs w [u] c) (hc : c.length ≤ 1000) {f : List Int} (hf : CnfM.form c = (f, true)) :
    Calls Tryz.prog 24 #[bldp x, u] w fun e w' => e = .returned (.tuple #[]) ∧ BldSt w0 x (l ++ [f]) w' ∧ KeepT 3 w w' := by
  obtain ⟨v, vs, h⟩ := h
  exact add_any h hl hu hc hf
set_option maxRecDepth 10000 in
set_option maxHeartbeats 1000000 in
theorem most_ex {w0 w : World} {x g : Nat} (h : BldSt w0 x [[1, 2]] w) (hg : w.heap[g]? = some (.cells #[.int .i64 1, .int .i64 2] 3 (0, 0))) (hgx : g ≠ x) :
    Calls Tryz.prog 25 #[bldp x, .slice (some ⟨g, 0, none⟩) 2 2] w fun e w' => e = .returned (.tuple #[]) ∧ BldSt w0 x [[1, 2], [-1, -2]] w' ∧ KeepT 3 w w' := by
  have c0 := cells_at hg 0
  have c1 := cells_at hg 1
  simp only [List.getElem?_toArray, List.getElem?_cons_succ, List.getElem?_cons_zero] at c0 c1
  have hA := fun (W : World) (hW : BldSt w0 x [[1, 2]] W) => add_st (hW.below (below_alloc1 W (.cells #[.int .i64 (-1), .int .i64 (-2)] 3))) (by decide) (u := .slice (some ⟨W.heap.size, 0, none⟩) 2 2) (c := [-1, -2]) (reads_two (Nat.le_refl _) (by decide) (heap_alloc_new _ _) (by omega) (by omega)) (by decide) form_m12
  have hA1 := hA w h
  have Hh := Lib.hid h; have Hg := Lib.hid hg; have Hgx := Lib.hid hgx; have HA := Lib.hid hA; have HA1 := Lib.hid hA1; clear h hg hgx hA hA1
  go_enter Tryz.func25, Tryz.ntmps25
  go_wp2_with fail
  refine wp_loop_rounds 3 ?_
  rw [rounds_succ]
  go_wp2_with fail
  refine wp_loop_rounds 2 ?_
  rw [rounds_succ]
  go_wp2_with fail
  refine HA1.out.mono ?_
  rintro e w1 ⟨rfl, h1, hk1⟩
  have d0 := cells_at (hk1 _ _ _ (heap_below (below_alloc1 w _) Hg.out)) 0
  have d1 := cells_at (hk1 _ _ _ (heap_below (below_alloc1 w _) Hg.out)) 1
  simp only [List.getElem?_toArray, List.getElem?_cons_succ, List.getElem?_cons_zero] at d0 d1
  have H1 := Lib.hid h1; have Hk1 := Lib.hid hk1; clear h1 hk1
  clear c0 c1
  go_wp2_with fail
  rw [rounds_succ]
  go_wp2_with fail
  rw [rounds_succ]
  go_wp2_with fail
  refine wp_loop_rounds 1 ?_
  rw [rounds_succ]
  go_wp2_with fail
  rw [rounds_succ]
  go_wp2_with fail
  go_end0
  exact ⟨rfl, H1.out, (keepT_below (below_alloc1 w _)).trans Hk1.out⟩
set_option maxRecDepth 10000 in
set_option maxHeartbeats 1000000 in
theorem one_ex {w0 w : World} {x g : Nat} (h : BldSt w0 x [] w) (hg : w.heap[g]? = some (.cells #[.int .i64 1, .int .i64 2] 3 (0, 0))) (hgx : g ≠ x) (hgw : w0.heap.size ≤ g) :
    Calls Tryz.prog 9 #[bldp x, .slice (some ⟨g, 0, none⟩) 2 2] w fun e w' => e = .returned (.tuple #[]) ∧ BldSt w0 x [[1, 2], [-1, -2]] w' ∧ KeepT 3 w w' := by
  have hA := add_st h (by decide) (u := .slice (some ⟨g, 0, none⟩) 2 2) (c := [1, 2]) (reads_two (Nat.le_refl _) (by decide) hg (by omega) (by omega)) (by decide) form_12
  have hM := fun (W : World) (hW : BldSt w0 x [[1, 2]] W) (hk : KeepT 3 w W) => most_ex hW (hk _ _ _ hg) hgx
  have HA := Lib.hid hA; have HM := Lib.hid hM; have Hh := Lib.hid h; have Hg := Lib.hid hg; clear hA hM h hg
  go_enter Tryz.func9, Tryz.ntmps9
  go_wp2_with fail
  refine HA.out.mono ?_
  rintro e w1 ⟨rfl, h1, hk1⟩
  have hM1 := HM.out w1 h1 hk1
  have H1 := Lib.hid h1; have Hk1 := Lib.hid hk1; have HM1 := Lib.hid hM1; clear h1 hk1 hM1
  go_wp2_with fail
  refine HM1.out.mono ?_
  rintro e w2 ⟨rfl, h2, hk2⟩
  have H2 := Lib.hid h2; have Hk2 := Lib.hid hk2; clear h2 hk2
  go_wp2_with fail
  go_end0
  exact ⟨rfl, H2.out, Hk1.out.trans Hk2.out⟩
end Go.Proofs.YtalliggdfoeahaaGreatDoor
