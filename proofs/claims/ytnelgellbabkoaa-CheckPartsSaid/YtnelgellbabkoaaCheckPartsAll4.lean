/- Walks and plain facts. Texts merged: ChkC, ChkD, ChkE, ChkH, ChkI, ChkJ, ChkK, ChkL. Condition: none beyond what each says. -/
import Derived.Laws.StructEq
import Derived.Deep.RegionHeld3
import Derived.Laws.Rows
import Derived.Lib.Builder
import Derived.Test.YtnelgellbabkoaaCheckPartsAll1
import Derived.Test.YtnelgellbabkoaaCheckPartsAll2
import Derived.Test.YtnelgellbabkoaaCheckPartsAll3
/- The walks of check.wish and cooperref09.wish: a wish's problem. Condition: few packages. -/
namespace Go.Proofs.Ytnelgellbabkoaa
open Go.RowKit Go.Shelf
attribute [local go_sem ↓] Go.wp_at_zero Go.wp_at_succ

abbrev noText : ByteArray := ⟨#[]⟩
def starOf (sp : List Spn) : Bool := match sp with
  | [x] => decide (x.1 = noText) && decide (x.2.1 = noText)
  | _ => false
def varsAt (l : List Pkg) (i : Nat) : List Var := match l[i]? with
  | some x => x.2.2.2.1
  | none => []
/-- a wish's problem -/
def wishOf (l : List Pkg) (nm : ByteArray) (sp : List Spn) (st : List Setg) : Int :=
  if idxOf (named nm) l < 0 then (if virtOf nm l then (if starOf sp && decide (st.length = 0) then 0 else 9) else 7)
  else if ofOf (varsAt l (idxOf (named nm) l).toNat) st then 0 else 8
theorem idxOf_lt {α : Type} {p : α → Bool} {l : List α} (h : 0 ≤ idxOf p l) : (idxOf p l).toNat < l.length := by
  unfold idxOf at *
  cases e : l.findIdx? p with
  | none => rw [e] at h; simp at h
  | some i =>
    rw [List.findIdx?_eq_some_iff_getElem] at e
    obtain ⟨hi, _⟩ := e
    simpa using hi
theorem spn_eqs (s t a b : ByteArray) (W : World) : (binOp .eql 137 (.agg #[.string s, .string t]) (.agg #[.string a, .string b])).run Try.prog W = .ok (.bool (decide (s = a) && decide (t = b))) W := by
  have u9 := Try.underlying9
  have hS : Try.prog.underlying 137 = some (.struct (Try.prog.fieldsOf 137)) := by kernel_rfl
  have hp : Try.prog.stoodInHeld 137 = false := by kernel_rfl
  rw [run_eql_struct, show (10000 : Nat) = 9999 + 1 from rfl, run_equalIn_agg W 9999 137 _ _ hS hp]
  simp only [Program.fieldsOf, Try.underlying137]
  go_simp
  have e : ∀ x y : ByteArray, (x.toList == y.toList) = decide (x = y) := fun x y => by
    rw [ByteArray.toList_eq, ByteArray.toList_eq]
    by_cases h : x = y
    · subst h; simp
    · have : x.data.toList ≠ y.data.toList := fun e => h (ByteArray.ext (Array.ext' e))
      simpa [h] using fun e => this (congrArg Array.toList e)
  have e1 := e s a
  have e2 := e t b
  by_cases h1 : s = a <;> by_cases h2 : t = b <;> simp [h1, h2] at e1 e2 ⊢ <;> simp_all
/-- the boxes of a recipe and a wish -/
structure WBox (B : Nat) (v u s0 u1 u2 : Value) (w : World) : Prop where
  c0 : w.cell? ⟨B, 0, none⟩ = some v
  c1 : w.cell? ⟨B, 1, none⟩ = some u
  d0 : w.cell? ⟨B + 1, 0, none⟩ = some s0
  d1 : w.cell? ⟨B + 1, 1, none⟩ = some u1
  d2 : w.cell? ⟨B + 1, 2, none⟩ = some u2
theorem WBox.below {B : Nat} {v u s0 u1 u2 : Value} {w w' : World} (h : WBox B v u s0 u1 u2 w) (hb : Below w.heap.size w w') : WBox B v u s0 u1 u2 w' := ⟨cell_later hb h.c0, cell_later hb h.c1, cell_later hb h.d0, cell_later hb h.d1, cell_later hb h.d2⟩
theorem wbox_new (w : World) (v u s0 u1 u2 : Value) : WBox w.heap.size v u s0 u1 u2 ((w.alloc (.cells #[v, u] 52)).alloc (.cells #[s0, u1, u2] 107)) := by
  have h1 : ((w.alloc (.cells #[v, u] 52)).alloc (.cells #[s0, u1, u2] 107)).heap[w.heap.size]? = some (.cells #[v, u] 52 (0, 0)) := heap_below (below_alloc1 _ _) (heap_alloc_new _ _)
  have h2 : ((w.alloc (.cells #[v, u] 52)).alloc (.cells #[s0, u1, u2] 107)).heap[w.heap.size + 1]? = some (.cells #[s0, u1, u2] 107 (0, 0)) := heap_new_at (by simp)
  have a0 := cells_at h1 0
  have a1 := cells_at h1 1
  have b0 := cells_at h2 0
  have b1 := cells_at h2 1
  have b2 := cells_at h2 2
  simp only [List.getElem?_toArray, List.getElem?_cons_zero, List.getElem?_cons_succ] at a0 a1 b0 b1 b2
  exact ⟨a0, a1, b0, b1, b2⟩
set_option maxRecDepth 10000 in
set_option maxHeartbeats 4000000 in
theorem wish_any {w : World} {v pw u1 u2 : Value} {l : List Pkg} {nm : ByteArray} {sp : List Spn} {st : List Setg} (h : RSlice 8 RPkg w [v] l) (hl : l.length ≤ 1000000) (hsp : RSlice 2 RSpn w [u1] sp) (hst : RSets w [u2] st) : Calls Try.prog 92 #[.agg #[v, pw], .agg #[.string nm, u1, u2]] w fun e w' => e = .returned (.int .u8 (wishOf l nm sp st)) ∧ Below w.heap.size w w' := by
  have hI := fun (W : World) (hb : Below w.heap.size w W) => find_any (pv := pw) (stays_slice stays_pkg _ _ _ _ h hb) nm
  have hV := fun (W : World) (hb : Below w.heap.size w W) => virtual_any (pw := pw) (stays_slice stays_pkg _ _ _ _ h hb) hl nm
  have hS := fun (W : World) (hb : Below w.heap.size w W) => stays_slice stays_set _ _ _ _ hst hb
  obtain ⟨a, cap, rfl, hz, g⟩ := pkgs_open h
  obtain ⟨a1, cap1, rfl, hz1, g1⟩ := spans_open hsp
  obtain ⟨a2, cap2, rfl, hz2, _⟩ := sets_open hst
  obtain ⟨n, hn⟩ : ∃ n, n = l.length := ⟨_, rfl⟩
  obtain ⟨n1, hn1⟩ : ∃ n, n = sp.length := ⟨_, rfl⟩
  obtain ⟨n2, hn2⟩ : ∃ n, n = st.length := ⟨_, rfl⟩
  obtain ⟨i, hi⟩ : ∃ i, i = idxOf (named nm) l := ⟨_, rfl⟩
  obtain ⟨vr, hvr⟩ : ∃ r, r = virtOf nm l := ⟨_, rfl⟩
  obtain ⟨r, hr⟩ : ∃ r, r = wishOf l nm sp st := ⟨_, rfl⟩
  have hrr : r = if i < 0 then (if vr then (if starOf sp && decide (n2 = 0) then 0 else 9) else 7) else if ofOf (varsAt l i.toNat) st then 0 else 8 := by rw [hr, hi, hvr, hn2]; rfl
  have hil : 0 ≤ i → i.toNat < l.length := fun h0 => by rw [hi] at h0 ⊢; exact idxOf_lt h0
  rw [← hr]
  rw [← hi] at hI
  rw [← hvr] at hV
  rw [← hn] at hz h hI hV hil
  rw [← hn1] at hz1 hsp
  rw [← hn2] at hz2 hst hS
  rw [← hn, ← hn1, ← hn2]
  obtain ⟨nb, hnb⟩ : ∃ nb, nb = w.heap.size := ⟨_, rfl⟩
  obtain ⟨W0, hW0⟩ : ∃ W0, W0 = (w.alloc (.cells #[.slice a n cap, pw] 52)).alloc (.cells #[.string nm, .slice a1 n1 cap1, .slice a2 n2 cap2] 107) := ⟨_, rfl⟩
  have hb0 : Below w.heap.size w W0 := by rw [hW0]; exact (below_alloc1 _ _).alloc (below_alloc1 _ _).size _
  have hbx : WBox nb (.slice a n cap) pw (.string nm) (.slice a1 n1 cap1) (.slice a2 n2 cap2) W0 := by rw [hW0, hnb]; exact wbox_new _ _ _ _ _ _
  have c0 := hbx.c0
  have c1 := hbx.c1
  have d0 := hbx.d0
  have q0 := fun s t => spn_eqs s t noText noText
  have hsn : n1 ≠ 1 → starOf sp = false := fun h1 => by
    rw [hn1] at h1
    match sp, h1 with
    | [], _ => rfl
    | [_], h1 => simp at h1
    | _ :: _ :: _, _ => rfl
  have hsy : n1 = 1 → ∃ (x : Spn) (b off : Nat), starOf sp = (decide (x.1 = noText) && decide (x.2.1 = noText)) ∧ a1 = some ⟨b, off, none⟩ ∧ w.cell? ⟨b, off, none⟩ = some (.string x.1) ∧ w.cell? ⟨b, off + 1, none⟩ = some (.string x.2.1) := fun h1 => by
    rw [hn1] at h1
    obtain ⟨x, rfl⟩ := List.length_eq_one_iff.1 h1
    obtain ⟨b, off, h2, h3, h4, _⟩ := g1 0 x rfl
    exact ⟨x, b, off, rfl, h2, by simpa using h3, by simpa using h4⟩
  obtain ⟨sr, hsr⟩ : ∃ r, r = starOf sp := ⟨_, rfl⟩
  rw [← hsr] at hrr hsn hsy
  have hI0 := hI W0 hb0
  have Hh := Lib.hid h; have Hsp := Lib.hid hsp; have Hst := Lib.hid hst; have Hg := Lib.hid g; have Hg1 := Lib.hid g1; have Hn := Lib.hid hn; have Hn1 := Lib.hid hn1; have Hn2 := Lib.hid hn2; have HI := Lib.hid hI; have HV := Lib.hid hV; have HS := Lib.hid hS; have Hi := Lib.hid hi; have Hvr := Lib.hid hvr; have Hr := Lib.hid hr; have Hrr := Lib.hid hrr; have Hil := Lib.hid hil; have Hb0 := Lib.hid hb0; have Hbx := Lib.hid hbx; have Hq0 := Lib.hid q0; have Hsn := Lib.hid hsn; have Hsy := Lib.hid hsy; have Hsr := Lib.hid hsr; have HI0 := Lib.hid hI0; clear h hsp hst g g1 hn hn1 hn2 hI hV hS hi hvr hr hrr hil hb0 hbx q0 hsn hsy hsr hI0
  go_enter Try.func92, Try.ntmps92
  go_upto_region 1 with (fail)
  have enb : nb + 1 = w.heap.size + 1 := by rw [hnb]
  rw [← hW0, ← hnb]
  have HW0 := Lib.hid hW0; have Hnb := Lib.hid hnb; have Henb := Lib.hid enb; clear hW0 hnb enb
  go_wp2_with fail
  refine HI0.out.mono ?_
  rintro e w1 ⟨rfl, hb1⟩
  have hb2 := Hb0.out.trans (hb1.mono Hb0.out.size)
  have hbx1 := Hbx.out.below hb1
  have e0 := hbx1.c0
  have e1 := hbx1.c1
  have f0 := hbx1.d0
  have f1 := hbx1.d1
  have f2 := hbx1.d2
  clear c0 c1 d0
  have Hb1 := Lib.hid hb1; have Hb2 := Lib.hid hb2; have Hbx1 := Lib.hid hbx1; clear hb1 hb2 hbx1
  by_cases hneg : i < 0
  · have k1 : decide (i < 0) = true := decide_eq_true hneg
    have k2 : decide (0 ≤ i) = false := by rw [decide_eq_false_iff_not]; omega
    have hr2 := Hrr.out
    rw [if_pos hneg] at hr2
    have hV1 := HV.out w1 Hb2.out
    have Hr2 := Lib.hid hr2; have HV1 := Lib.hid hV1; have Hneg := Lib.hid hneg; clear hr2 hV1 hneg
    cases vr with
    | false =>
      by_cases h1 : n1 = 1
      case' pos =>
        obtain ⟨x, b, off, hst, rfl, y0, y1⟩ := Hsy.out h1
        have y0 := cell_later Hb2.out y0
        have y1 := cell_later Hb2.out y1
        have q1 := Hq0.out x.1 x.2.1
        rw [← hst] at q1
        obtain ⟨s1, hs1⟩ : ∃ s, s = x.1 := ⟨_, rfl⟩
        obtain ⟨t1, ht1⟩ : ∃ s, s = x.2.1 := ⟨_, rfl⟩
        rw [← hs1] at y0 q1
        rw [← ht1] at y1 q1
        have k3 : ((n1 : Int) == 1) = true := by rw [h1]; rfl
        have k4 : (0 : Int) < (n1 : Int) := by omega
        clear h1
        have Hst := Lib.hid hst; have Hs1 := Lib.hid hs1; have Ht1 := Lib.hid ht1; clear hst hs1 ht1
        go_wp2_with fail
        clear y0 y1 q1 k3 k4 Hst Hs1 Ht1
      case' neg =>
        obtain rfl : sr = false := Hsn.out h1
        have k3 : ((n1 : Int) == 1) = false := by simp; omega
        clear h1
        go_wp2_with fail
        clear k3
      all_goals
        refine HV1.out.mono ?_
        rintro e w2 ⟨rfl, hb3⟩
        have hb4 := Hb2.out.trans (hb3.mono Hb2.out.size)
        have j2 := cell_later hb3 f2
        clear e0 e1 f0 f1 f2
        have Hb3 := Lib.hid hb3; have Hb4 := Lib.hid hb4; clear hb3 hb4
        have hf : r = 7 := by rw [Hr2.out]; rfl
        have Hf := Lib.hid hf; clear hf
        go_wp2_with fail
        go_ret
        exact ⟨by rw [Hf.out]; rfl, Hb4.out⟩
    | true =>
      cases sr with
      | true =>
        by_cases h0 : 0 < n2
        case' pos =>
          have k7 : decide ((0 : Int) < (n2 : Int)) = true := by rw [decide_eq_true_eq]; omega
          have hf : r = 9 := by rw [Hr2.out, decide_eq_false (by omega : ¬ n2 = 0)]; rfl
          have Hf := Lib.hid hf; clear hf
        case' neg =>
          have k7 : decide ((0 : Int) < (n2 : Int)) = false := by rw [decide_eq_false_iff_not]; omega
          have hf : r = 0 := by rw [Hr2.out, decide_eq_true (by omega : n2 = 0)]; rfl
          have Hf := Lib.hid hf; clear hf
        all_goals
          by_cases h1 : n1 = 1
          case' pos =>
            obtain ⟨x, b, off, hst, rfl, y0, y1⟩ := Hsy.out h1
            have y0 := cell_later Hb2.out y0
            have y1 := cell_later Hb2.out y1
            have q1 := Hq0.out x.1 x.2.1
            rw [← hst] at q1
            obtain ⟨s1, hs1⟩ : ∃ s, s = x.1 := ⟨_, rfl⟩
            obtain ⟨t1, ht1⟩ : ∃ s, s = x.2.1 := ⟨_, rfl⟩
            rw [← hs1] at y0 q1
            rw [← ht1] at y1 q1
            have k3 : ((n1 : Int) == 1) = true := by rw [h1]; rfl
            have k4 : (0 : Int) < (n1 : Int) := by omega
            clear h1
            have Hst := Lib.hid hst; have Hs1 := Lib.hid hs1; have Ht1 := Lib.hid ht1; clear hst hs1 ht1
            go_wp2_with fail
            clear y0 y1 q1 k3 k4 Hst Hs1 Ht1
          case' neg =>
            cases Hsn.out h1
          refine HV1.out.mono ?_
          rintro e w2 ⟨rfl, hb3⟩
          have hb4 := Hb2.out.trans (hb3.mono Hb2.out.size)
          have j2 := cell_later hb3 f2
          clear e0 e1 f0 f1 f2
          have Hb3 := Lib.hid hb3; have Hb4 := Lib.hid hb4; clear hb3 hb4
          go_wp2_with fail
          go_quiet (fail)
          go_wp2_with fail
          go_ret
          exact ⟨by rw [Hf.out]; rfl, bel_drewN Hb4.out _⟩
      | false =>
        by_cases h1 : n1 = 1
        case' pos =>
          obtain ⟨x, b, off, hst, rfl, y0, y1⟩ := Hsy.out h1
          have y0 := cell_later Hb2.out y0
          have y1 := cell_later Hb2.out y1
          have q1 := Hq0.out x.1 x.2.1
          rw [← hst] at q1
          obtain ⟨s1, hs1⟩ : ∃ s, s = x.1 := ⟨_, rfl⟩
          obtain ⟨t1, ht1⟩ : ∃ s, s = x.2.1 := ⟨_, rfl⟩
          rw [← hs1] at y0 q1
          rw [← ht1] at y1 q1
          have k3 : ((n1 : Int) == 1) = true := by rw [h1]; rfl
          have k4 : (0 : Int) < (n1 : Int) := by omega
          clear h1
          have Hst := Lib.hid hst; have Hs1 := Lib.hid hs1; have Ht1 := Lib.hid ht1; clear hst hs1 ht1
          go_wp2_with fail
          clear y0 y1 q1 k3 k4 Hst Hs1 Ht1
        case' neg =>
          have k3 : ((n1 : Int) == 1) = false := by simp; omega
          clear h1
          go_wp2_with fail
          clear k3
        all_goals
          refine HV1.out.mono ?_
          rintro e w2 ⟨rfl, hb3⟩
          have hb4 := Hb2.out.trans (hb3.mono Hb2.out.size)
          have j2 := cell_later hb3 f2
          clear e0 e1 f0 f1 f2
          have Hb3 := Lib.hid hb3; have Hb4 := Lib.hid hb4; clear hb3 hb4
          have hf : r = 9 := by rw [Hr2.out]; rfl
          have Hf := Lib.hid hf; clear hf
          go_wp2_with fail
          go_quiet (fail)
          go_wp2_with fail
          go_ret
          exact ⟨by rw [Hf.out]; rfl, bel_drewN Hb4.out _⟩
  · have k1 : decide (i < 0) = false := decide_eq_false hneg
    have k2 : decide (0 ≤ i) = true := by rw [decide_eq_true_eq]; omega
    have hr2 := Hrr.out
    rw [if_neg hneg] at hr2
    by_cases h1 : n1 = 1
    case' pos =>
      obtain ⟨x, b, off, hst, rfl, y0, y1⟩ := Hsy.out h1
      have y0 := cell_later Hb2.out y0
      have y1 := cell_later Hb2.out y1
      have q1 := Hq0.out x.1 x.2.1
      rw [← hst] at q1
      obtain ⟨s1, hs1⟩ : ∃ s, s = x.1 := ⟨_, rfl⟩
      obtain ⟨t1, ht1⟩ : ∃ s, s = x.2.1 := ⟨_, rfl⟩
      rw [← hs1] at y0 q1
      rw [← ht1] at y1 q1
      have k3 : ((n1 : Int) == 1) = true := by rw [h1]; rfl
      have k4 : (0 : Int) < (n1 : Int) := by omega
      clear h1
      have Hst := Lib.hid hst; have Hs1 := Lib.hid hs1; have Ht1 := Lib.hid ht1; clear hst hs1 ht1
      go_wp2_with fail
      clear y0 y1 q1 k3 k4 Hst Hs1 Ht1
    case' neg =>
      obtain rfl : sr = false := Hsn.out h1
      have k3 : ((n1 : Int) == 1) = false := by simp; omega
      clear h1
      go_wp2_with fail
      clear k3
    all_goals
      have hkl : i.toNat < l.length := by have := Hil.out (by omega); have := Hn.out; omega
      obtain ⟨b, off, w2, w3, w4, w5, w6, w7, hcon, hp⟩ := Hg.out i.toNat _ (List.getElem?_eq_getElem hkl)
      first | subst hcon | (obtain rfl := hcon)
      have hva : varsAt l i.toNat = l[i.toNat].2.2.2.1 := by unfold varsAt; rw [List.getElem?_eq_getElem hkl]
      obtain ⟨x, hx⟩ : ∃ x, x = l[i.toNat] := ⟨_, rfl⟩
      rw [← hx] at hp hva
      obtain ⟨b2, m2, p2, rfl⟩ := slice_any_shape hp.r2
      obtain ⟨b3, m3, p3, rfl⟩ := slice_any_shape hp.r3
      obtain ⟨b4, m4, p4, rfl⟩ := slice_any_shape hp.r4
      obtain ⟨b5, m5, p5, rfl⟩ := slice_any_shape hp.r5
      obtain ⟨b6, m6, p6, rfl⟩ := slice_any_shape hp.r6
      obtain ⟨b7, m7, p7, rfl⟩ := slice_any_shape hp.r7
      have g0 := cell_later Hb2.out hp.c0
      have g1 := cell_later Hb2.out hp.c1
      have g2 := cell_later Hb2.out hp.c2
      have g3 := cell_later Hb2.out hp.c3
      have g4 := cell_later Hb2.out hp.c4
      have g5 := cell_later Hb2.out hp.c5
      have g6 := cell_later Hb2.out hp.c6
      have g7 := cell_later Hb2.out hp.c7
      obtain ⟨x0, hx0⟩ : ∃ s, s = x.1 := ⟨_, rfl⟩
      obtain ⟨x1, hx1⟩ : ∃ s, s = x.2.1 := ⟨_, rfl⟩
      rw [← hx0] at g0
      rw [← hx1] at g1
      have hO := fun (v0 v1 : Value) => of_any (v0 := v0) (v1 := v1) (v2 := .slice b2 m2 p2) (v4 := .slice b4 m4 p4) (v5 := .slice b5 m5 p5) (v6 := .slice b6 m6 p6) (v7 := .slice b7 m7 p7) (stays_slice stays_var _ _ _ _ hp.r3 (bel_drewN Hb2.out 1)) (HS.out _ (bel_drewN Hb2.out 1))
      have hO := hO (.string x0) (.int .i64 x1)
      obtain ⟨ob, hob⟩ : ∃ o, o = ofOf x.2.2.2.1 st := ⟨_, rfl⟩
      rw [hva, ← hob] at hr2
      rw [← hob] at hO
      obtain ⟨k, rfl⟩ : ∃ k : Nat, i = (k : Int) := ⟨i.toNat, by omega⟩
      simp only [Int.toNat_natCast] at g0 g1 g2 g3 g4 g5 g6 g7
      have k5 : (0 : Int) ≤ (k : Int) := by omega
      have k6 : (k : Int) < (n : Int) := by have := Hn.out; simp at hkl; omega
      clear hneg
      have Hx := Lib.hid hx; have Hva := Lib.hid hva; have Hp := Lib.hid hp; have Hx0 := Lib.hid hx0; have Hx1 := Lib.hid hx1; have HO := Lib.hid hO; have Hob := Lib.hid hob; have Hr2 := Lib.hid hr2; clear hx hva hp hx0 hx1 hO hob hr2
      go_region_with (go_at_call 112; refine HO.out.mono ?_; rintro e w2 ⟨rfl, hb3⟩)
      all_goals
        have hb4 := (bel_drewN Hb2.out 1).trans (hb3.mono (bel_drewN Hb2.out 1).size)
        clear e0 e1 f0 f1 f2 g0 g1 g2 g3 g4 g5 g6 g7
        cases ob with
        | false =>
          have hf : r = 8 := by rw [Hr2.out]; rfl
          have Hf := Lib.hid hf; have Hb3 := Lib.hid hb3; have Hb4 := Lib.hid hb4; clear hf hb3 hb4
          go_wp2_with fail
          go_ret
          exact ⟨by rw [Hf.out]; rfl, Hb4.out⟩
        | true =>
          have hf : r = 0 := by rw [Hr2.out]; rfl
          have Hf := Lib.hid hf; have Hb3 := Lib.hid hb3; have Hb4 := Lib.hid hb4; clear hf hb3 hb4
          go_wp2_with fail
          go_ret
          exact ⟨by rw [Hf.out]; rfl, Hb4.out⟩
end Go.Proofs.Ytnelgellbabkoaa

/- The walk of cooperref09.wish: a wish's problem. Condition: few packages. -/
namespace Go.Proofs.Ytnelgellbabkoaa
open Go.RowKit Go.Shelf
attribute [local go_sem ↓] Go.wp_at_zero Go.wp_at_succ

theorem empty_dec (s : ByteArray) : s.toList.isEmpty = decide (s = noText) := by
  have h := bytes_dec s noText
  have e : noText.toList = [] := by rw [ByteArray.toList_eq]
  rw [e] at h
  rw [← h]
  cases s.toList <;> rfl
set_option maxRecDepth 10000 in
set_option maxHeartbeats 4000000 in
theorem wishRef_any9 {w : World} {v pw u1 u2 : Value} {l : List Pkg} {nm : ByteArray} {sp : List Spn} {st : List Setg} (h : RSlice 8 RPkg w [v] l) (hl : l.length ≤ 1000000) (hsp : RSlice 2 RSpn w [u1] sp) (hst : RSets w [u2] st) : Calls Try.prog 118 #[.agg #[v, pw], .agg #[.string nm, u1, u2]] w fun e w' => e = .returned (.int .u8 (wishOf l nm sp st)) ∧ Below w.heap.size w w' := by
  have hI := fun (W : World) (hb : Below w.heap.size w W) => findRef_any (pv := pw) (stays_slice stays_pkg _ _ _ _ h hb) nm
  have hV := fun (W : World) (hb : Below w.heap.size w W) => virtualRef_any (pw := pw) (stays_slice stays_pkg _ _ _ _ h hb) hl nm
  have hS := fun (W : World) (hb : Below w.heap.size w W) => stays_slice stays_set _ _ _ _ hst hb
  obtain ⟨a, cap, rfl, hz, g⟩ := pkgs_open h
  obtain ⟨a1, cap1, rfl, hz1, g1⟩ := spans_open hsp
  obtain ⟨a2, cap2, rfl, hz2, _⟩ := sets_open hst
  obtain ⟨n, hn⟩ : ∃ n, n = l.length := ⟨_, rfl⟩
  obtain ⟨n1, hn1⟩ : ∃ n, n = sp.length := ⟨_, rfl⟩
  obtain ⟨n2, hn2⟩ : ∃ n, n = st.length := ⟨_, rfl⟩
  obtain ⟨i, hi⟩ : ∃ i, i = idxOf (named nm) l := ⟨_, rfl⟩
  obtain ⟨vr, hvr⟩ : ∃ r, r = virtOf nm l := ⟨_, rfl⟩
  obtain ⟨r, hr⟩ : ∃ r, r = wishOf l nm sp st := ⟨_, rfl⟩
  have hrr : r = if i < 0 then (if vr then (if starOf sp && decide (n2 = 0) then 0 else 9) else 7) else if ofOf (varsAt l i.toNat) st then 0 else 8 := by rw [hr, hi, hvr, hn2]; rfl
  have hil : 0 ≤ i → i.toNat < l.length := fun h0 => by rw [hi] at h0 ⊢; exact idxOf_lt h0
  rw [← hr]
  rw [← hi] at hI
  rw [← hvr] at hV
  rw [← hn] at hz h hI hV hil
  rw [← hn1] at hz1 hsp
  rw [← hn2] at hz2 hst hS
  rw [← hn, ← hn1, ← hn2]
  obtain ⟨nb, hnb⟩ : ∃ nb, nb = w.heap.size := ⟨_, rfl⟩
  obtain ⟨W0, hW0⟩ : ∃ W0, W0 = (w.alloc (.cells #[.slice a n cap, pw] 52)).alloc (.cells #[.string nm, .slice a1 n1 cap1, .slice a2 n2 cap2] 107) := ⟨_, rfl⟩
  have hb0 : Below w.heap.size w W0 := by rw [hW0]; exact (below_alloc1 _ _).alloc (below_alloc1 _ _).size _
  have hbx : WBox nb (.slice a n cap) pw (.string nm) (.slice a1 n1 cap1) (.slice a2 n2 cap2) W0 := by rw [hW0, hnb]; exact wbox_new _ _ _ _ _ _
  have c0 := hbx.c0
  have c1 := hbx.c1
  have d0 := hbx.d0
  have q0 := fun s t => spn_eqs s t noText noText
  have hsn : n1 ≠ 1 → starOf sp = false := fun h1 => by
    rw [hn1] at h1
    match sp, h1 with
    | [], _ => rfl
    | [_], h1 => simp at h1
    | _ :: _ :: _, _ => rfl
  have hsy : n1 = 1 → ∃ (x : Spn) (b off : Nat), starOf sp = (decide (x.1 = noText) && decide (x.2.1 = noText)) ∧ a1 = some ⟨b, off, none⟩ ∧ w.cell? ⟨b, off, none⟩ = some (.string x.1) ∧ w.cell? ⟨b, off + 1, none⟩ = some (.string x.2.1) := fun h1 => by
    rw [hn1] at h1
    obtain ⟨x, rfl⟩ := List.length_eq_one_iff.1 h1
    obtain ⟨b, off, h2, h3, h4, _⟩ := g1 0 x rfl
    exact ⟨x, b, off, rfl, h2, by simpa using h3, by simpa using h4⟩
  obtain ⟨sr, hsr⟩ : ∃ r, r = starOf sp := ⟨_, rfl⟩
  rw [← hsr] at hrr hsn hsy
  have hI0 := hI W0 hb0
  have Hh := Lib.hid h; have Hsp := Lib.hid hsp; have Hst := Lib.hid hst; have Hg := Lib.hid g; have Hg1 := Lib.hid g1; have Hn := Lib.hid hn; have Hn1 := Lib.hid hn1; have Hn2 := Lib.hid hn2; have HI := Lib.hid hI; have HV := Lib.hid hV; have HS := Lib.hid hS; have Hi := Lib.hid hi; have Hvr := Lib.hid hvr; have Hr := Lib.hid hr; have Hrr := Lib.hid hrr; have Hil := Lib.hid hil; have Hb0 := Lib.hid hb0; have Hbx := Lib.hid hbx; have Hq0 := Lib.hid q0; have Hsn := Lib.hid hsn; have Hsy := Lib.hid hsy; have Hsr := Lib.hid hsr; have HI0 := Lib.hid hI0; clear h hsp hst g g1 hn hn1 hn2 hI hV hS hi hvr hr hrr hil hb0 hbx q0 hsn hsy hsr hI0
  go_enter Try.func118, Try.ntmps118
  go_upto_region 1 with (fail)
  have enb : nb + 1 = w.heap.size + 1 := by rw [hnb]
  rw [← hW0, ← hnb]
  have HW0 := Lib.hid hW0; have Hnb := Lib.hid hnb; have Henb := Lib.hid enb; clear hW0 hnb enb
  go_wp2_with fail
  refine HI0.out.mono ?_
  rintro e w1 ⟨rfl, hb1⟩
  have hb2 := Hb0.out.trans (hb1.mono Hb0.out.size)
  have hbx1 := Hbx.out.below hb1
  have e0 := hbx1.c0
  have e1 := hbx1.c1
  have f0 := hbx1.d0
  have f1 := hbx1.d1
  have f2 := hbx1.d2
  clear c0 c1 d0
  have Hb1 := Lib.hid hb1; have Hb2 := Lib.hid hb2; have Hbx1 := Lib.hid hbx1; clear hb1 hb2 hbx1
  by_cases hneg : i < 0
  · have k2 : decide (0 ≤ i) = false := by rw [decide_eq_false_iff_not]; omega
    have hr2 := Hrr.out
    rw [if_pos hneg] at hr2
    have hV1 := HV.out w1 Hb2.out
    have Hr2 := Lib.hid hr2; have HV1 := Lib.hid hV1; have Hneg := Lib.hid hneg; clear hr2 hV1 hneg
    go_wp2_with fail
    refine HV1.out.mono ?_
    rintro e w2 ⟨rfl, hb3⟩
    have hb4 := Hb2.out.trans (hb3.mono Hb2.out.size)
    have j1 := cell_later hb3 f1
    have j2 := cell_later hb3 f2
    clear e0 e1 f0 f1 f2
    have Hb3 := Lib.hid hb3; have Hb4 := Lib.hid hb4; clear hb3 hb4
    cases vr with
    | false =>
      have hf : r = 7 := by rw [Hr2.out]; rfl
      have Hf := Lib.hid hf; clear hf
      go_wp2_with fail
      go_ret
      exact ⟨by rw [Hf.out]; rfl, Hb4.out⟩
    | true =>
      by_cases h0 : 0 < n2
      · have k7 : decide ((0 : Int) < (n2 : Int)) = true := by rw [decide_eq_true_eq]; omega
        have hf : r = 9 := by rw [Hr2.out, decide_eq_false (by omega : ¬ n2 = 0), Bool.and_false]; rfl
        have Hf := Lib.hid hf; clear hf
        go_wp2_with fail
        go_ret
        exact ⟨by rw [Hf.out]; rfl, Hb4.out⟩
      · have k7 : decide ((0 : Int) < (n2 : Int)) = false := by rw [decide_eq_false_iff_not]; omega
        have hr3 := Hr2.out
        rw [decide_eq_true (by omega : n2 = 0), Bool.and_true] at hr3
        by_cases h1 : n1 = 1
        · obtain ⟨x, b, off, hst, rfl, y0, y1⟩ := Hsy.out h1
          have y0 := cell_later Hb4.out y0
          have y1 := cell_later Hb4.out y1
          obtain ⟨s1, hs1⟩ : ∃ s, s = x.1 := ⟨_, rfl⟩
          obtain ⟨t1, ht1⟩ : ∃ s, s = x.2.1 := ⟨_, rfl⟩
          rw [← hs1] at y0 hst
          rw [← ht1] at y1 hst
          have q1 := empty_dec s1
          have q2 := empty_dec t1
          have k3 : ((n1 : Int) != 1) = false := by rw [h1]; rfl
          have k4 : (0 : Int) < (n1 : Int) := by omega
          clear h1
          by_cases ea : s1 = noText
          · rw [decide_eq_true ea] at q1 hst
            clear ea
            by_cases eb : t1 = noText
            · rw [decide_eq_true eb] at q2 hst
              clear eb
              have hf : r = 0 := by rw [hr3, hst]; rfl
              have Hst := Lib.hid hst; have Hs1 := Lib.hid hs1; have Ht1 := Lib.hid ht1; have Hf := Lib.hid hf; have Hr3 := Lib.hid hr3; clear hst hs1 ht1 hf hr3
              go_wp2_with fail
              go_ret
              exact ⟨by rw [Hf.out]; rfl, Hb4.out⟩
            · rw [decide_eq_false eb] at q2 hst
              clear eb
              have hf : r = 9 := by rw [hr3, hst]; rfl
              have Hst := Lib.hid hst; have Hs1 := Lib.hid hs1; have Ht1 := Lib.hid ht1; have Hf := Lib.hid hf; have Hr3 := Lib.hid hr3; clear hst hs1 ht1 hf hr3
              go_wp2_with fail
              go_ret
              exact ⟨by rw [Hf.out]; rfl, Hb4.out⟩
          · rw [decide_eq_false ea] at q1 hst
            clear ea
            have hf : r = 9 := by rw [hr3, hst]; rfl
            have Hst := Lib.hid hst; have Hs1 := Lib.hid hs1; have Ht1 := Lib.hid ht1; have Hf := Lib.hid hf; have Hr3 := Lib.hid hr3; clear hst hs1 ht1 hf hr3
            go_wp2_with fail
            go_ret
            exact ⟨by rw [Hf.out]; rfl, Hb4.out⟩
        · have k3 : ((n1 : Int) != 1) = true := by simp; omega
          have hf : r = 9 := by rw [hr3, Hsn.out h1]; rfl
          clear h1
          have Hf := Lib.hid hf; have Hr3 := Lib.hid hr3; clear hf hr3
          go_wp2_with fail
          go_ret
          exact ⟨by rw [Hf.out]; rfl, Hb4.out⟩
  · have k2 : decide (0 ≤ i) = true := by rw [decide_eq_true_eq]; omega
    have hr2 := Hrr.out
    rw [if_neg hneg] at hr2
    have hkl : i.toNat < l.length := by have := Hil.out (by omega); have := Hn.out; omega
    obtain ⟨b, off, w2, w3, w4, w5, w6, w7, hcon, hp⟩ := Hg.out i.toNat _ (List.getElem?_eq_getElem hkl)
    first | subst hcon | (obtain rfl := hcon)
    have hva : varsAt l i.toNat = l[i.toNat].2.2.2.1 := by unfold varsAt; rw [List.getElem?_eq_getElem hkl]
    obtain ⟨x, hx⟩ : ∃ x, x = l[i.toNat] := ⟨_, rfl⟩
    rw [← hx] at hp hva
    obtain ⟨b2, m2, p2, rfl⟩ := slice_any_shape hp.r2
    obtain ⟨b3, m3, p3, rfl⟩ := slice_any_shape hp.r3
    obtain ⟨b4, m4, p4, rfl⟩ := slice_any_shape hp.r4
    obtain ⟨b5, m5, p5, rfl⟩ := slice_any_shape hp.r5
    obtain ⟨b6, m6, p6, rfl⟩ := slice_any_shape hp.r6
    obtain ⟨b7, m7, p7, rfl⟩ := slice_any_shape hp.r7
    have g0 := cell_later Hb2.out hp.c0
    have g1 := cell_later Hb2.out hp.c1
    have g2 := cell_later Hb2.out hp.c2
    have g3 := cell_later Hb2.out hp.c3
    have g4 := cell_later Hb2.out hp.c4
    have g5 := cell_later Hb2.out hp.c5
    have g6 := cell_later Hb2.out hp.c6
    have g7 := cell_later Hb2.out hp.c7
    obtain ⟨x0, hx0⟩ : ∃ s, s = x.1 := ⟨_, rfl⟩
    obtain ⟨x1, hx1⟩ : ∃ s, s = x.2.1 := ⟨_, rfl⟩
    rw [← hx0] at g0
    rw [← hx1] at g1
    have hO := fun (v0 v1 : Value) => settingsRef_any (v0 := v0) (v1 := v1) (v2 := .slice b2 m2 p2) (v4 := .slice b4 m4 p4) (v5 := .slice b5 m5 p5) (v6 := .slice b6 m6 p6) (v7 := .slice b7 m7 p7) (stays_slice stays_var _ _ _ _ hp.r3 (bel_drewN Hb2.out 1)) (HS.out _ (bel_drewN Hb2.out 1))
    have hO := hO (.string x0) (.int .i64 x1)
    obtain ⟨ob, hob⟩ : ∃ o, o = ofOf x.2.2.2.1 st := ⟨_, rfl⟩
    rw [hva, ← hob] at hr2
    rw [← hob] at hO
    obtain ⟨k, rfl⟩ : ∃ k : Nat, i = (k : Int) := ⟨i.toNat, by omega⟩
    simp only [Int.toNat_natCast] at g0 g1 g2 g3 g4 g5 g6 g7
    have k5 : (0 : Int) ≤ (k : Int) := by omega
    have k6 : (k : Int) < (n : Int) := by have := Hn.out; simp at hkl; omega
    clear hneg
    have Hx := Lib.hid hx; have Hva := Lib.hid hva; have Hp := Lib.hid hp; have Hx0 := Lib.hid hx0; have Hx1 := Lib.hid hx1; have HO := Lib.hid hO; have Hob := Lib.hid hob; have Hr2 := Lib.hid hr2; clear hx hva hp hx0 hx1 hO hob hr2
    go_wp2_with fail
    go_region_with (go_at_call 119; refine HO.out.mono ?_; rintro e w2 ⟨rfl, hb3⟩)
    all_goals
      have hb4 := (bel_drewN Hb2.out 1).trans (hb3.mono (bel_drewN Hb2.out 1).size)
      clear e0 e1 f0 f1 f2 g0 g1 g2 g3 g4 g5 g6 g7
      cases ob with
      | false =>
        have hf : r = 8 := by rw [Hr2.out]; rfl
        have Hf := Lib.hid hf; have Hb3 := Lib.hid hb3; have Hb4 := Lib.hid hb4; clear hf hb3 hb4
        go_wp2_with fail
        go_ret
        exact ⟨by rw [Hf.out]; rfl, Hb4.out⟩
      | true =>
        have hf : r = 0 := by rw [Hr2.out]; rfl
        have Hf := Lib.hid hf; have Hb3 := Lib.hid hb3; have Hb4 := Lib.hid hb4; clear hf hb3 hb4
        go_wp2_with fail
        go_ret
        exact ⟨by rw [Hf.out]; rfl, Hb4.out⟩
end Go.Proofs.Ytnelgellbabkoaa

/- The walks of check.twice and cooperref09.twice at texts: are two of them alike. No condition. -/
namespace Go.Proofs.Ytnelgellbabkoaa
open Go.RowKit Go.Shelf
attribute [local go_sem ↓] Go.wp_at_zero Go.wp_at_succ

def twAt (l : List ByteArray) (i : Nat) : Bool := hasT (l.take i) (l.getD i noText)
/-- are two of them alike? -/
def twiceT (l : List ByteArray) : Bool := (List.range l.length).any (twAt l)
theorem twAt_eq {l : List ByteArray} {i : Nat} (h : i < l.length) : twAt l i = hasT (l.take i) l[i] := by
  unfold twAt
  rw [List.getD_eq_getElem?_getD, List.getElem?_eq_getElem h]; rfl
theorem twiceT_yes {l : List ByteArray} {i : Nat} (h : i < l.length) (hi : twAt l i = true) : twiceT l = true := List.any_eq_true.2 ⟨i, List.mem_range.2 h, hi⟩
theorem twiceT_no {l : List ByteArray} (h : ∀ i, i < l.length → twAt l i = false) : twiceT l = false := by
  unfold twiceT
  rw [List.any_eq_false]
  intro i hi
  rw [h i (List.mem_range.1 hi)]; simp
theorem take_no {α : Type} {p : α → Bool} {l : List α} {k : Nat} (h : NoneIn p l k) : (l.take k).any p = false := by
  rw [List.any_eq_false]
  intro x hx
  obtain ⟨i, hi, rfl⟩ := List.mem_iff_getElem.1 hx
  rw [List.length_take] at hi
  rw [List.getElem_take, h i (by omega) (by omega)]; simp
theorem take_yes {α : Type} {p : α → Bool} {l : List α} {k j : Nat} (h : j < l.length) (hjk : j < k) (hj : p l[j] = true) : (l.take k).any p = true :=
  List.any_eq_true.2 ⟨l[j], List.mem_iff_getElem.2 ⟨j, by rw [List.length_take]; omega, by rw [List.getElem_take]⟩, hj⟩
theorem rslice_take {α : Type} {sz : Nat} {R : Rd α} {w : World} {a : Option Addr} {n cap : Nat} {l : List α} (h : RSlice sz R w [.slice a n cap] l) {k : Nat} (hk : k ≤ l.length) : RSlice sz R w [.slice a k cap] (l.take k) := by
  obtain ⟨a', cap', hv, hcap, hmax, hel⟩ := h
  simp only [List.cons.injEq, and_true, Value.slice.injEq] at hv
  obtain ⟨rfl, rfl, rfl⟩ := hv
  have hlen : (l.take k).length = k := by rw [List.length_take]; omega
  refine ⟨a, cap, by rw [hlen], by omega, by omega, fun i x hi => ?_⟩
  rw [List.getElem?_take] at hi
  split at hi
  · exact hel i x hi
  · cases hi
set_option maxRecDepth 10000 in
set_option maxHeartbeats 1000000 in
theorem twice_any9 {w : World} {v : Value} {l : List ByteArray} (h : RSs w [v] l) : Calls Try.prog 110 #[v] w fun e w' => e = .returned (.bool (twiceT l)) ∧ w = w' := by
  obtain ⟨a, cap, rfl, hz, g⟩ := strs_open h
  obtain ⟨n, hn⟩ : ∃ n, n = l.length := ⟨_, rfl⟩
  obtain ⟨r, hr⟩ : ∃ r, r = twiceT l := ⟨_, rfl⟩
  have hcap : n ≤ cap := by
    obtain ⟨a', cap', hv, hcap, _⟩ := h
    simp only [List.cons.injEq, and_true, Value.slice.injEq] at hv
    obtain ⟨_, _, rfl⟩ := hv
    omega
  rw [← hr]
  rw [← hn] at hz h ⊢
  have Hh := Lib.hid h; have Hg := Lib.hid g; have Hn := Lib.hid hn; have Hr := Lib.hid hr; clear h g hn hr
  go_enter Try.func110, Try.ntmps110
  go_wp2_with fail
  go_loopw [7] (fun i wr => ∃ k : Nat, k ≤ n ∧ i = .int .i64 k ∧ (∀ j, j < k → twAt l j = false) ∧ w = wr) (fun i _ => n - (intOf i).toNat)
  case atStart => exact ⟨0, Nat.zero_le _, rfl, fun _ h => by omega, rfl⟩
  case round =>
    obtain ⟨k, hk, rfl, hno, rfl⟩ := hrel
    by_cases hlt : k < n
    · have hkl : k < l.length := by have := Hn.out; omega
      obtain ⟨b, off, rfl, d0, hs1⟩ := Hg.out k hkl
      have hC := contains_any (rslice_take Hh.out (Nat.le_of_lt hkl)) l[k]
      have htw := twAt_eq hkl
      unfold twAt at htw
      have hyes := fun h => twiceT_yes hkl h
      obtain ⟨x, hx⟩ : ∃ x, x = l[k] := ⟨_, rfl⟩
      rw [← hx] at d0 hs1 hC htw
      obtain ⟨c, hc⟩ : ∃ c, c = hasT (l.take k) x := ⟨_, rfl⟩
      rw [← hc] at hC htw
      have k5 : (0 : Int) ≤ (k : Int) := by omega
      have k6 : (k : Int) < (n : Int) := by omega
      have k7 : (k : Int) ≤ (cap : Int) := by omega
      clear hx
      cases c with
      | true =>
        have hf : r = true := by rw [Hr.out]; exact hyes htw
        have Hno := Lib.hid hno; have Hyes := Lib.hid hyes; have HC := Lib.hid hC; have Htw := Lib.hid htw; have Hc := Lib.hid hc; have Hf := Lib.hid hf; clear hno hyes hC htw hc hf
        go_wp2_with fail
        refine HC.out.mono ?_
        rintro e w1 ⟨rfl, rfl⟩
        go_wp2_with fail
        go_ret
        exact ⟨ret_bool Hf.out.symm, rfl⟩
      | false =>
        have hnn : ∀ j, j < k + 1 → twAt l j = false := fun j hj => by
          by_cases e : j = k
          · rw [e]; exact htw
          · exact hno j (by omega)
        have Hno := Lib.hid hno; have Hyes := Lib.hid hyes; have HC := Lib.hid hC; have Htw := Lib.hid htw; have Hc := Lib.hid hc; have Hnn := Lib.hid hnn; clear hno hyes hC htw hc hnn
        go_wp2_with fail
        refine HC.out.mono ?_
        rintro e w1 ⟨rfl, rfl⟩
        go_wp2_with fail
        go_roundw
        case rel => exact ⟨k + 1, by omega, by go_num, Hnn.out, by first | rfl | trivial⟩
        case measure => simp [intOf]; omega
    · obtain rfl : n = k := by omega
      have hf : r = false := by rw [Hr.out]; exact twiceT_no (by rw [← Hn.out]; exact hno)
      have Hno := Lib.hid hno; have Hf := Lib.hid hf; clear hno hf
      go_wp2_with fail
      go_ret
      exact ⟨ret_bool Hf.out.symm, rfl⟩
set_option maxRecDepth 10000 in
set_option maxHeartbeats 1000000 in
theorem twiceRef_any {w : World} {v : Value} {l : List ByteArray} (h : RSs w [v] l) : Calls Try.prog 117 #[v] w fun e w' => e = .returned (.bool (twiceT l)) ∧ ∃ q, w' = w.drewN q := by
  obtain ⟨a, cap, rfl, hz, g⟩ := strs_open h
  obtain ⟨n, hn⟩ : ∃ n, n = l.length := ⟨_, rfl⟩
  obtain ⟨r, hr⟩ : ∃ r, r = twiceT l := ⟨_, rfl⟩
  rw [← hr]
  rw [← hn] at hz h ⊢
  have Hh := Lib.hid h; have Hg := Lib.hid g; have Hn := Lib.hid hn; have Hr := Lib.hid hr; clear h g hn hr
  go_enter Try.func117, Try.ntmps117
  go_wp2_with fail
  go_loopw [7] (fun i wr => ∃ k : Nat, k ≤ n ∧ i = .int .i64 k ∧ (∀ j, j < k → twAt l j = false) ∧ ∃ q, wr = w.drewN q) (fun i _ => n - (intOf i).toNat)
  case atStart => exact ⟨0, Nat.zero_le _, rfl, fun _ h => by omega, 0, rfl⟩
  case round =>
    obtain ⟨k, hk, rfl, hno, q, rfl⟩ := hrel
    by_cases hlt : k < n
    · have hkl : k < l.length := by have := Hn.out; omega
      obtain ⟨b, off, rfl, d0, hs1⟩ := Hg.out k hkl
      have htw := twAt_eq hkl
      have hyes := fun h => twiceT_yes hkl h
      obtain ⟨x, hx⟩ : ∃ x, x = l[k] := ⟨_, rfl⟩
      rw [← hx] at d0 hs1 htw
      have k5 : (0 : Int) ≤ (k : Int) := by omega
      have k6 : (k : Int) < (n : Int) := by omega
      clear hx
      have Hno := Lib.hid hno; have Hyes := Lib.hid hyes; have Htw := Lib.hid htw; clear hno hyes htw
      go_wp2_with fail
      go_loopw [4] (fun i wr => ∃ j : Nat, j ≤ k ∧ i = .int .i64 j ∧ NoneIn (fun z => decide (z = x)) l j ∧ ∃ q, wr = w.drewN q) (fun i _ => k - (intOf i).toNat)
      case atStart => exact ⟨0, Nat.zero_le _, rfl, noneIn_zero _ _, q, rfl⟩
      case round =>
        obtain ⟨j, hj, rfl, hno2, q2, rfl⟩ := hrel
        by_cases hlt2 : j < k
        · have hjl : j < l.length := by omega
          obtain ⟨b2, off2, e2, d2, hs2⟩ := Hg.out j hjl
          injection e2 with e2
          injection e2 with e3 e4
          subst e3 e4
          have hyy := fun h => take_yes (p := fun z => decide (z = x)) hjl hlt2 h
          have hnn := fun h => noneIn_succ hjl hno2 h
          obtain ⟨y, hy⟩ : ∃ y, y = l[j] := ⟨_, rfl⟩
          rw [← hy] at d2 hs2 hyy hnn
          have q1 := bytes_dec x y
          have k7 : (0 : Int) ≤ (j : Int) := by omega
          have k8 : (j : Int) < (n : Int) := by omega
          have k9 : (j : Int) < (k : Int) := by omega
          clear hy
          by_cases e : x = y
          · have hf : r = true := by rw [Hr.out]; exact Hyes.out (by rw [Htw.out]; exact hyy (decide_eq_true e.symm))
            rw [decide_eq_true e] at q1
            clear e
            have Hno2 := Lib.hid hno2; have Hyy := Lib.hid hyy; have Hnn := Lib.hid hnn; have Hf := Lib.hid hf; clear hno2 hyy hnn hf
            go_wp2_with fail
            go_region
            go_wp2_with fail
            go_ret
            exact ⟨ret_bool Hf.out.symm, _, rfl⟩
          · have hq := hnn (decide_eq_false fun h => e h.symm)
            rw [decide_eq_false e] at q1
            clear e
            have Hno2 := Lib.hid hno2; have Hyy := Lib.hid hyy; have Hnn := Lib.hid hnn; have Hq := Lib.hid hq; clear hno2 hyy hnn hq
            go_wp2_with fail
            go_region
            go_wp2_with fail
            go_roundw
            case rel => exact ⟨j + 1, by omega, by go_num, Hq.out, _, rfl⟩
            case measure => simp [intOf]; omega
        · obtain rfl : k = j := by omega
          have hnn : ∀ j, j < k + 1 → twAt l j = false := fun j hj => by
            by_cases e : j = k
            · rw [e, Htw.out]; exact take_no hno2
            · exact Hno.out j (by omega)
          have Hno2 := Lib.hid hno2; have Hnn := Lib.hid hnn; clear hno2 hnn
          go_wp2_with fail
          go_roundw
          case rel => exact ⟨k + 1, by omega, by go_num, Hnn.out, _, rfl⟩
          case measure => simp [intOf]; omega
    · obtain rfl : n = k := by omega
      have hf : r = false := by rw [Hr.out]; exact twiceT_no (by rw [← Hn.out]; exact hno)
      have Hno := Lib.hid hno; have Hf := Lib.hid hf; clear hno hf
      go_wp2_with fail
      go_ret
      exact ⟨ret_bool Hf.out.symm, _, rfl⟩
end Go.Proofs.Ytnelgellbabkoaa

/- The walk of check.versions, and the boxes of check.pack. Condition: few releases. -/
namespace Go.Proofs.Ytnelgellbabkoaa
open Go.RowKit Go.Shelf
attribute [local go_sem ↓] Go.wp_at_zero Go.wp_at_succ

/-- the texts of the first k releases -/
def vsOf (l : List Rls) (k : Nat) : List ByteArray := (l.take k).map (·.1)
theorem vsOf_succ {l : List Rls} {k : Nat} (h : k < l.length) : vsOf l (k + 1) = vsOf l k ++ [l[k].1] := by
  unfold vsOf
  rw [List.take_succ_eq_append_getElem h, List.map_append]; rfl
theorem vsOf_len {l : List Rls} {k : Nat} (h : k ≤ l.length) : (vsOf l k).length = k := by
  unfold vsOf
  rw [List.length_map, List.length_take]; omega
theorem slice_len_shape {α : Type} {sz : Nat} {R : Rd α} {w : World} {v : Value} {l : List α} (h : RSlice sz R w [v] l) : ∃ a c, v = .slice a l.length c ∧ l.length ≤ 9223372036854775807 := by
  obtain ⟨a, cap, hv, _, hm, _⟩ := h
  simp only [List.cons.injEq, and_true] at hv
  unfold maxLen at hm
  exact ⟨_, _, hv, by omega⟩
set_option maxRecDepth 10000 in
set_option maxHeartbeats 2000000 in
theorem versions_any {w : World} {v : Value} {l : List Rls} (h : RSlice 2 RRls w [v] l) (hl : l.length ≤ 1000) : Calls Try.prog 111 #[v] w fun e w' => ∃ o, e = .returned o ∧ w'.ownsRow w.heap.size 9 1 o (vsOf l l.length).length ((vsOf l l.length).map strv) ∧ Below w.heap.size w w' := by
  obtain ⟨a, cap, rfl, hz, g⟩ := rlss_open h
  obtain ⟨n, hn⟩ : ∃ n, n = l.length := ⟨_, rfl⟩
  rw [← hn] at hz h hl ⊢
  have Hh := Lib.hid h; have Hg := Lib.hid g; have Hn := Lib.hid hn; clear h g hn
  go_enter Try.func111, Try.ntmps111
  go_wp2_with fail
  go_loopw [3, 8] (fun o i wr => ∃ k : Nat, k ≤ n ∧ i = .int .i64 k ∧ wr.ownsRow w.heap.size 9 1 o (vsOf l k).length ((vsOf l k).map strv) ∧ Below w.heap.size w wr) (fun _ i _ => n - (intOf i).toNat)
  case atStart => exact ⟨0, Nat.zero_le _, rfl, World.ownsRow_nil _ _ _ _, Below.refl _ _⟩
  case round =>
    obtain ⟨k, hk, rfl, ho, hb⟩ := hrel
    obtain ⟨oa, oc, rfl⟩ := own_shape ho
    have hB := hb.size
    have hpl : (vsOf l k).length ≤ k := Nat.le_of_eq (vsOf_len (by have := Hn.out; omega))
    obtain ⟨m, hm⟩ : ∃ m, m = (vsOf l k).length := ⟨_, rfl⟩
    rw [← hm] at ho hpl ⊢
    by_cases hlt : k < n
    · have hkl : k < l.length := by have := Hn.out; omega
      obtain ⟨b, off, rfl, d0, d1, hs1⟩ := Hg.out k _ (List.getElem?_eq_getElem hkl)
      have hps := vsOf_succ hkl
      obtain ⟨x, hx⟩ : ∃ x, x = l[k] := ⟨_, rfl⟩
      rw [← hx] at d0 d1 hps
      obtain ⟨s, hs⟩ : ∃ s, s = x.1 := ⟨_, rfl⟩
      obtain ⟨t, ht⟩ : ∃ s, s = x.2.1 := ⟨_, rfl⟩
      rw [← hs] at d0 hps
      rw [← ht] at d1
      have e0 := cell_later hb d0
      have e1 := cell_later hb d1
      obtain ⟨W1, hW1⟩ : ∃ W1, W1 = wr.alloc (.cells #[.string s, .bool t] 125) := ⟨_, rfl⟩
      have hb1 : Below w.heap.size w W1 := by rw [hW1]; exact hb.alloc hB _
      have hbW : Below wr.heap.size wr W1 := by rw [hW1]; exact below_alloc1 _ _
      have ho1 := ownsRow_below ho hbW
      have hB1 := hb1.size
      have hnew : W1.heap[wr.heap.size]? = some (.cells #[.string s, .bool t] 125 (0, 0)) := by rw [hW1]; exact heap_alloc_new _ _
      have f0 := cells_at hnew 0
      simp only [List.getElem?_toArray, List.getElem?_cons_zero] at f0
      have k5 : (0 : Int) ≤ (k : Int) := by omega
      have k6 : (k : Int) < (n : Int) := by omega
      obtain ⟨vb, hvb⟩ : ∃ vb, vb = wr.heap.size := ⟨_, rfl⟩
      rw [← hvb] at f0
      clear hx d0 d1 hnew hs1
      have Ho := Lib.hid ho; have Hb := Lib.hid hb; have Hps := Lib.hid hps; have Hm := Lib.hid hm; have Hb1 := Lib.hid hb1; have HbW := Lib.hid hbW; have Ho1 := Lib.hid ho1; have Hs := Lib.hid hs; have Ht := Lib.hid ht; clear ho hb hps hm hb1 hbW ho1 hs ht
      go_upto_region 5 with (fail)
      rw [← hW1, ← hvb]
      have HW1 := Lib.hid hW1; have Hvb := Lib.hid hvb; clear hW1 hvb
      go_wp2_with (at_builtin; (refine wpList_append_some elem_str rfl (.tmp 12) (.tmp 15) rfl w.heap.size (.slice oa m oc) m _ rfl Ho1.out 1 (by decide) #[.string s] rfl rfl (by simp [Value.oneCell']) (by omega) (by unfold maxLen; omega) hB1 ?_; intro g8 c8 w8 hown8 hg8 hm8))
      have hbel8 := bel_own Hb1.out Ho1.out (Nat.le_refl _) hg8 hB1
      have hown9 : w8.ownsRow w.heap.size 9 1 (.slice (some ⟨g8, 0, none⟩) (m + 1) c8) (vsOf l (k + 1)).length ((vsOf l (k + 1)).map strv) := by
        rw [Hps.out, List.map_append, List.length_append, ← Hm.out]; exact hown8
      have Hown8 := Lib.hid hown8; have Hg8 := Lib.hid hg8; have Hbel8 := Lib.hid hbel8; have Hown9 := Lib.hid hown9; clear hown8 hg8 hbel8 hown9
      clear hm8
      go_wp2_with fail
      go_roundw
      case rel => exact ⟨k + 1, by omega, by go_num, Hown9.out, Hbel8.out⟩
      case measure => simp [intOf]; omega
    · obtain rfl : n = k := by omega
      have Ho := Lib.hid ho; have Hb := Lib.hid hb; have Hm := Lib.hid hm; clear ho hb hm
      go_wp2_with fail
      go_ret
      exact ⟨_, rfl, by rw [← Hm.out]; exact Ho.out, Hb.out⟩
/-- a package's problem, by itself -/
def packX (i k : Int) (m n2 n5 n6 n4 n7 : Nat) (tv my tp tf : Bool) : Int :=
  if i ≠ k then 2 else if 0 < m then 3 else if n2 = 0 then 4
  else if 10 < n2 then 1 else if 16 < n5 then 1 else if 8 < n6 then 1 else if 4 < n4 then 1 else if 8 < n7 then 1
  else if tv = true then 5 else if my = false then 6 else if tp = true then 5 else if tf = true then 5 else 0
def packOf (l : List Pkg) (k : Nat) : Int := match l[k]? with
  | none => 0
  | some x => packX (idxOf (named x.1) l) k (pv x.1 l l.length).length x.2.2.1.length x.2.2.2.2.2.1.length x.2.2.2.2.2.2.1.length x.2.2.2.2.1.length x.2.2.2.2.2.2.2.1.length
    (twiceT (vsOf x.2.2.1 x.2.2.1.length)) (mayOf x.2.2.2.1) (twiceT x.2.2.2.2.1) (twiceT x.2.2.2.2.2.2.2.1)
theorem idxOf_le {α : Type} {p : α → Bool} {l : List α} {k : Nat} (h : k < l.length) (hk : p l[k] = true) : idxOf p l ≤ k := by
  unfold idxOf
  cases e : l.findIdx? p with
  | none =>
    rw [List.findIdx?_eq_none_iff] at e
    have := e l[k] (List.getElem_mem h)
    rw [hk] at this; cases this
  | some i =>
    rw [List.findIdx?_eq_some_iff_getElem] at e
    obtain ⟨hi, _, h3⟩ := e
    have : ¬ k < i := fun hki => h3 k hki hk
    simp only; omega
/-- the boxes of a recipe and a package -/
structure PkBox (B : Nat) (v u : Value) (cs : Array Value) (w : World) : Prop where
  r : w.heap[B]? = some (.cells #[v, u] 52 (0, 0))
  p : w.heap[B + 1]? = some (.cells cs 68 (0, 0))
theorem PkBox.below {B : Nat} {v u : Value} {cs : Array Value} {w w' : World} (h : PkBox B v u cs w) (hb : Below w.heap.size w w') : PkBox B v u cs w' := ⟨heap_below hb h.r, heap_below hb h.p⟩
theorem pkbox_new (w : World) (v u : Value) (cs : Array Value) : PkBox w.heap.size v u cs ((w.alloc (.cells #[v, u] 52)).alloc (.cells cs 68)) :=
  ⟨heap_below (below_alloc1 _ _) (heap_alloc_new _ _), heap_new_at (by simp)⟩
theorem PkBox.cells {B : Nat} {v u q0 q1 q2 q3 q4 q5 q6 q7 : Value} {w : World} (h : PkBox B v u #[q0, q1, q2, q3, q4, q5, q6, q7] w) :
    w.cell? ⟨B, 0, none⟩ = some v ∧ w.cell? ⟨B, 1, none⟩ = some u ∧ w.cell? ⟨B + 1, 0, none⟩ = some q0 ∧ w.cell? ⟨B + 1, 1, none⟩ = some q1 ∧ w.cell? ⟨B + 1, 2, none⟩ = some q2 ∧ w.cell? ⟨B + 1, 3, none⟩ = some q3 ∧ w.cell? ⟨B + 1, 4, none⟩ = some q4 ∧ w.cell? ⟨B + 1, 5, none⟩ = some q5 ∧ w.cell? ⟨B + 1, 6, none⟩ = some q6 ∧ w.cell? ⟨B + 1, 7, none⟩ = some q7 := by
  have a0 := cells_at h.r 0
  have a1 := cells_at h.r 1
  have b0 := cells_at h.p 0
  have b1 := cells_at h.p 1
  have b2 := cells_at h.p 2
  have b3 := cells_at h.p 3
  have b4 := cells_at h.p 4
  have b5 := cells_at h.p 5
  have b6 := cells_at h.p 6
  have b7 := cells_at h.p 7
  simp only [List.getElem?_toArray, List.getElem?_cons_zero, List.getElem?_cons_succ] at a0 a1 b0 b1 b2 b3 b4 b5 b6 b7
  exact ⟨a0, a1, b0, b1, b2, b3, b4, b5, b6, b7⟩
end Go.Proofs.Ytnelgellbabkoaa

/- The walk of check.pack: a package's problem, by itself. Condition: few packages, few variants of few values. -/
namespace Go.Proofs.Ytnelgellbabkoaa
open Go.RowKit Go.Shelf
attribute [local go_sem ↓] Go.wp_at_zero Go.wp_at_succ

theorem vs_small {w : World} {v : Value} {l : List Rls} (h : RSlice 2 RRls w [v] l) : ∀ x ∈ vsOf l l.length, x.size ≤ maxLen := fun x hx => by
  obtain ⟨a, cap, _, _, g⟩ := rlss_open h
  unfold vsOf at hx
  rw [List.take_length] at hx
  obtain ⟨y, hy, rfl⟩ := List.mem_map.1 hx
  obtain ⟨i, hi, rfl⟩ := List.mem_iff_getElem.1 hy
  obtain ⟨_, _, _, _, _, h3⟩ := g i _ (List.getElem?_eq_getElem hi)
  unfold maxLen; omega
theorem packOf_at {l : List Pkg} {k : Nat} (h : k < l.length) : packOf l k = packX (idxOf (named l[k].1) l) k (pv l[k].1 l l.length).length l[k].2.2.1.length l[k].2.2.2.2.2.1.length l[k].2.2.2.2.2.2.1.length l[k].2.2.2.2.1.length l[k].2.2.2.2.2.2.2.1.length
    (twiceT (vsOf l[k].2.2.1 l[k].2.2.1.length)) (mayOf l[k].2.2.2.1) (twiceT l[k].2.2.2.2.1) (twiceT l[k].2.2.2.2.2.2.2.1) := by
  unfold packOf
  rw [List.getElem?_eq_getElem h]
set_option maxRecDepth 10000 in
set_option maxHeartbeats 8000000 in
theorem pack_any {w : World} {v pw : Value} {l : List Pkg} {k : Nat} (h : RSlice 8 RPkg w [v] l) (hl : l.length ≤ 1000000) (hk : k < l.length) (hsm : PkgSmall l[k]) : Calls Try.prog 81 #[.agg #[v, pw], .int .i64 k] w fun e w' => e = .returned (.int .u8 (packOf l k)) ∧ Below w.heap.size w w' := by
  have hpk := packOf_at hk
  obtain ⟨a, cap, rfl, hz, g⟩ := pkgs_open h
  obtain ⟨b, off, u2, u3, u4, u5, u6, u7, rfl, hp⟩ := g k _ (List.getElem?_eq_getElem hk)
  have hle := idxOf_le (p := named l[k].1) hk (decide_eq_true rfl)
  obtain ⟨x, hx⟩ : ∃ x, x = l[k] := ⟨_, rfl⟩
  rw [← hx] at hp hpk hle hsm
  have hI := fun (W : World) (hb : Below w.heap.size w W) => find_any (pv := pw) (stays_slice stays_pkg _ _ _ _ h hb) x.1
  have hP := fun (W : World) (hb : Below w.heap.size w W) => providers_any (pw := pw) (stays_slice stays_pkg _ _ _ _ h hb) hl x.1
  have hVs := fun (W : World) (hb : Below w.heap.size w W) (hn : x.2.2.1.length ≤ 1000) => versions_any (stays_slice stays_rls _ _ _ _ hp.r2 hb) hn
  have hvsm := vs_small hp.r2
  have hTv := fun (W : World) (B : Nat) (o : Value) (ho : W.ownsRow B 9 1 o (vsOf x.2.2.1 x.2.2.1.length).length ((vsOf x.2.2.1 x.2.2.1.length).map strv)) => twice_any9 (strs_reads hvsm ho)
  have hTp := fun (W : World) (hb : Below w.heap.size w W) => twice_any9 (stays_slice stays_str _ _ _ _ hp.r4 hb)
  have hTf := fun (W : World) (hb : Below w.heap.size w W) => twice_any9 (stays_slice stays_str _ _ _ _ hp.r7 hb)
  have hMy := fun (W : World) (hb : Below w.heap.size w W) => may_any (stays_slice stays_var _ _ _ _ hp.r3 hb) (by have := hsm.1; omega) (fun y hy => by have := hsm.2 y hy; omega)
  obtain ⟨b2, p2, rfl, z2⟩ := slice_len_shape hp.r2
  obtain ⟨b3, m3, p3, rfl⟩ := slice_any_shape hp.r3
  obtain ⟨b4, p4, rfl, z4⟩ := slice_len_shape hp.r4
  obtain ⟨b5, p5, rfl, z5⟩ := slice_len_shape hp.r5
  obtain ⟨b6, p6, rfl, z6⟩ := slice_len_shape hp.r6
  obtain ⟨b7, p7, rfl, z7⟩ := slice_len_shape hp.r7
  obtain ⟨x0, hx0⟩ : ∃ s, s = x.1 := ⟨_, rfl⟩
  obtain ⟨x1, hx1⟩ : ∃ s, s = x.2.1 := ⟨_, rfl⟩
  obtain ⟨n2, hn2⟩ : ∃ n, n = x.2.2.1.length := ⟨_, rfl⟩
  obtain ⟨n4, hn4⟩ : ∃ n, n = x.2.2.2.2.1.length := ⟨_, rfl⟩
  obtain ⟨n5, hn5⟩ : ∃ n, n = x.2.2.2.2.2.1.length := ⟨_, rfl⟩
  obtain ⟨n6, hn6⟩ : ∃ n, n = x.2.2.2.2.2.2.1.length := ⟨_, rfl⟩
  obtain ⟨n7, hn7⟩ : ∃ n, n = x.2.2.2.2.2.2.2.1.length := ⟨_, rfl⟩
  obtain ⟨tp, htp⟩ : ∃ r, r = twiceT x.2.2.2.2.1 := ⟨_, rfl⟩
  obtain ⟨tf, htf⟩ : ∃ r, r = twiceT x.2.2.2.2.2.2.2.1 := ⟨_, rfl⟩
  obtain ⟨my, hmy⟩ : ∃ r, r = mayOf x.2.2.2.1 := ⟨_, rfl⟩
  obtain ⟨tv, htv⟩ : ∃ r, r = twiceT (vsOf x.2.2.1 x.2.2.1.length) := ⟨_, rfl⟩
  obtain ⟨i, hi⟩ : ∃ i, i = idxOf (named x.1) l := ⟨_, rfl⟩
  obtain ⟨m, hm⟩ : ∃ m, m = (pv x.1 l l.length).length := ⟨_, rfl⟩
  obtain ⟨r, hr⟩ : ∃ r, r = packOf l k := ⟨_, rfl⟩
  obtain ⟨vs, hvs⟩ : ∃ r, r = vsOf x.2.2.1 x.2.2.1.length := ⟨_, rfl⟩
  have hc0 := hp.c0
  have hc1 := hp.c1
  have hc2 := hp.c2
  have hc3 := hp.c3
  have hc4 := hp.c4
  have hc5 := hp.c5
  have hc6 := hp.c6
  have hc7 := hp.c7
  rw [← hx0] at hc0
  rw [← hx1] at hc1
  rw [← hr, ← htp, ← htf, ← hmy, ← htv, ← hi, ← hm, ← hn2, ← hn4, ← hn5, ← hn6, ← hn7] at hpk
  rw [← hr]
  rw [← hi] at hI hle
  rw [← hx0] at hI
  rw [← hm] at hP
  rw [← hx0] at hP
  rw [← htv, ← hvs] at hTv
  rw [← htp] at hTp
  rw [← htf] at hTf
  rw [← hmy] at hMy
  rw [← hn2] at hc2 z2
  rw [← hn4] at hc4 hTp z4
  rw [← hn5] at hc5 z5
  rw [← hn6] at hc6 z6
  rw [← hn7] at hc7 hTf z7
  rw [← hvs, ← hn2] at hVs
  obtain ⟨n, hn⟩ : ∃ n, n = l.length := ⟨_, rfl⟩
  rw [← hn] at hz h hl hk hI hP
  rw [← hn]
  have hvl : vs.length = n2 := by rw [hvs, hn2]; exact vsOf_len (Nat.le_refl _)

  have k5 : (0 : Int) ≤ (k : Int) := by omega
  have k6 : (k : Int) < (n : Int) := by omega
  obtain ⟨nb, hnb⟩ : ∃ nb, nb = w.heap.size := ⟨_, rfl⟩
  obtain ⟨W0, hW0⟩ : ∃ W0, W0 = w.alloc (.cells #[.slice (some ⟨b, off, none⟩) n cap, pw] 52) := ⟨_, rfl⟩
  obtain ⟨W1, hW1⟩ : ∃ W1, W1 = W0.alloc (.cells #[.string x0, .int .i64 x1, .slice b2 n2 p2, .slice b3 m3 p3, .slice b4 n4 p4, .slice b5 n5 p5, .slice b6 n6 p6, .slice b7 n7 p7] 68) := ⟨_, rfl⟩
  have hb0 : Below w.heap.size w W0 := by rw [hW0]; exact below_alloc1 _ _
  have hb1 : Below w.heap.size w W1 := by rw [hW1]; exact hb0.alloc hb0.size _
  have hbx : PkBox nb (.slice (some ⟨b, off, none⟩) n cap) pw #[.string x0, .int .i64 x1, .slice b2 n2 p2, .slice b3 m3 p3, .slice b4 n4 p4, .slice b5 n5 p5, .slice b6 n6 p6, .slice b7 n7 p7] W1 := by rw [hW1, hW0, hnb]; exact pkbox_new _ _ _ _
  have hs0 : nb + 1 = W0.heap.size := by rw [hW0, hnb]; simp
  have hbx0 : W0.heap[nb]? = some (.cells #[.slice (some ⟨b, off, none⟩) n cap, pw] 52 (0, 0)) := by rw [hW0, hnb]; exact heap_alloc_new _ _
  have c0 := cells_at hbx0 0
  simp only [List.getElem?_toArray, List.getElem?_cons_zero] at c0
  clear hbx0
  have e0 := cell_later hb0 hc0
  have e1 := cell_later hb0 hc1
  have e2 := cell_later hb0 hc2
  have e3 := cell_later hb0 hc3
  have e4 := cell_later hb0 hc4
  have e5 := cell_later hb0 hc5
  have e6 := cell_later hb0 hc6
  have e7 := cell_later hb0 hc7
  have hI1 := hI W1 hb1
  clear hc0 hc1 hc2 hc3 hc4 hc5 hc6 hc7
  have Hh := Lib.hid h; have Hg := Lib.hid g; have Hpk := Lib.hid hpk; have Hp := Lib.hid hp; have Hx := Lib.hid hx; have Hsm := Lib.hid hsm; have HI := Lib.hid hI; have HP := Lib.hid hP; have HVs := Lib.hid hVs; have Hvsm := Lib.hid hvsm; have HTv := Lib.hid hTv; have HTp := Lib.hid hTp; have HTf := Lib.hid hTf; have HMy := Lib.hid hMy; have Hx0 := Lib.hid hx0; have Hx1 := Lib.hid hx1; have Hn2 := Lib.hid hn2; have Hn4 := Lib.hid hn4; have Hn5 := Lib.hid hn5; have Hn6 := Lib.hid hn6; have Hn7 := Lib.hid hn7; have Htp := Lib.hid htp; have Htf := Lib.hid htf; have Hmy := Lib.hid hmy; have Htv := Lib.hid htv; have Hi := Lib.hid hi; have Hm := Lib.hid hm; have Hr := Lib.hid hr; have Hvs := Lib.hid hvs; have Hn := Lib.hid hn; have Hvl := Lib.hid hvl; have Hb0 := Lib.hid hb0; have Hb1 := Lib.hid hb1; have Hbx := Lib.hid hbx; have HI1 := Lib.hid hI1; clear h g hpk hp hx hsm hI hP hVs hvsm hTv hTp hTf hMy hx0 hx1 hn2 hn4 hn5 hn6 hn7 htp htf hmy htv hi hm hr hvs hn hvl hb0 hb1 hbx hI1
  go_enter Try.func81, Try.ntmps81
  go_upto_region 1 with (fail)
  rw [← hW0, ← hnb]
  have HW0 := Lib.hid hW0; have Hnb := Lib.hid hnb; clear hW0 hnb
  go_upto_region 2 with (fail)
  rw [← hs0, ← hW1]
  have HW1 := Lib.hid hW1; have Hs0 := Lib.hid hs0; clear hW1 hs0
  clear c0 e0 e1 e2 e3 e4 e5 e6 e7
  obtain ⟨c0, c1, d0, d1, d2, d3, d4, d5, d6, d7⟩ := Hbx.out.cells
  go_wp2_with fail
  refine HI1.out.mono ?_
  rintro e w1 ⟨rfl, hbn⟩
  have hb2 := Hb1.out.trans (hbn.mono Hb1.out.size)
  have hbx2 := Hbx.out.below hbn
  clear c0 c1 d0 d1 d2 d3 d4 d5 d6 d7
  obtain ⟨c0, c1, d0, d1, d2, d3, d4, d5, d6, d7⟩ := hbx2.cells
  have hr1 := Hpk.out
  unfold packX at hr1
  have Hbn := Lib.hid hbn; have Hb2 := Lib.hid hb2; have Hbx2 := Lib.hid hbx2; clear hbn hb2 hbx2
  by_cases q1 : i < (k : Int)
  · have k1 : decide (i < (k : Int)) = true := by rw [decide_eq_true_eq]; omega
    have hf : r = 2 := by rw [hr1, if_pos (by omega)]
    have Hf := Lib.hid hf; clear hf
    go_wp2_with fail
    go_ret
    exact ⟨by rw [Hf.out]; rfl, Hb2.out⟩
  have k1 : decide (i < (k : Int)) = false := by rw [decide_eq_false_iff_not]; omega
  rw [if_neg (by omega)] at hr1
  have hP2 := HP.out w1 Hb2.out
  have Hr1 := Lib.hid hr1; have HP2 := Lib.hid hP2; clear hr1 hP2
  go_wp2_with fail
  refine HP2.out.mono ?_
  rintro e w2 ⟨o, rfl, ho, hbn⟩
  obtain ⟨oa, oc, rfl⟩ := own_shape ho
  have hb3 := Hb2.out.trans (hbn.mono Hb2.out.size)
  have hbx3 := Hbx2.out.below hbn
  clear c0 c1 d0 d1 d2 d3 d4 d5 d6 d7 k1 q1 hle
  obtain ⟨c0, c1, d0, d1, d2, d3, d4, d5, d6, d7⟩ := hbx3.cells
  have hr1 := Hr1.out
  have Ho := Lib.hid ho; have Hbn := Lib.hid hbn; have Hb3 := Lib.hid hb3; have Hbx3 := Lib.hid hbx3; clear ho hbn hb3 hbx3
  by_cases q2 : 0 < m
  · have k2 : decide ((0 : Int) < (m : Int)) = true := by rw [decide_eq_true_eq]; omega
    have hf : r = 3 := by rw [hr1, if_pos q2]
    have Hf := Lib.hid hf; clear hf
    go_wp2_with fail
    go_ret
    exact ⟨by rw [Hf.out]; rfl, Hb3.out⟩
  have k2 : decide ((0 : Int) < (m : Int)) = false := by rw [decide_eq_false_iff_not]; omega
  rw [if_neg q2] at hr1
  by_cases q3 : n2 = 0
  · have k3 : ((n2 : Int) == 0) = true := by rw [q3]; rfl
    have hf : r = 4 := by rw [hr1, if_pos q3]
    have Hf := Lib.hid hf; clear hf
    go_wp2_with fail
    go_ret
    exact ⟨by rw [Hf.out]; rfl, Hb3.out⟩
  have k3 : ((n2 : Int) == 0) = false := by simp; omega
  rw [if_neg q3] at hr1
  by_cases q10 : 10 < n2
  · have k10 : decide ((10 : Int) < (n2 : Int)) = true := by simp; omega
    have hf : r = 1 := by rw [hr1, if_pos q10]
    have Hf := Lib.hid hf; clear hf
    go_wp2_with fail
    go_ret
    exact ⟨by rw [Hf.out]; rfl, Hb3.out⟩
  have k10 : decide ((10 : Int) < (n2 : Int)) = false := by simp; omega
  rw [if_neg q10] at hr1
  by_cases q11 : 16 < n5
  · have k11 : decide ((16 : Int) < (n5 : Int)) = true := by simp; omega
    have hf : r = 1 := by rw [hr1, if_pos q11]
    have Hf := Lib.hid hf; clear hf
    go_wp2_with fail
    go_ret
    exact ⟨by rw [Hf.out]; rfl, Hb3.out⟩
  have k11 : decide ((16 : Int) < (n5 : Int)) = false := by simp; omega
  rw [if_neg q11] at hr1
  by_cases q12 : 8 < n6
  · have k12 : decide ((8 : Int) < (n6 : Int)) = true := by simp; omega
    have hf : r = 1 := by rw [hr1, if_pos q12]
    have Hf := Lib.hid hf; clear hf
    go_wp2_with fail
    go_ret
    exact ⟨by rw [Hf.out]; rfl, Hb3.out⟩
  have k12 : decide ((8 : Int) < (n6 : Int)) = false := by simp; omega
  rw [if_neg q12] at hr1
  by_cases q13 : 4 < n4
  · have k13 : decide ((4 : Int) < (n4 : Int)) = true := by simp; omega
    have hf : r = 1 := by rw [hr1, if_pos q13]
    have Hf := Lib.hid hf; clear hf
    go_wp2_with fail
    go_ret
    exact ⟨by rw [Hf.out]; rfl, Hb3.out⟩
  have k13 : decide ((4 : Int) < (n4 : Int)) = false := by simp; omega
  rw [if_neg q13] at hr1
  by_cases q14 : 8 < n7
  · have k14 : decide ((8 : Int) < (n7 : Int)) = true := by simp; omega
    have hf : r = 1 := by rw [hr1, if_pos q14]
    have Hf := Lib.hid hf; clear hf
    go_wp2_with fail
    go_ret
    exact ⟨by rw [Hf.out]; rfl, Hb3.out⟩
  have k14 : decide ((8 : Int) < (n7 : Int)) = false := by simp; omega
  rw [if_neg q14] at hr1
  have hV3 := HVs.out w2 Hb3.out (by omega)
  have Hr1 := Lib.hid hr1; have HV3 := Lib.hid hV3; clear hr1 hV3
  go_wp2_with fail
  refine HV3.out.mono ?_
  rintro e w3 ⟨o3, rfl, ho3, hbn⟩
  have hT3 := HTv.out w3 _ o3 ho3
  obtain ⟨oa3, oc3, rfl⟩ := own_shape ho3
  have hb4 := Hb3.out.trans (hbn.mono Hb3.out.size)
  have hbx4 := Hbx3.out.below hbn
  clear c0 c1 d0 d1 d2 d3 d4 d5 d6 d7 k2 k3 k10 k11 k12 k13 k14
  obtain ⟨c0, c1, d0, d1, d2, d3, d4, d5, d6, d7⟩ := hbx4.cells
  have hvl := Hvl.out
  rw [hvl] at hT3 ho3
  rw [hvl]
  have Ho3 := Lib.hid ho3; have Hbn := Lib.hid hbn; have Hb4 := Lib.hid hb4; have Hbx4 := Lib.hid hbx4; have HT3 := Lib.hid hT3; have Hvl := Lib.hid hvl; clear ho3 hbn hb4 hbx4 hT3 hvl
  go_wp2_with fail
  refine HT3.out.mono ?_
  rintro e w4 ⟨rfl, rfl⟩
  have hr1 := Hr1.out
  cases tv with
  | true =>
    have hf : r = 5 := by rw [hr1, if_pos rfl]
    have Hf := Lib.hid hf; clear hf
    go_wp2_with fail
    go_ret
    exact ⟨by rw [Hf.out]; rfl, Hb4.out⟩
  | false =>
    rw [if_neg (by simp)] at hr1
    have hM4 := HMy.out _ Hb4.out
    have Hr1 := Lib.hid hr1; have HM4 := Lib.hid hM4; clear hr1 hM4
    go_wp2_with fail
    refine HM4.out.mono ?_
    rintro e w5 ⟨rfl, hbn⟩
    have hb5 := Hb4.out.trans (hbn.mono Hb4.out.size)
    have hbx5 := Hbx4.out.below hbn
    clear c0 c1 d0 d1 d2 d3 d4 d5 d6 d7
    obtain ⟨c0, c1, d0, d1, d2, d3, d4, d5, d6, d7⟩ := hbx5.cells
    have hr1 := Hr1.out
    have Hbn := Lib.hid hbn; have Hb5 := Lib.hid hb5; have Hbx5 := Lib.hid hbx5; clear hbn hb5 hbx5
    cases my with
    | false =>
      have hf : r = 6 := by rw [hr1, if_pos rfl]
      have Hf := Lib.hid hf; clear hf
      go_wp2_with fail
      go_ret
      exact ⟨by rw [Hf.out]; rfl, Hb5.out⟩
    | true =>
      rw [if_neg (by simp)] at hr1
      have hT5 := HTp.out _ Hb5.out
      have hT6 := HTf.out _ Hb5.out
      have HT5 := Lib.hid hT5; have HT6 := Lib.hid hT6; clear hT5 hT6
      go_wp2_with fail
      refine HT5.out.mono ?_
      rintro e w6 ⟨rfl, rfl⟩
      cases tp with
      | true =>
        have hf : r = 5 := by rw [hr1, if_pos rfl]
        have Hf := Lib.hid hf; clear hf
        go_wp2_with fail
        go_ret
        exact ⟨by rw [Hf.out]; rfl, Hb5.out⟩
      | false =>
        rw [if_neg (by simp)] at hr1
        go_wp2_with fail
        refine HT6.out.mono ?_
        rintro e w6 ⟨rfl, rfl⟩
        cases tf with
        | true =>
          have hf : r = 5 := by rw [hr1, if_pos rfl]
          have Hf := Lib.hid hf; clear hf
          go_wp2_with fail
          go_ret
          exact ⟨by rw [Hf.out]; rfl, Hb5.out⟩
        | false =>
          have hf : r = 0 := by rw [hr1, if_neg (by simp)]
          have Hf := Lib.hid hf; clear hf
          go_wp2_with fail
          go_ret
          exact ⟨by rw [Hf.out]; rfl, Hb5.out⟩
end Go.Proofs.Ytnelgellbabkoaa

/- The walk of cooperref09.alone: a package's problem, by itself. Condition: few packages, few variants of few values. -/
namespace Go.Proofs.Ytnelgellbabkoaa
open Go.RowKit Go.Shelf
attribute [local go_sem ↓] Go.wp_at_zero Go.wp_at_succ

set_option maxRecDepth 10000 in
set_option maxHeartbeats 8000000 in
theorem alone_any {w : World} {v pw : Value} {l : List Pkg} {k : Nat} (h : RSlice 8 RPkg w [v] l) (hl : l.length ≤ 1000000) (hk : k < l.length) (hsm : PkgSmall l[k]) : Calls Try.prog 84 #[.agg #[v, pw], .int .i64 k] w fun e w' => e = .returned (.int .u8 (packOf l k)) ∧ Below w.heap.size w w' := by
  have hpk := packOf_at hk
  obtain ⟨a, cap, rfl, hz, g⟩ := pkgs_open h
  obtain ⟨b, off, u2, u3, u4, u5, u6, u7, rfl, hp⟩ := g k _ (List.getElem?_eq_getElem hk)
  have hle := idxOf_le (p := named l[k].1) hk (decide_eq_true rfl)
  obtain ⟨x, hx⟩ : ∃ x, x = l[k] := ⟨_, rfl⟩
  rw [← hx] at hp hpk hle hsm
  have hI := fun (W : World) (hb : Below w.heap.size w W) => findRef_any (pv := pw) (stays_slice stays_pkg _ _ _ _ h hb) x.1
  have hP := fun (W : World) (hb : Below w.heap.size w W) => providersRef_any (pw := pw) (stays_slice stays_pkg _ _ _ _ h hb) hl x.1
  have hvsm := vs_small hp.r2
  have hTv := fun (W : World) (B : Nat) (o : Value) (ho : W.ownsRow B 9 1 o (vsOf x.2.2.1 x.2.2.1.length).length ((vsOf x.2.2.1 x.2.2.1.length).map strv)) => twiceRef_any (strs_reads hvsm ho)
  have hTp := fun (W : World) (hb : Below w.heap.size w W) => twiceRef_any (stays_slice stays_str _ _ _ _ hp.r4 hb)
  have hTf := fun (W : World) (hb : Below w.heap.size w W) => twiceRef_any (stays_slice stays_str _ _ _ _ hp.r7 hb)
  have hMy := fun (W : World) (hb : Below w.heap.size w W) => mayRef_any (stays_slice stays_var _ _ _ _ hp.r3 hb)
  obtain ⟨b2, p2, rfl, z2⟩ := slice_len_shape hp.r2
  obtain ⟨b3, m3, p3, rfl⟩ := slice_any_shape hp.r3
  obtain ⟨b4, p4, rfl, z4⟩ := slice_len_shape hp.r4
  obtain ⟨b5, p5, rfl, z5⟩ := slice_len_shape hp.r5
  obtain ⟨b6, p6, rfl, z6⟩ := slice_len_shape hp.r6
  obtain ⟨b7, p7, rfl, z7⟩ := slice_len_shape hp.r7
  obtain ⟨_, _, hsh2, _, g2⟩ := rlss_open hp.r2
  simp only [Value.slice.injEq] at hsh2
  obtain ⟨rfl, _, rfl⟩ := hsh2
  obtain ⟨x0, hx0⟩ : ∃ s, s = x.1 := ⟨_, rfl⟩
  obtain ⟨x1, hx1⟩ : ∃ s, s = x.2.1 := ⟨_, rfl⟩
  obtain ⟨n2, hn2⟩ : ∃ n, n = x.2.2.1.length := ⟨_, rfl⟩
  obtain ⟨n4, hn4⟩ : ∃ n, n = x.2.2.2.2.1.length := ⟨_, rfl⟩
  obtain ⟨n5, hn5⟩ : ∃ n, n = x.2.2.2.2.2.1.length := ⟨_, rfl⟩
  obtain ⟨n6, hn6⟩ : ∃ n, n = x.2.2.2.2.2.2.1.length := ⟨_, rfl⟩
  obtain ⟨n7, hn7⟩ : ∃ n, n = x.2.2.2.2.2.2.2.1.length := ⟨_, rfl⟩
  obtain ⟨tp, htp⟩ : ∃ r, r = twiceT x.2.2.2.2.1 := ⟨_, rfl⟩
  obtain ⟨tf, htf⟩ : ∃ r, r = twiceT x.2.2.2.2.2.2.2.1 := ⟨_, rfl⟩
  obtain ⟨my, hmy⟩ : ∃ r, r = mayOf x.2.2.2.1 := ⟨_, rfl⟩
  obtain ⟨tv, htv⟩ : ∃ r, r = twiceT (vsOf x.2.2.1 x.2.2.1.length) := ⟨_, rfl⟩
  obtain ⟨i, hi⟩ : ∃ i, i = idxOf (named x.1) l := ⟨_, rfl⟩
  obtain ⟨m, hm⟩ : ∃ m, m = (pv x.1 l l.length).length := ⟨_, rfl⟩
  obtain ⟨r, hr⟩ : ∃ r, r = packOf l k := ⟨_, rfl⟩
  obtain ⟨vs, hvs⟩ : ∃ r, r = vsOf x.2.2.1 x.2.2.1.length := ⟨_, rfl⟩
  have hc0 := hp.c0
  have hc1 := hp.c1
  have hc2 := hp.c2
  have hc3 := hp.c3
  have hc4 := hp.c4
  have hc5 := hp.c5
  have hc6 := hp.c6
  have hc7 := hp.c7
  rw [← hx0] at hc0
  rw [← hx1] at hc1
  rw [← hr, ← htp, ← htf, ← hmy, ← htv, ← hi, ← hm, ← hn2, ← hn4, ← hn5, ← hn6, ← hn7] at hpk
  rw [← hr]
  rw [← hi] at hI hle
  rw [← hx0] at hI
  rw [← hm] at hP
  rw [← hx0] at hP
  rw [← htv, ← hvs] at hTv
  rw [← htp] at hTp
  rw [← htf] at hTf
  rw [← hmy] at hMy
  rw [← hn2] at hc2 z2
  rw [← hn4] at hc4 hTp z4
  rw [← hn5] at hc5 z5
  rw [← hn6] at hc6 z6
  rw [← hn7] at hc7 hTf z7
  obtain ⟨xr, hxr⟩ : ∃ r, r = x.2.2.1 := ⟨_, rfl⟩
  rw [← hxr] at g2 hn2 hvs
  obtain ⟨n, hn⟩ : ∃ n, n = l.length := ⟨_, rfl⟩
  rw [← hn] at hz h hl hk hI hP
  rw [← hn]
  have hvl : vs.length = n2 := by rw [hvs, hn2]; exact vsOf_len (Nat.le_refl _)

  have k5 : (0 : Int) ≤ (k : Int) := by omega
  have k6 : (k : Int) < (n : Int) := by omega
  obtain ⟨nb, hnb⟩ : ∃ nb, nb = w.heap.size := ⟨_, rfl⟩
  obtain ⟨W0, hW0⟩ : ∃ W0, W0 = w.alloc (.cells #[.slice (some ⟨b, off, none⟩) n cap, pw] 52) := ⟨_, rfl⟩
  obtain ⟨W1, hW1⟩ : ∃ W1, W1 = W0.alloc (.cells #[.string x0, .int .i64 x1, .slice b2 n2 p2, .slice b3 m3 p3, .slice b4 n4 p4, .slice b5 n5 p5, .slice b6 n6 p6, .slice b7 n7 p7] 68) := ⟨_, rfl⟩
  have hb0 : Below w.heap.size w W0 := by rw [hW0]; exact below_alloc1 _ _
  have hb1 : Below w.heap.size w W1 := by rw [hW1]; exact hb0.alloc hb0.size _
  have hbx : PkBox nb (.slice (some ⟨b, off, none⟩) n cap) pw #[.string x0, .int .i64 x1, .slice b2 n2 p2, .slice b3 m3 p3, .slice b4 n4 p4, .slice b5 n5 p5, .slice b6 n6 p6, .slice b7 n7 p7] W1 := by rw [hW1, hW0, hnb]; exact pkbox_new _ _ _ _
  have hs0 : nb + 1 = W0.heap.size := by rw [hW0, hnb]; simp
  have hbx0 : W0.heap[nb]? = some (.cells #[.slice (some ⟨b, off, none⟩) n cap, pw] 52 (0, 0)) := by rw [hW0, hnb]; exact heap_alloc_new _ _
  have c0 := cells_at hbx0 0
  simp only [List.getElem?_toArray, List.getElem?_cons_zero] at c0
  clear hbx0
  have e0 := cell_later hb0 hc0
  have e1 := cell_later hb0 hc1
  have e2 := cell_later hb0 hc2
  have e3 := cell_later hb0 hc3
  have e4 := cell_later hb0 hc4
  have e5 := cell_later hb0 hc5
  have e6 := cell_later hb0 hc6
  have e7 := cell_later hb0 hc7
  have hI1 := hI W1 hb1
  clear hc0 hc1 hc2 hc3 hc4 hc5 hc6 hc7
  have Hh := Lib.hid h; have Hg := Lib.hid g; have Hpk := Lib.hid hpk; have Hp := Lib.hid hp; have Hx := Lib.hid hx; have Hsm := Lib.hid hsm; have HI := Lib.hid hI; have HP := Lib.hid hP; have Hg2 := Lib.hid g2; have Hxr := Lib.hid hxr; have Hvsm := Lib.hid hvsm; have HTv := Lib.hid hTv; have HTp := Lib.hid hTp; have HTf := Lib.hid hTf; have HMy := Lib.hid hMy; have Hx0 := Lib.hid hx0; have Hx1 := Lib.hid hx1; have Hn2 := Lib.hid hn2; have Hn4 := Lib.hid hn4; have Hn5 := Lib.hid hn5; have Hn6 := Lib.hid hn6; have Hn7 := Lib.hid hn7; have Htp := Lib.hid htp; have Htf := Lib.hid htf; have Hmy := Lib.hid hmy; have Htv := Lib.hid htv; have Hi := Lib.hid hi; have Hm := Lib.hid hm; have Hr := Lib.hid hr; have Hvs := Lib.hid hvs; have Hn := Lib.hid hn; have Hvl := Lib.hid hvl; have Hb0 := Lib.hid hb0; have Hb1 := Lib.hid hb1; have Hbx := Lib.hid hbx; have HI1 := Lib.hid hI1; clear h g hpk hp hx hsm hI hP g2 hxr hvsm hTv hTp hTf hMy hx0 hx1 hn2 hn4 hn5 hn6 hn7 htp htf hmy htv hi hm hr hvs hn hvl hb0 hb1 hbx hI1
  go_enter Try.func84, Try.ntmps84
  go_upto_region 1 with (fail)
  rw [← hW0, ← hnb]
  have HW0 := Lib.hid hW0; have Hnb := Lib.hid hnb; clear hW0 hnb
  go_upto_region 2 with (fail)
  rw [← hs0, ← hW1]
  have HW1 := Lib.hid hW1; have Hs0 := Lib.hid hs0; clear hW1 hs0
  clear c0 e0 e1 e2 e3 e4 e5 e6 e7
  obtain ⟨c0, c1, d0, d1, d2, d3, d4, d5, d6, d7⟩ := Hbx.out.cells
  go_wp2_with fail
  refine HI1.out.mono ?_
  rintro e w1 ⟨rfl, hbn⟩
  have hb2 := Hb1.out.trans (hbn.mono Hb1.out.size)
  have hbx2 := Hbx.out.below hbn
  clear c0 c1 d0 d1 d2 d3 d4 d5 d6 d7
  obtain ⟨c0, c1, d0, d1, d2, d3, d4, d5, d6, d7⟩ := hbx2.cells
  have hr1 := Hpk.out
  unfold packX at hr1
  have Hbn := Lib.hid hbn; have Hb2 := Lib.hid hb2; have Hbx2 := Lib.hid hbx2; clear hbn hb2 hbx2
  by_cases q1 : i < (k : Int)
  · have k1 : (i != (k : Int)) = true := by simp; omega
    have hf : r = 2 := by rw [hr1, if_pos (by omega)]
    have Hf := Lib.hid hf; clear hf
    go_wp2_with fail
    go_ret
    exact ⟨by rw [Hf.out]; rfl, Hb2.out⟩
  have k1 : (i != (k : Int)) = false := by simp; omega
  rw [if_neg (by omega)] at hr1
  have hP2 := HP.out w1 Hb2.out
  have Hr1 := Lib.hid hr1; have HP2 := Lib.hid hP2; clear hr1 hP2
  go_wp2_with fail
  refine HP2.out.mono ?_
  rintro e w2 ⟨o, rfl, ho, hbn⟩
  obtain ⟨oa, oc, rfl⟩ := own_shape ho
  have hb3 := Hb2.out.trans (hbn.mono Hb2.out.size)
  have hbx3 := Hbx2.out.below hbn
  clear c0 c1 d0 d1 d2 d3 d4 d5 d6 d7 k1 q1 hle
  obtain ⟨c0, c1, d0, d1, d2, d3, d4, d5, d6, d7⟩ := hbx3.cells
  have hr1 := Hr1.out
  have Ho := Lib.hid ho; have Hbn := Lib.hid hbn; have Hb3 := Lib.hid hb3; have Hbx3 := Lib.hid hbx3; clear ho hbn hb3 hbx3
  by_cases q2 : 0 < m
  · have k2 : decide ((0 : Int) < (m : Int)) = true := by rw [decide_eq_true_eq]; omega
    have hf : r = 3 := by rw [hr1, if_pos q2]
    have Hf := Lib.hid hf; clear hf
    go_wp2_with fail
    go_ret
    exact ⟨by rw [Hf.out]; rfl, Hb3.out⟩
  have k2 : decide ((0 : Int) < (m : Int)) = false := by rw [decide_eq_false_iff_not]; omega
  rw [if_neg q2] at hr1
  by_cases q3 : n2 = 0
  · have k3 : ((n2 : Int) == 0) = true := by rw [q3]; rfl
    have hf : r = 4 := by rw [hr1, if_pos q3]
    have Hf := Lib.hid hf; clear hf
    go_wp2_with fail
    go_ret
    exact ⟨by rw [Hf.out]; rfl, Hb3.out⟩
  have k3 : ((n2 : Int) == 0) = false := by simp; omega
  rw [if_neg q3] at hr1
  by_cases q10 : 10 < n2
  · have k10 : decide ((10 : Int) < (n2 : Int)) = true := by simp; omega
    have hf : r = 1 := by rw [hr1, if_pos q10]
    have Hf := Lib.hid hf; clear hf
    go_wp2_with fail
    go_ret
    exact ⟨by rw [Hf.out]; rfl, Hb3.out⟩
  have k10 : decide ((10 : Int) < (n2 : Int)) = false := by simp; omega
  rw [if_neg q10] at hr1
  by_cases q11 : 16 < n5
  · have k11 : decide ((16 : Int) < (n5 : Int)) = true := by simp; omega
    have hf : r = 1 := by rw [hr1, if_pos q11]
    have Hf := Lib.hid hf; clear hf
    go_wp2_with fail
    go_ret
    exact ⟨by rw [Hf.out]; rfl, Hb3.out⟩
  have k11 : decide ((16 : Int) < (n5 : Int)) = false := by simp; omega
  rw [if_neg q11] at hr1
  by_cases q12 : 8 < n6
  · have k12 : decide ((8 : Int) < (n6 : Int)) = true := by simp; omega
    have hf : r = 1 := by rw [hr1, if_pos q12]
    have Hf := Lib.hid hf; clear hf
    go_wp2_with fail
    go_ret
    exact ⟨by rw [Hf.out]; rfl, Hb3.out⟩
  have k12 : decide ((8 : Int) < (n6 : Int)) = false := by simp; omega
  rw [if_neg q12] at hr1
  by_cases q13 : 4 < n4
  · have k13 : decide ((4 : Int) < (n4 : Int)) = true := by simp; omega
    have hf : r = 1 := by rw [hr1, if_pos q13]
    have Hf := Lib.hid hf; clear hf
    go_wp2_with fail
    go_ret
    exact ⟨by rw [Hf.out]; rfl, Hb3.out⟩
  have k13 : decide ((4 : Int) < (n4 : Int)) = false := by simp; omega
  rw [if_neg q13] at hr1
  by_cases q14 : 8 < n7
  · have k14 : decide ((8 : Int) < (n7 : Int)) = true := by simp; omega
    have hf : r = 1 := by rw [hr1, if_pos q14]
    have Hf := Lib.hid hf; clear hf
    go_wp2_with fail
    go_ret
    exact ⟨by rw [Hf.out]; rfl, Hb3.out⟩
  have k14 : decide ((8 : Int) < (n7 : Int)) = false := by simp; omega
  rw [if_neg q14] at hr1
  have hl0 : (w2.alloc (.cells #[] 9)).ownsRow w.heap.size 9 1 (.slice (some ⟨w2.heap.size, 0, none⟩) 0 0) 0 [] := World.ownsRow_lit (base := w.heap.size) (e := 9) (size := 1) w2 #[] 0 Hb3.out.size (by decide) rfl
  have hb4 : Below w.heap.size w (w2.alloc (.cells #[] 9)) := Hb3.out.alloc Hb3.out.size _
  have hbx4 := Hbx3.out.below (below_alloc1 w2 (.cells #[] 9))
  obtain ⟨_, _, _, _, f2, _, _, _, _, _⟩ := hbx4.cells
  have hn10 : n2 ≤ 10 := by omega
  have Hr1 := Lib.hid hr1; have Hl0 := Lib.hid hl0; have Hb4 := Lib.hid hb4; have Hbx4 := Lib.hid hbx4; clear hr1 hl0 hb4 hbx4
  go_wp2_with fail
  clear k2 k3 k10 k11 k12 k13 k14 c0 c1 d0 d1 d2 d3 d4 d5 d6 d7 f2
  go_loopw [6, 61] (fun o i wr => ∃ j : Nat, j ≤ n2 ∧ i = .int .i64 j ∧ wr.ownsRow w.heap.size 9 1 o (vsOf xr j).length ((vsOf xr j).map strv) ∧ Below w.heap.size w wr ∧ PkBox nb (.slice (some ⟨b, off, none⟩) n cap) pw #[.string x0, .int .i64 x1, .slice b2 n2 p2, .slice b3 m3 p3, .slice b4 n4 p4, .slice b5 n5 p5, .slice b6 n6 p6, .slice b7 n7 p7] wr) (fun _ i _ => n2 - (intOf i).toNat)
  case atStart => exact ⟨0, Nat.zero_le _, rfl, Hl0.out, Hb4.out, Hbx4.out⟩
  case round =>
    obtain ⟨j, hj, rfl, ho, hb, hbox⟩ := hrel
    obtain ⟨oa9, oc9, rfl⟩ := own_shape ho
    obtain ⟨c0, c1, d0, d1, d2, d3, d4, d5, d6, d7⟩ := hbox.cells
    have hB := hb.size
    have hpl : (vsOf xr j).length ≤ j := Nat.le_of_eq (vsOf_len (by have := Hn2.out; omega))
    obtain ⟨m9, hm9⟩ : ∃ m, m = (vsOf xr j).length := ⟨_, rfl⟩
    rw [← hm9] at ho hpl ⊢
    by_cases hlt : j < n2
    · have hkl : j < xr.length := by have := Hn2.out; omega
      obtain ⟨rb, roff, rfl, y0, y1, hs1⟩ := Hg2.out j _ (List.getElem?_eq_getElem hkl)
      have hps := vsOf_succ hkl
      obtain ⟨y, hy⟩ : ∃ x, x = xr[j] := ⟨_, rfl⟩
      rw [← hy] at y0 y1 hps
      obtain ⟨s, hs⟩ : ∃ s, s = y.1 := ⟨_, rfl⟩
      rw [← hs] at y0 hps
      have e0 := cell_later hb y0
      have k7 : (0 : Int) ≤ (j : Int) := by omega
      have k8 : (j : Int) < (n2 : Int) := by omega
      clear hy y0 y1 hs1
      have Ho := Lib.hid ho; have Hb := Lib.hid hb; have Hbox := Lib.hid hbox; have Hps := Lib.hid hps; have Hm9 := Lib.hid hm9; have Hs := Lib.hid hs; clear ho hb hbox hps hm9 hs
      go_wp2_with (at_builtin; (refine wpList_append_some elem_str rfl (.tmp 64) (.tmp 71) rfl w.heap.size (.slice oa9 m9 oc9) m9 _ rfl Ho.out 1 (by decide) #[.string s] rfl rfl (by simp [Value.oneCell']) (by omega) (by unfold maxLen; omega) hB ?_; intro g8 c8 w8 hown8 hg8 hm8))
      have hbel8 := bel_own Hb.out Ho.out (Nat.le_refl _) hg8 hB
      have hown9 : w8.ownsRow w.heap.size 9 1 (.slice (some ⟨g8, 0, none⟩) (m9 + 1) c8) (vsOf xr (j + 1)).length ((vsOf xr (j + 1)).map strv) := by
        rw [Hps.out, List.map_append, List.length_append, ← Hm9.out]; exact hown8
      have hbox8 : PkBox nb (.slice (some ⟨b, off, none⟩) n cap) pw #[.string x0, .int .i64 x1, .slice (some ⟨rb, roff, none⟩) n2 p2, .slice b3 m3 p3, .slice b4 n4 p4, .slice b5 n5 p5, .slice b6 n6 p6, .slice b7 n7 p7] w8 := ⟨keepT_grown hg8 Ho.out (by decide) _ _ _ Hbox.out.r, keepT_grown hg8 Ho.out (by decide) _ _ _ Hbox.out.p⟩
      have Hown8 := Lib.hid hown8; have Hg8 := Lib.hid hg8; have Hbel8 := Lib.hid hbel8; have Hown9 := Lib.hid hown9; have Hbox8 := Lib.hid hbox8; clear hown8 hg8 hbel8 hown9 hbox8
      clear hm8
      go_wp2_with fail
      go_roundw
      case rel => exact ⟨j + 1, by omega, by go_num, Hown9.out, Hbel8.out, Hbox8.out⟩
      case measure => simp [intOf]; omega
    · obtain rfl : n2 = j := by omega
      have hvv : vsOf xr n2 = vs := by rw [Hvs.out, Hn2.out]
      rw [hvv] at ho hm9
      rw [hm9] at ho ⊢
      have hT3 := HTv.out _ _ _ ho
      rw [Hvl.out] at hT3 ho ⊢
      have Ho := Lib.hid ho; have Hb := Lib.hid hb; have Hbox := Lib.hid hbox; have Hm9 := Lib.hid hm9; have Hvv := Lib.hid hvv; have HT3 := Lib.hid hT3; clear ho hb hbox hm9 hvv hT3
      go_wp2_with fail
      refine HT3.out.mono ?_
      rintro e w4 ⟨rfl, q9, rfl⟩
      have hb4 := bel_drewN Hb.out q9
      have Hb4 := Lib.hid hb4; clear hb4
      have hr1 := Hr1.out
      cases tv with
      | true =>
        have hf : r = 5 := by rw [hr1, if_pos rfl]
        have Hf := Lib.hid hf; clear hf
        go_wp2_with fail
        go_ret
        exact ⟨by rw [Hf.out]; rfl, Hb4.out⟩
      | false =>
        rw [if_neg (by simp)] at hr1
        have hM4 := HMy.out _ Hb4.out
        have Hr1 := Lib.hid hr1; have HM4 := Lib.hid hM4; clear hr1 hM4
        go_wp2_with fail
        refine HM4.out.mono ?_
        rintro e w5 ⟨rfl, q8, rfl⟩
        have hb5 := bel_drewN Hb.out (q9 + q8)
        have hr1 := Hr1.out
        have Hb5 := Lib.hid hb5; clear hb5
        cases my with
        | false =>
          have hf : r = 6 := by rw [hr1, if_pos rfl]
          have Hf := Lib.hid hf; clear hf
          go_wp2_with fail
          go_ret
          exact ⟨by rw [Hf.out]; rfl, Hb5.out⟩
        | true =>
          rw [if_neg (by simp)] at hr1
          have hT5 := HTp.out _ Hb5.out
          have HT5 := Lib.hid hT5; clear hT5
          go_wp2_with fail
          refine HT5.out.mono ?_
          rintro e w6 ⟨rfl, q7, rfl⟩
          have hb6 := bel_drewN Hb.out (q9 + q8 + q7)
          have hT6 := HTf.out _ hb6
          have HT6 := Lib.hid hT6; have Hb6 := Lib.hid hb6; clear hT6 hb6
          cases tp with
          | true =>
            have hf : r = 5 := by rw [hr1, if_pos rfl]
            have Hf := Lib.hid hf; clear hf
            go_wp2_with fail
            go_ret
            exact ⟨by rw [Hf.out]; rfl, Hb6.out⟩
          | false =>
            rw [if_neg (by simp)] at hr1
            go_wp2_with fail
            refine HT6.out.mono ?_
            rintro e w6 ⟨rfl, q6, rfl⟩
            have hb7 := bel_drewN Hb.out (q9 + q8 + q7 + q6)
            have Hb7 := Lib.hid hb7; clear hb7
            cases tf with
            | true =>
              have hf : r = 5 := by rw [hr1, if_pos rfl]
              have Hf := Lib.hid hf; clear hf
              go_wp2_with fail
              go_ret
              exact ⟨by rw [Hf.out]; rfl, Hb7.out⟩
            | false =>
              have hf : r = 0 := by rw [hr1, if_neg (by simp)]
              have Hf := Lib.hid hf; clear hf
              go_wp2_with fail
              go_ret
              exact ⟨by rw [Hf.out]; rfl, Hb7.out⟩
end Go.Proofs.Ytnelgellbabkoaa

/- The problem of what a package depends on, and conflicts with; boxes. No condition. -/
namespace Go.Proofs.Ytnelgellbabkoaa
open Go.RowKit Go.Shelf
attribute [local go_sem ↓] Go.wp_at_zero Go.wp_at_succ

/-- the first element that is bad, and its line -/
def firstBad {α : Type} (f : α → Int) (ln : α → Int) (l : List α) : Option (Int × Int) := (l.find? fun x => f x != 0).map fun x => (f x, ln x)
theorem firstBad_at {α : Type} {f ln : α → Int} {l : List α} {k : Nat} (h : k < l.length) (hno : ∀ j (hj : j < l.length), j < k → f l[j] = 0) (hk : f l[k] ≠ 0) : firstBad f ln l = some (f l[k], ln l[k]) := by
  unfold firstBad
  have : l.find? (fun x => f x != 0) = some l[k] := by
    rw [List.find?_eq_some_iff_getElem]
    exact ⟨by simpa using hk, k, h, rfl, fun j hj => by simpa using hno j (by omega) hj⟩
  rw [this]; rfl
theorem firstBad_none {α : Type} {f ln : α → Int} {l : List α} (hno : ∀ j (hj : j < l.length), f l[j] = 0) : firstBad f ln l = none := by
  unfold firstBad
  have : l.find? (fun x => f x != 0) = none := by
    rw [List.find?_eq_none]
    intro x hx
    obtain ⟨j, hj, rfl⟩ := List.mem_iff_getElem.1 hx
    simpa using hno j hj
  rw [this]; rfl
theorem zero_succ {α : Type} {f : α → Int} {l : List α} {k : Nat} (hno : ∀ j (hj : j < l.length), j < k → f l[j] = 0) (hk : ∀ h : k < l.length, f l[k] = 0) : ∀ j (hj : j < l.length), j < k + 1 → f l[j] = 0 := fun j hj hjk => by
  by_cases e : j = k
  · subst e; exact hk hj
  · exact hno j hj (by omega)
def depX (l : List Pkg) (vs : List Var) (d : Dpd) : Int := if wishOf l d.1.1 d.1.2.1 d.1.2.2.1 = 0 then (if ofOf vs d.2.1.2.2.1 then 0 else 8) else wishOf l d.1.1 d.1.2.1 d.1.2.2.1
def cftX (l : List Pkg) (vs : List Var) (d : Dpd) : Int := if ofOf vs d.1.2.2.1 then (if d.2.1.1 = noText then 0 else if idxOf (named d.2.1.1) l < 0 then 7 else wishOf l d.2.1.1 d.2.1.2.1 d.2.1.2.2.1) else 8
def dLine (d : Dpd) : Int := d.2.2.1
/-- the problem of what a package depends on, and conflicts with -/
def rulesOf (l : List Pkg) (x : Pkg) : Int × Int :=
  (firstBad (depX l x.2.2.2.1) dLine x.2.2.2.2.2.1).getD ((firstBad (cftX l x.2.2.2.1) dLine x.2.2.2.2.2.2.1).getD (0, 0))
/-- the boxes of a recipe, a package and what is told -/
structure RlBox (B : Nat) (v u : Value) (cs : Array Value) (w : World) : Prop where
  pk : PkBox B v u cs w
  res : w.heap[B + 1 + 1]? = some (.cells #[.int .u8 0, .int .i64 0] 55 (0, 0))
theorem RlBox.below {B : Nat} {v u : Value} {cs : Array Value} {w w' : World} (h : RlBox B v u cs w) (hb : Below w.heap.size w w') : RlBox B v u cs w' := ⟨h.pk.below hb, heap_below hb h.res⟩
theorem rlbox_new (w : World) (v u : Value) (cs : Array Value) : RlBox w.heap.size v u cs (((w.alloc (.cells #[v, u] 52)).alloc (.cells cs 68)).alloc (.cells #[.int .u8 0, .int .i64 0] 55)) :=
  ⟨(pkbox_new w v u cs).below (below_alloc1 _ _), heap_new_at (by simp)⟩
theorem dbox_cells {D : Nat} {t : TypeId} {q0 q1 q2 q3 q4 q5 q6 : Value} {w : World} (h : w.heap[D]? = some (.cells #[q0, q1, q2, q3, q4, q5, q6] t (0, 0))) :
    w.cell? ⟨D, 0, none⟩ = some q0 ∧ w.cell? ⟨D, 1, none⟩ = some q1 ∧ w.cell? ⟨D, 2, none⟩ = some q2 ∧ w.cell? ⟨D, 3, none⟩ = some q3 ∧ w.cell? ⟨D, 4, none⟩ = some q4 ∧ w.cell? ⟨D, 5, none⟩ = some q5 ∧ w.cell? ⟨D, 6, none⟩ = some q6 := by
  have b0 := cells_at h 0
  have b1 := cells_at h 1
  have b2 := cells_at h 2
  have b3 := cells_at h 3
  have b4 := cells_at h 4
  have b5 := cells_at h 5
  have b6 := cells_at h 6
  simp only [List.getElem?_toArray, List.getElem?_cons_zero, List.getElem?_cons_succ] at b0 b1 b2 b3 b4 b5 b6
  exact ⟨b0, b1, b2, b3, b4, b5, b6⟩
theorem bodyPost_prob {fn : Func} {p : Tmp} (hres : fn.results = #[.cell p 55]) {R : Ending → World → Prop} {a : Act} {w : World} {g : Nat} {c ln : Int} (hp : a.tmps.getD p undef = .pointer (some ⟨g, 0, none⟩)) (hg : w.heap[g]? = some (.cells #[.int .u8 c, .int .i64 ln] 55 (0, 0))) (hd : a.defers = []) (hR : R (.returned (.agg #[.int .u8 c, .int .i64 ln])) w) : bodyPost Try.prog fn R .ret a w :=
  bodyPost_ret (results_cell_row hres a.tmps w g _ _ _ _ hp hg Try.underlying55 rfl (by kernel_rfl)) hd hR
theorem prob_set {w : World} {g : Nat} {x y : Value} (u v : Value) (h : w.heap[g]? = some (.cells #[x, y] 55 (0, 0))) : ((w.setCell ⟨g, 0, none⟩ u).setCell ⟨g, 1, none⟩ v).heap[g]? = some (.cells #[u, v] 55 (0, 0)) := by
  have k0 := heap_setCell_same _ g 0 _ _ u h
  have k1 := heap_setCell_same _ g 1 _ _ v k0
  exact k1
theorem prob_bel {B : Nat} {a w : World} {g : Nat} (u v : Value) (h : Below B a w) (hg : B ≤ g) : Below B a ((w.setCell ⟨g, 0, none⟩ u).setCell ⟨g, 1, none⟩ v) := (h.setCell (p := ⟨g, 0, none⟩) hg _).setCell (p := ⟨g, 1, none⟩) hg _
theorem prob_cells {w : World} {g : Nat} {x y : Value} (h : w.heap[g]? = some (.cells #[x, y] 55 (0, 0))) : w.cell? ⟨g, 0, none⟩ = some x ∧ w.cell? ⟨g, 1, none⟩ = some y ∧ w.frozen? ⟨g, 0, none⟩ = false ∧ w.frozen? ⟨g, 1, none⟩ = false := by
  have b0 := cells_at h 0
  have b1 := cells_at h 1
  simp only [List.getElem?_toArray, List.getElem?_cons_zero, List.getElem?_cons_succ] at b0 b1
  exact ⟨b0, b1, Lib.frozen_of_heap h 0, Lib.frozen_of_heap h 1⟩
end Go.Proofs.Ytnelgellbabkoaa

/- The walk of check.rules. Condition: few packages. -/
namespace Go.Proofs.Ytnelgellbabkoaa
open Go.RowKit Go.Shelf
attribute [local go_sem ↓] Go.wp_at_zero Go.wp_at_succ

set_option maxRecDepth 10000 in
set_option maxHeartbeats 16000000 in
theorem rules_any {w : World} {v pw q0 q1 q2 q4 q7 u3 u5 u6 : Value} {l : List Pkg} {vs : List Var} {ds cs : List Dpd} (h : RSlice 8 RPkg w [v] l) (hl : l.length ≤ 1000000) (hvs : RVars w [u3] vs) (hds : RSlice 7 RDpd w [u5] ds) (hcs : RSlice 7 RDpd w [u6] cs) (r : Int × Int) (hr : r = (firstBad (depX l vs) dLine ds).getD ((firstBad (cftX l vs) dLine cs).getD (0, 0))) : Calls Try.prog 82 #[.agg #[v, pw], .agg #[q0, q1, q2, u3, q4, u5, u6, q7]] w fun e w' => e = .returned (.agg #[.int .u8 r.1, .int .i64 r.2]) ∧ Below w.heap.size w w' := by
  have hWs := fun (W : World) (hb : Below w.heap.size w W) (s : ByteArray) (u1 u2 : Value) (sp : List Spn) (st : List Setg) (h1 : RSlice 2 RSpn W [u1] sp) (h2 : RSets W [u2] st) => wish_any (pw := pw) (nm := s) (stays_slice stays_pkg _ _ _ _ h hb) hl h1 h2
  have hOf := fun (W : World) (hb : Below w.heap.size w W) (u : Value) (st : List Setg) (h1 : RSets W [u] st) => of_any (v0 := q0) (v1 := q1) (v2 := q2) (v4 := q4) (v5 := u5) (v6 := u6) (v7 := q7) (stays_slice stays_var _ _ _ _ hvs hb) h1
  have hFi := fun (W : World) (hb : Below w.heap.size w W) (s : ByteArray) => find_any (pv := pw) (stays_slice stays_pkg _ _ _ _ h hb) s
  obtain ⟨a5, p5, rfl, z5, g5⟩ := dpds_open hds
  obtain ⟨a6, p6, rfl, z6, g6⟩ := dpds_open hcs
  obtain ⟨a, cap, rfl, hz, _⟩ := pkgs_open h
  obtain ⟨a3, m3, p3, rfl⟩ := slice_any_shape hvs
  obtain ⟨n, hn⟩ : ∃ n, n = l.length := ⟨_, rfl⟩
  obtain ⟨n5, hn5⟩ : ∃ n, n = ds.length := ⟨_, rfl⟩
  obtain ⟨n6, hn6⟩ : ∃ n, n = cs.length := ⟨_, rfl⟩
  rw [← hn] at hz h hl hWs hFi
  rw [← hn5] at z5 hds hOf
  rw [← hn6] at z6 hcs hOf
  rw [← hn, ← hn5, ← hn6]
  obtain ⟨nb, hnb⟩ : ∃ nb, nb = w.heap.size := ⟨_, rfl⟩
  obtain ⟨W0, hW0⟩ : ∃ W0, W0 = ((w.alloc (.cells #[.slice a n cap, pw] 52)).alloc (.cells #[q0, q1, q2, .slice a3 m3 p3, q4, .slice a5 n5 p5, .slice a6 n6 p6, q7] 68)).alloc (.cells #[.int .u8 0, .int .i64 0] 55) := ⟨_, rfl⟩
  have hb0 : Below w.heap.size w W0 := by rw [hW0]; exact ((below_alloc1 _ _).alloc (below_alloc1 _ _).size _).alloc ((below_alloc1 _ _).alloc (below_alloc1 _ _).size _).size _
  have hbx : RlBox nb (.slice a n cap) pw #[q0, q1, q2, .slice a3 m3 p3, q4, .slice a5 n5 p5, .slice a6 n6 p6, q7] W0 := by rw [hW0, hnb]; exact rlbox_new _ _ _ _
  obtain ⟨c0, c1, d0, d1, d2, d3, d4, d5, d6, d7⟩ := hbx.pk.cells
  have nb0 : w.heap.size ≤ nb := by omega
  have Hh := Lib.hid h; have Hvs := Lib.hid hvs; have Hds := Lib.hid hds; have Hcs := Lib.hid hcs; have Hr := Lib.hid hr; have HWs := Lib.hid hWs; have HOf := Lib.hid hOf; have HFi := Lib.hid hFi; have Hg5 := Lib.hid g5; have Hg6 := Lib.hid g6; have Hn := Lib.hid hn; have Hn5 := Lib.hid hn5; have Hn6 := Lib.hid hn6; have Hb0 := Lib.hid hb0; have Hbx := Lib.hid hbx; have Hnb0 := Lib.hid nb0; clear h hvs hds hcs hr hWs hOf hFi g5 g6 hn hn5 hn6 hb0 hbx nb0
  go_enter Try.func82, Try.ntmps82
  go_upto_region 1 with (fail)
  rw [← hW0, ← hnb]
  have HW0 := Lib.hid hW0; have Hnb := Lib.hid hnb; clear hW0 hnb
  go_wp2_with fail
  clear c0 c1 d0 d1 d2 d3 d4 d5 d6 d7
  go_loopw [14] (fun i wr => ∃ k : Nat, k ≤ n5 ∧ i = .int .i64 k ∧ (∀ j (hj : j < ds.length), j < k → depX l vs ds[j] = 0) ∧ Below W0.heap.size W0 wr) (fun i _ => n5 - (intOf i).toNat)
  case atStart => exact ⟨0, Nat.zero_le _, rfl, fun _ _ h => by omega, Below.refl _ _⟩
  case round =>
    obtain ⟨k, hk, rfl, hno, hb⟩ := hrel
    have hbw := Hb0.out.trans (hb.mono Hb0.out.size)
    have hbx1 := Hbx.out.below hb
    obtain ⟨x0, x1, x2, x3, x4, x5, x6, x7, x8, x9⟩ := hbx1.pk.cells
    by_cases hlt : k < n5
    · have hkl : k < ds.length := by have := Hn5.out; omega
      obtain ⟨b, off, u1, u2, u4, u5, rfl, hp⟩ := Hg5.out k _ (List.getElem?_eq_getElem hkl)
      have hbad := fun h => firstBad_at (ln := dLine) hkl hno h
      have hnx := fun (h : depX l vs ds[k] = 0) => zero_succ (k := k) hno (fun _ => h)
      have hdx : depX l vs ds[k] = if wishOf l ds[k].1.1 ds[k].1.2.1 ds[k].1.2.2.1 = 0 then (if ofOf vs ds[k].2.1.2.2.1 then 0 else 8) else wishOf l ds[k].1.1 ds[k].1.2.1 ds[k].1.2.2.1 := rfl

      obtain ⟨y, hy⟩ : ∃ y, y = ds[k] := ⟨_, rfl⟩
      rw [← hy] at hp hdx hbad hnx
      obtain ⟨b1, m1, p1, rfl⟩ := slice_any_shape hp.r1
      obtain ⟨b2, m2, p2, rfl⟩ := slice_any_shape hp.r2
      obtain ⟨b4, m4, p4, rfl⟩ := slice_any_shape hp.r4
      obtain ⟨b5, m5, p5, rfl⟩ := slice_any_shape hp.r5
      have e0 := cell_later hbw hp.c0
      have e1 := cell_later hbw hp.c1
      have e2 := cell_later hbw hp.c2
      have e3 := cell_later hbw hp.c3
      have e4 := cell_later hbw hp.c4
      have e5 := cell_later hbw hp.c5
      have e6 := cell_later hbw hp.c6
      obtain ⟨s0, hs0⟩ : ∃ s, s = y.1.1 := ⟨_, rfl⟩
      obtain ⟨s3, hs3⟩ : ∃ s, s = y.2.1.1 := ⟨_, rfl⟩
      obtain ⟨ln, hln⟩ : ∃ s, s = y.2.2.1 := ⟨_, rfl⟩
      rw [← hs0] at e0
      rw [← hs3] at e3
      rw [← hln] at e6
      obtain ⟨W1, hW1⟩ : ∃ W1, W1 = wr.alloc (.cells #[.string s0, .slice b1 m1 p1, .slice b2 m2 p2, .string s3, .slice b4 m4 p4, .slice b5 m5 p5, .int .i64 ln] 127) := ⟨_, rfl⟩
      have hbn : Below wr.heap.size wr W1 := by rw [hW1]; exact below_alloc1 _ _
      have hb1 := hbw.trans (hbn.mono hbw.size)
      have hbr1 := hb.trans (hbn.mono hb.size)
      have hbx1 := hbx1.below hbn
      obtain ⟨D, hD⟩ : ∃ D, D = wr.heap.size := ⟨_, rfl⟩
      have hdb1 : W1.heap[D]? = some (.cells #[.string s0, .slice b1 m1 p1, .slice b2 m2 p2, .string s3, .slice b4 m4 p4, .slice b5 m5 p5, .int .i64 ln] 127 (0, 0)) := by rw [hW1, hD]; exact heap_alloc_new _ _
      obtain ⟨f0, f1, f2, f3, f4, f5, f6⟩ := dbox_cells hdb1
      obtain ⟨c0, c1, d0, d1, d2, d3, d4, d5, d6, d7⟩ := hbx1.pk.cells
      have hR1 := fun (W : World) (hb : Below w.heap.size w W) => stays_slice stays_spn _ _ _ _ hp.r1 hb
      have hR2 := fun (W : World) (hb : Below w.heap.size w W) => stays_slice stays_set _ _ _ _ hp.r2 hb
      have hR4 := fun (W : World) (hb : Below w.heap.size w W) => stays_slice stays_spn _ _ _ _ hp.r4 hb
      have hR5 := fun (W : World) (hb : Below w.heap.size w W) => stays_slice stays_set _ _ _ _ hp.r5 hb
      have k5 : (0 : Int) ≤ (k : Int) := by omega
      have k6 : (k : Int) < (n5 : Int) := by omega
      have hC := HWs.out W1 hb1 s0 _ _ y.1.2.1 y.1.2.2.1 (hR1 _ hb1) (hR2 _ hb1)
      have hO := fun (W : World) (hb : Below w.heap.size w W) => HOf.out W hb _ y.2.1.2.2.1 (hR5 _ hb)
      obtain ⟨c, hc⟩ : ∃ c, c = wishOf l s0 y.1.2.1 y.1.2.2.1 := ⟨_, rfl⟩
      obtain ⟨ob, hob⟩ : ∃ c, c = ofOf vs y.2.1.2.2.1 := ⟨_, rfl⟩
      rw [← hc] at hC
      rw [← hob] at hO hdx
      rw [← hs0, ← hc] at hdx
      have Hno := Lib.hid hno; have Hb := Lib.hid hb; have Hbw := Lib.hid hbw; have Hp := Lib.hid hp; have Hbad := Lib.hid hbad; have Hnx := Lib.hid hnx; have Hdx := Lib.hid hdx; have Hy := Lib.hid hy; have Hs0 := Lib.hid hs0; have Hs3 := Lib.hid hs3; have Hln := Lib.hid hln; have Hbn := Lib.hid hbn; have Hb1 := Lib.hid hb1; have Hbr1 := Lib.hid hbr1; have Hbx1 := Lib.hid hbx1; have Hdb1 := Lib.hid hdb1; have HC := Lib.hid hC; have HO := Lib.hid hO; have Hc := Lib.hid hc; have Hob := Lib.hid hob; have HR1 := Lib.hid hR1; have HR2 := Lib.hid hR2; have HR4 := Lib.hid hR4; have HR5 := Lib.hid hR5; clear hno hb hbw hp hbad hnx hdx hy hs0 hs3 hln hbn hb1 hbr1 hbx1 hdb1 hC hO hc hob hR1 hR2 hR4 hR5
      go_upto_region 4 with (fail)
      rw [← hW1, ← hD]
      have HW1 := Lib.hid hW1; have HD := Lib.hid hD; clear hW1 hD
      clear e0 e1 e2 e3 e4 e5 e6 x0 x1 x2 x3 x4 x5 x6 x7 x8 x9
      by_cases hc0 : c = 0
      · have k7 : (c != 0) = false := by simp [hc0]
        have k8 : (c == 0) = true := by simp [hc0]
        go_wp2_with fail
        refine HC.out.mono ?_
        rintro e w3 ⟨rfl, hbm⟩
        have hb2 := Hb1.out.trans (hbm.mono Hb1.out.size)
        have hbr2 := Hbr1.out.trans (hbm.mono Hbr1.out.size)
        have hbx2 := Hbx1.out.below hbm
        have hdb2 := heap_below hbm Hdb1.out
        clear c0 c1 d0 d1 d2 d3 d4 d5 d6 d7 f0 f1 f2 f3 f4 f5 f6
        obtain ⟨c0, c1, d0, d1, d2, d3, d4, d5, d6, d7⟩ := hbx2.pk.cells
        obtain ⟨f0, f1, f2, f3, f4, f5, f6⟩ := dbox_cells hdb2
        have Hbm := Lib.hid hbm; have Hb2 := Lib.hid hb2; have Hbr2 := Lib.hid hbr2; have Hbx2 := Lib.hid hbx2; have Hdb2 := Lib.hid hdb2; clear hbm hb2 hbr2 hbx2 hdb2
        have hO3 := HO.out w3 Hb2.out
        have HO3 := Lib.hid hO3; clear hO3
        go_wp2_with fail
        refine HO3.out.mono ?_
        rintro e w4 ⟨rfl, hbm⟩
        have hb3 := Hb2.out.trans (hbm.mono Hb2.out.size)
        have hbr3 := Hbr2.out.trans (hbm.mono Hbr2.out.size)
        have hbx3 := Hbx2.out.below hbm
        have hdb3 := heap_below hbm Hdb2.out
        clear c0 c1 d0 d1 d2 d3 d4 d5 d6 d7 f0 f1 f2 f3 f4 f5 f6
        obtain ⟨c0, c1, d0, d1, d2, d3, d4, d5, d6, d7⟩ := hbx3.pk.cells
        obtain ⟨f0, f1, f2, f3, f4, f5, f6⟩ := dbox_cells hdb3
        have Hbm := Lib.hid hbm; have Hb3 := Lib.hid hb3; have Hbr3 := Lib.hid hbr3; have Hbx3 := Lib.hid hbx3; have Hdb3 := Lib.hid hdb3; clear hbm hb3 hbr3 hbx3 hdb3
        cases ob with
        | false =>
          have hdv : depX l vs y = 8 := by rw [Hdx.out, if_pos hc0]; rfl
          have hf : r = (8, ln) := by rw [Hr.out, Hbad.out (by rw [hdv]; decide), hdv, Hln.out]; rfl
          clear hdv
          have hres := Hbx3.out.res
          obtain ⟨y0, y1, y2, y3⟩ := prob_cells hres
          have Hres := Lib.hid hres; have Hf := Lib.hid hf; clear hres hf
          go_wp2_with fail
          (try simp only [Exit.inBlock, Exit.then])
          refine bodyPost_prob (g := nb + 1 + 1) rfl (by simp) (prob_set _ _ Hres.out) rfl ?_
          exact ⟨by rw [Hf.out], prob_bel _ _ Hb3.out (by have := Hnb0.out; omega)⟩
        | true =>
          have hnz := Hnx.out (by rw [Hdx.out, if_pos hc0]; rfl)
          have Hnz := Lib.hid hnz; clear hnz
          go_wp2_with fail
          go_roundw
          case rel => exact ⟨k + 1, by omega, by go_num, Hnz.out, Hbr3.out⟩
          case measure => simp [intOf]; omega
      · have k7 : (c != 0) = true := by simp [hc0]
        have k8 : (c == 0) = false := by simp [hc0]
        go_wp2_with fail
        refine HC.out.mono ?_
        rintro e w3 ⟨rfl, hbm⟩
        have hb2 := Hb1.out.trans (hbm.mono Hb1.out.size)
        have hbr2 := Hbr1.out.trans (hbm.mono Hbr1.out.size)
        have hbx2 := Hbx1.out.below hbm
        have hdb2 := heap_below hbm Hdb1.out
        clear c0 c1 d0 d1 d2 d3 d4 d5 d6 d7 f0 f1 f2 f3 f4 f5 f6
        obtain ⟨c0, c1, d0, d1, d2, d3, d4, d5, d6, d7⟩ := hbx2.pk.cells
        obtain ⟨f0, f1, f2, f3, f4, f5, f6⟩ := dbox_cells hdb2
        have Hbm := Lib.hid hbm; have Hb2 := Lib.hid hb2; have Hbr2 := Lib.hid hbr2; have Hbx2 := Lib.hid hbx2; have Hdb2 := Lib.hid hdb2; clear hbm hb2 hbr2 hbx2 hdb2
        have hf : r = (c, ln) := by rw [Hr.out, Hbad.out (by rw [Hdx.out, if_neg hc0]; exact hc0), Hdx.out, if_neg hc0, Hln.out]; rfl
        have hres := Hbx2.out.res
        obtain ⟨y0, y1, y2, y3⟩ := prob_cells hres
        have Hres := Lib.hid hres; have Hf := Lib.hid hf; clear hres hf
        go_wp2_with fail
        (try simp only [Exit.inBlock, Exit.then])
        refine bodyPost_prob (g := nb + 1 + 1) rfl (by simp) (prob_set _ _ Hres.out) rfl ?_
        exact ⟨by rw [Hf.out], prob_bel _ _ Hb2.out (by have := Hnb0.out; omega)⟩
    · obtain rfl : n5 = k := by omega
      have hfir : firstBad (depX l vs) dLine ds = none := firstBad_none (fun j hj => hno j hj (by have := Hn5.out; omega))
      have Hfir := Lib.hid hfir; have Hno := Lib.hid hno; have Hb := Lib.hid hb; have Hbw := Lib.hid hbw; have Hbx1 := Lib.hid hbx1; clear hfir hno hb hbw hbx1
      go_wp2_with fail
      clear x0 x1 x2 x3 x4 x5 x6 x7 x8 x9
      go_loopw [41] (fun i wr => ∃ k : Nat, k ≤ n6 ∧ i = .int .i64 k ∧ (∀ j (hj : j < cs.length), j < k → cftX l vs cs[j] = 0) ∧ Below W0.heap.size W0 wr) (fun i _ => n6 - (intOf i).toNat)
      case atStart => exact ⟨0, Nat.zero_le _, rfl, fun _ _ h => by omega, Hb.out⟩
      case round =>
        obtain ⟨k, hk, rfl, hno, hb⟩ := hrel
        have hbw := Hb0.out.trans (hb.mono Hb0.out.size)
        have hbx1 := Hbx.out.below hb
        obtain ⟨x0, x1, x2, x3, x4, x5, x6, x7, x8, x9⟩ := hbx1.pk.cells
        by_cases hlt : k < n6
        · have hkl : k < cs.length := by have := Hn6.out; omega
          obtain ⟨b, off, u1, u2, u4, u5, rfl, hp⟩ := Hg6.out k _ (List.getElem?_eq_getElem hkl)
          have hbad := fun h => firstBad_at (ln := dLine) hkl hno h
          have hnx := fun (h : cftX l vs cs[k] = 0) => zero_succ (k := k) hno (fun _ => h)
          have hdx : cftX l vs cs[k] = if ofOf vs cs[k].1.2.2.1 then (if cs[k].2.1.1 = noText then 0 else if idxOf (named cs[k].2.1.1) l < 0 then 7 else wishOf l cs[k].2.1.1 cs[k].2.1.2.1 cs[k].2.1.2.2.1) else 8 := rfl

          obtain ⟨y, hy⟩ : ∃ y, y = cs[k] := ⟨_, rfl⟩
          rw [← hy] at hp hdx hbad hnx
          obtain ⟨b1, m1, p1, rfl⟩ := slice_any_shape hp.r1
          obtain ⟨b2, m2, p2, rfl⟩ := slice_any_shape hp.r2
          obtain ⟨b4, m4, p4, rfl⟩ := slice_any_shape hp.r4
          obtain ⟨b5, m5, p5, rfl⟩ := slice_any_shape hp.r5
          have e0 := cell_later hbw hp.c0
          have e1 := cell_later hbw hp.c1
          have e2 := cell_later hbw hp.c2
          have e3 := cell_later hbw hp.c3
          have e4 := cell_later hbw hp.c4
          have e5 := cell_later hbw hp.c5
          have e6 := cell_later hbw hp.c6
          obtain ⟨s0, hs0⟩ : ∃ s, s = y.1.1 := ⟨_, rfl⟩
          obtain ⟨s3, hs3⟩ : ∃ s, s = y.2.1.1 := ⟨_, rfl⟩
          obtain ⟨ln, hln⟩ : ∃ s, s = y.2.2.1 := ⟨_, rfl⟩
          rw [← hs0] at e0
          rw [← hs3] at e3
          rw [← hln] at e6
          obtain ⟨W1, hW1⟩ : ∃ W1, W1 = wr.alloc (.cells #[.string s0, .slice b1 m1 p1, .slice b2 m2 p2, .string s3, .slice b4 m4 p4, .slice b5 m5 p5, .int .i64 ln] 129) := ⟨_, rfl⟩
          have hbn : Below wr.heap.size wr W1 := by rw [hW1]; exact below_alloc1 _ _
          have hb1 := hbw.trans (hbn.mono hbw.size)
          have hbr1 := hb.trans (hbn.mono hb.size)
          have hbx1 := hbx1.below hbn
          obtain ⟨D, hD⟩ : ∃ D, D = wr.heap.size := ⟨_, rfl⟩
          have hdb1 : W1.heap[D]? = some (.cells #[.string s0, .slice b1 m1 p1, .slice b2 m2 p2, .string s3, .slice b4 m4 p4, .slice b5 m5 p5, .int .i64 ln] 129 (0, 0)) := by rw [hW1, hD]; exact heap_alloc_new _ _
          obtain ⟨f0, f1, f2, f3, f4, f5, f6⟩ := dbox_cells hdb1
          obtain ⟨c0, c1, d0, d1, d2, d3, d4, d5, d6, d7⟩ := hbx1.pk.cells
          have hR1 := fun (W : World) (hb : Below w.heap.size w W) => stays_slice stays_spn _ _ _ _ hp.r1 hb
          have hR2 := fun (W : World) (hb : Below w.heap.size w W) => stays_slice stays_set _ _ _ _ hp.r2 hb
          have hR4 := fun (W : World) (hb : Below w.heap.size w W) => stays_slice stays_spn _ _ _ _ hp.r4 hb
          have hR5 := fun (W : World) (hb : Below w.heap.size w W) => stays_slice stays_set _ _ _ _ hp.r5 hb
          have k5 : (0 : Int) ≤ (k : Int) := by omega
          have k6 : (k : Int) < (n6 : Int) := by omega
          have hO := fun (W : World) (hb : Below w.heap.size w W) => HOf.out W hb _ y.1.2.2.1 (hR2 _ hb)
          have hC := fun (W : World) (hb : Below w.heap.size w W) => HWs.out W hb s3 _ _ y.2.1.2.1 y.2.1.2.2.1 (hR4 _ hb) (hR5 _ hb)
          have hI := fun (W : World) (hb : Below w.heap.size w W) => HFi.out W hb s3
          obtain ⟨c, hc⟩ : ∃ c, c = wishOf l s3 y.2.1.2.1 y.2.1.2.2.1 := ⟨_, rfl⟩
          obtain ⟨ob, hob⟩ : ∃ c, c = ofOf vs y.1.2.2.1 := ⟨_, rfl⟩
          obtain ⟨i, hi⟩ : ∃ i, i = idxOf (named s3) l := ⟨_, rfl⟩
          rw [← hc] at hC
          rw [← hob] at hO
          rw [← hi] at hI
          rw [← hob, ← hs3, ← hc, ← hi] at hdx
          have em := empty_dec s3
          have Hno := Lib.hid hno; have Hb := Lib.hid hb; have Hbw := Lib.hid hbw; have Hp := Lib.hid hp; have Hbad := Lib.hid hbad; have Hnx := Lib.hid hnx; have Hdx := Lib.hid hdx; have Hy := Lib.hid hy; have Hs0 := Lib.hid hs0; have Hs3 := Lib.hid hs3; have Hln := Lib.hid hln; have Hbn := Lib.hid hbn; have Hb1 := Lib.hid hb1; have Hbr1 := Lib.hid hbr1; have Hbx1 := Lib.hid hbx1; have Hdb1 := Lib.hid hdb1; have HC := Lib.hid hC; have HO := Lib.hid hO; have Hc := Lib.hid hc; have Hob := Lib.hid hob; have HR1 := Lib.hid hR1; have HR2 := Lib.hid hR2; have HR4 := Lib.hid hR4; have HR5 := Lib.hid hR5; have HI := Lib.hid hI; have Hi := Lib.hid hi; have Hem := Lib.hid em; clear hno hb hbw hp hbad hnx hdx hy hs0 hs3 hln hbn hb1 hbr1 hbx1 hdb1 hC hO hc hob hR1 hR2 hR4 hR5 hI hi em
          go_upto_region 13 with (fail)
          rw [← hW1, ← hD]
          have HW1 := Lib.hid hW1; have HD := Lib.hid hD; clear hW1 hD
          clear e0 e1 e2 e3 e4 e5 e6 x0 x1 x2 x3 x4 x5 x6 x7 x8 x9
          have hO1 := HO.out W1 Hb1.out
          have HO1 := Lib.hid hO1; clear hO1
          cases ob with
          | false =>
            have hdv : cftX l vs y = 8 := by rw [Hdx.out]; rfl
            have Hdv := Lib.hid hdv; clear hdv
            go_wp2_with fail
            refine HO1.out.mono ?_
            rintro e w3 ⟨rfl, hbm⟩
            have hb2 := Hb1.out.trans (hbm.mono Hb1.out.size)
            have hbr2 := Hbr1.out.trans (hbm.mono Hbr1.out.size)
            have hbx2 := Hbx1.out.below hbm
            have hdb2 := heap_below hbm Hdb1.out
            clear c0 c1 d0 d1 d2 d3 d4 d5 d6 d7 f0 f1 f2 f3 f4 f5 f6
            obtain ⟨c0, c1, d0, d1, d2, d3, d4, d5, d6, d7⟩ := hbx2.pk.cells
            obtain ⟨f0, f1, f2, f3, f4, f5, f6⟩ := dbox_cells hdb2
            have Hbm := Lib.hid hbm; have Hb2 := Lib.hid hb2; have Hbr2 := Lib.hid hbr2; have Hbx2 := Lib.hid hbx2; have Hdb2 := Lib.hid hdb2; clear hbm hb2 hbr2 hbx2 hdb2
            have hdv := Hdv.out
            have hf : r = (8, ln) := by rw [Hr.out, Hfir.out, Hbad.out (by rw [hdv]; decide), hdv, Hln.out]; rfl
            clear hdv
            have hres := Hbx2.out.res
            obtain ⟨y0, y1, y2, y3⟩ := prob_cells hres
            have Hres := Lib.hid hres; have Hf := Lib.hid hf; clear hres hf
            go_wp2_with fail
            (try simp only [Exit.inBlock, Exit.then])
            refine bodyPost_prob (g := nb + 1 + 1) rfl (by simp) (prob_set _ _ Hres.out) rfl ?_
            exact ⟨by rw [Hf.out], prob_bel _ _ Hb2.out (by have := Hnb0.out; omega)⟩
          | true =>
            have hdx2 := Hdx.out
            rw [if_pos rfl] at hdx2
            by_cases hs3e : s3 = noText
            · have k7 : s3.toList.isEmpty = true := by rw [Hem.out, decide_eq_true hs3e]
              have hdv : cftX l vs y = 0 := by rw [hdx2, if_pos hs3e]
              clear hs3e
              have Hdx2 := Lib.hid hdx2; have Hdv := Lib.hid hdv; clear hdx2 hdv
              go_wp2_with fail
              refine HO1.out.mono ?_
              rintro e w3 ⟨rfl, hbm⟩
              have hb2 := Hb1.out.trans (hbm.mono Hb1.out.size)
              have hbr2 := Hbr1.out.trans (hbm.mono Hbr1.out.size)
              have hbx2 := Hbx1.out.below hbm
              have hdb2 := heap_below hbm Hdb1.out
              clear c0 c1 d0 d1 d2 d3 d4 d5 d6 d7 f0 f1 f2 f3 f4 f5 f6
              obtain ⟨c0, c1, d0, d1, d2, d3, d4, d5, d6, d7⟩ := hbx2.pk.cells
              obtain ⟨f0, f1, f2, f3, f4, f5, f6⟩ := dbox_cells hdb2
              have Hbm := Lib.hid hbm; have Hb2 := Lib.hid hb2; have Hbr2 := Lib.hid hbr2; have Hbx2 := Lib.hid hbx2; have Hdb2 := Lib.hid hdb2; clear hbm hb2 hbr2 hbx2 hdb2
              have hdv := Hdv.out
              have hnz := Hnx.out hdv
              have Hnz := Lib.hid hnz; have Hdv := Lib.hid hdv; clear hnz hdv
              go_wp2_with fail
              go_roundw
              case rel => exact ⟨k + 1, by omega, by go_num, Hnz.out, Hbr2.out⟩
              case measure => simp [intOf]; omega
            · have k7 : s3.toList.isEmpty = false := by rw [Hem.out, decide_eq_false hs3e]
              rw [if_neg hs3e] at hdx2
              clear hs3e
              have Hdx2 := Lib.hid hdx2; clear hdx2
              go_wp2_with fail
              refine HO1.out.mono ?_
              rintro e w3 ⟨rfl, hbm⟩
              have hb2 := Hb1.out.trans (hbm.mono Hb1.out.size)
              have hbr2 := Hbr1.out.trans (hbm.mono Hbr1.out.size)
              have hbx2 := Hbx1.out.below hbm
              have hdb2 := heap_below hbm Hdb1.out
              clear c0 c1 d0 d1 d2 d3 d4 d5 d6 d7 f0 f1 f2 f3 f4 f5 f6
              obtain ⟨c0, c1, d0, d1, d2, d3, d4, d5, d6, d7⟩ := hbx2.pk.cells
              obtain ⟨f0, f1, f2, f3, f4, f5, f6⟩ := dbox_cells hdb2
              have Hbm := Lib.hid hbm; have Hb2 := Lib.hid hb2; have Hbr2 := Lib.hid hbr2; have Hbx2 := Lib.hid hbx2; have Hdb2 := Lib.hid hdb2; clear hbm hb2 hbr2 hbx2 hdb2
              have hI2 := HI.out w3 Hb2.out
              have HI2 := Lib.hid hI2; clear hI2
              by_cases hneg : i < 0
              · have k8 : decide (i < 0) = true := decide_eq_true hneg
                have hdv : cftX l vs y = 7 := by rw [Hdx2.out, if_pos hneg]
                have Hdv := Lib.hid hdv; clear hdv
                go_wp2_with fail
                refine HI2.out.mono ?_
                rintro e w4 ⟨rfl, hbm⟩
                have hb3 := Hb2.out.trans (hbm.mono Hb2.out.size)
                have hbr3 := Hbr2.out.trans (hbm.mono Hbr2.out.size)
                have hbx3 := Hbx2.out.below hbm
                have hdb3 := heap_below hbm Hdb2.out
                clear c0 c1 d0 d1 d2 d3 d4 d5 d6 d7 f0 f1 f2 f3 f4 f5 f6
                obtain ⟨c0, c1, d0, d1, d2, d3, d4, d5, d6, d7⟩ := hbx3.pk.cells
                obtain ⟨f0, f1, f2, f3, f4, f5, f6⟩ := dbox_cells hdb3
                have Hbm := Lib.hid hbm; have Hb3 := Lib.hid hb3; have Hbr3 := Lib.hid hbr3; have Hbx3 := Lib.hid hbx3; have Hdb3 := Lib.hid hdb3; clear hbm hb3 hbr3 hbx3 hdb3
                have hdv := Hdv.out
                have hf : r = (7, ln) := by rw [Hr.out, Hfir.out, Hbad.out (by rw [hdv]; decide), hdv, Hln.out]; rfl
                clear hdv
                have hres := Hbx3.out.res
                obtain ⟨y0, y1, y2, y3⟩ := prob_cells hres
                have Hres := Lib.hid hres; have Hf := Lib.hid hf; clear hres hf
                go_wp2_with fail
                (try simp only [Exit.inBlock, Exit.then])
                refine bodyPost_prob (g := nb + 1 + 1) rfl (by simp) (prob_set _ _ Hres.out) rfl ?_
                exact ⟨by rw [Hf.out], prob_bel _ _ Hb3.out (by have := Hnb0.out; omega)⟩
              · have k8 : decide (i < 0) = false := decide_eq_false hneg
                have hdx3 := Hdx2.out
                rw [if_neg hneg] at hdx3
                have Hdx3 := Lib.hid hdx3; clear hdx3
                go_wp2_with fail
                refine HI2.out.mono ?_
                rintro e w4 ⟨rfl, hbm⟩
                have hb3 := Hb2.out.trans (hbm.mono Hb2.out.size)
                have hbr3 := Hbr2.out.trans (hbm.mono Hbr2.out.size)
                have hbx3 := Hbx2.out.below hbm
                have hdb3 := heap_below hbm Hdb2.out
                clear c0 c1 d0 d1 d2 d3 d4 d5 d6 d7 f0 f1 f2 f3 f4 f5 f6
                obtain ⟨c0, c1, d0, d1, d2, d3, d4, d5, d6, d7⟩ := hbx3.pk.cells
                obtain ⟨f0, f1, f2, f3, f4, f5, f6⟩ := dbox_cells hdb3
                have Hbm := Lib.hid hbm; have Hb3 := Lib.hid hb3; have Hbr3 := Lib.hid hbr3; have Hbx3 := Lib.hid hbx3; have Hdb3 := Lib.hid hdb3; clear hbm hb3 hbr3 hbx3 hdb3
                have hC3 := HC.out w4 Hb3.out
                have HC3 := Lib.hid hC3; clear hC3
                by_cases hc0 : c = 0
                · have k9 : (c != 0) = false := by simp [hc0]
                  have hdv : cftX l vs y = 0 := by rw [Hdx3.out, hc0]
                  have Hdv := Lib.hid hdv; clear hdv
                  go_wp2_with fail
                  refine HC3.out.mono ?_
                  rintro e w5 ⟨rfl, hbm⟩
                  have hb4 := Hb3.out.trans (hbm.mono Hb3.out.size)
                  have hbr4 := Hbr3.out.trans (hbm.mono Hbr3.out.size)
                  have hbx4 := Hbx3.out.below hbm
                  have hdb4 := heap_below hbm Hdb3.out
                  clear c0 c1 d0 d1 d2 d3 d4 d5 d6 d7 f0 f1 f2 f3 f4 f5 f6
                  obtain ⟨c0, c1, d0, d1, d2, d3, d4, d5, d6, d7⟩ := hbx4.pk.cells
                  obtain ⟨f0, f1, f2, f3, f4, f5, f6⟩ := dbox_cells hdb4
                  have Hbm := Lib.hid hbm; have Hb4 := Lib.hid hb4; have Hbr4 := Lib.hid hbr4; have Hbx4 := Lib.hid hbx4; have Hdb4 := Lib.hid hdb4; clear hbm hb4 hbr4 hbx4 hdb4
                  have hdv := Hdv.out
                  have hnz := Hnx.out hdv
                  have Hnz := Lib.hid hnz; have Hdv := Lib.hid hdv; clear hnz hdv
                  go_wp2_with fail
                  go_roundw
                  case rel => exact ⟨k + 1, by omega, by go_num, Hnz.out, Hbr4.out⟩
                  case measure => simp [intOf]; omega
                · have k9 : (c != 0) = true := by simp [hc0]
                  have hdv : cftX l vs y = c := Hdx3.out
                  have Hdv := Lib.hid hdv; clear hdv
                  go_wp2_with fail
                  refine HC3.out.mono ?_
                  rintro e w5 ⟨rfl, hbm⟩
                  have hb4 := Hb3.out.trans (hbm.mono Hb3.out.size)
                  have hbr4 := Hbr3.out.trans (hbm.mono Hbr3.out.size)
                  have hbx4 := Hbx3.out.below hbm
                  have hdb4 := heap_below hbm Hdb3.out
                  clear c0 c1 d0 d1 d2 d3 d4 d5 d6 d7 f0 f1 f2 f3 f4 f5 f6
                  obtain ⟨c0, c1, d0, d1, d2, d3, d4, d5, d6, d7⟩ := hbx4.pk.cells
                  obtain ⟨f0, f1, f2, f3, f4, f5, f6⟩ := dbox_cells hdb4
                  have Hbm := Lib.hid hbm; have Hb4 := Lib.hid hb4; have Hbr4 := Lib.hid hbr4; have Hbx4 := Lib.hid hbx4; have Hdb4 := Lib.hid hdb4; clear hbm hb4 hbr4 hbx4 hdb4
                  have hdv := Hdv.out
                  have hf : r = (c, ln) := by rw [Hr.out, Hfir.out, Hbad.out (by rw [hdv]; exact hc0), hdv, Hln.out]; rfl
                  clear hdv
                  have hres := Hbx4.out.res
                  obtain ⟨y0, y1, y2, y3⟩ := prob_cells hres
                  have Hres := Lib.hid hres; have Hf := Lib.hid hf; clear hres hf
                  go_wp2_with fail
                  (try simp only [Exit.inBlock, Exit.then])
                  refine bodyPost_prob (g := nb + 1 + 1) rfl (by simp) (prob_set _ _ Hres.out) rfl ?_
                  exact ⟨by rw [Hf.out], prob_bel _ _ Hb4.out (by have := Hnb0.out; omega)⟩
        · obtain rfl : n6 = k := by omega
          have hfi2 : firstBad (cftX l vs) dLine cs = none := firstBad_none (fun j hj => hno j hj (by have := Hn6.out; omega))
          have hf : r = (0, 0) := by rw [Hr.out, Hfir.out, hfi2]; rfl
          have Hno := Lib.hid hno; have Hb := Lib.hid hb; have Hbw := Lib.hid hbw; have Hfi2 := Lib.hid hfi2; clear hno hb hbw hfi2
          have hres := hbx1.res
          obtain ⟨y0, y1, y2, y3⟩ := prob_cells hres
          have Hres := Lib.hid hres; have Hf := Lib.hid hf; clear hres hf
          go_wp2_with fail
          (try simp only [Exit.inBlock, Exit.then])
          refine bodyPost_prob (g := nb + 1 + 1) rfl (by simp) (prob_set _ _ Hres.out) rfl ?_
          exact ⟨by rw [Hf.out], prob_bel _ _ Hbw.out (by have := Hnb0.out; omega)⟩
end Go.Proofs.Ytnelgellbabkoaa
