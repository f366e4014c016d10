/- The walks of cnf.Holds and cooperref12.Holds: whether clauses hold. No condition. -/
import Derived.Test.YtnelgellbabkoaaCnfC
import Derived.Test.YtnelgellbabkoaaCnfP
import Derived.Deep.Cut
import Derived.Test.YtnelgellbabkoaaIdxInts
namespace Go.Proofs.Ytnelgellbabkoaa
open Go.RowKit Go.Lib Go.Sort
open CnfM (InR so holds)

abbrev RBs : Rd (List Bool) := RSlice 1 RBool
theorem bools_open {w : World} {v : Value} {l : List Bool} (h : RBs w [v] l) : ∃ a cap, v = .slice a l.length cap ∧ l.length ≤ 9223372036854775807 ∧ ∀ i (hi : i < l.length), ∃ b off, a = some ⟨b, off, none⟩ ∧ w.cell? ⟨b, off + i, none⟩ = some (.bool l[i]) := by
  obtain ⟨a, cap, hv, hcap, hmax, hel⟩ := h
  simp only [List.cons.injEq, and_true] at hv
  unfold maxLen at hmax
  refine ⟨a, cap, hv, by omega, fun i hi => ?_⟩
  obtain ⟨b, off, ecs, h1, h2, h3, h4⟩ := hel i l[i] (List.getElem?_eq_getElem hi)
  subst h4
  exact ⟨b, off, h1, by simpa using h3 0 _ rfl⟩
theorem so_wrong {m : List Bool} {x : Int} (h : CnfM.wrong x = true) : so m x = false := by unfold so; rw [h]; rfl
theorem so_far {m : List Bool} {x : Int} (h : CnfM.wrong x = false) (h2 : ¬ CnfM.ab x ≤ m.length) : so m x = (false == decide (0 < x)) := by unfold so; rw [h, decide_eq_false h2]; rfl
theorem so_near {m : List Bool} {x : Int} {j : Nat} (h : CnfM.wrong x = false) (h2 : CnfM.ab x = (j : Int) + 1) (hj : j < m.length) : so m x = (m[j] == decide (0 < x)) := by
  unfold so
  have e : m.getD ((CnfM.ab x).toNat - 1) false = m[j] := by
    rw [h2, show ((j : Int) + 1).toNat - 1 = j by omega, List.getD_eq_getElem?_getD, List.getElem?_eq_getElem hj]; rfl
  rw [h, decide_eq_true (by omega), e]
  rfl
set_option maxRecDepth 10000 in
set_option maxHeartbeats 1000000 in
theorem so_any {w : World} {v : Value} {m : List Bool} (hm : RBs w [v] m) (x : Int) (hx : InR x) : Calls Try.prog 74 #[.int .i64 x, v] w fun e w' => e = .returned (.bool (so m x)) ∧ w = w' := by
  obtain ⟨a, cap, rfl, hz, g⟩ := bools_open hm
  obtain ⟨n, hn⟩ : ∃ n, n = m.length := ⟨_, rfl⟩
  rw [← hn] at hz hm ⊢
  obtain ⟨r, hr⟩ : ∃ r, r = so m x := ⟨_, rfl⟩
  have hW := fun W => wrong_any x W
  cases hw : CnfM.wrong x with
  | true =>
    have hf : r = false := by rw [hr, so_wrong hw]
    rw [hw] at hW
    rw [← hr, hf]
    have HW := Lib.hid hW; have Hm := Lib.hid hm; have Hg := Lib.hid g; have Hn := Lib.hid hn; have Hr := Lib.hid hr; have Hf := Lib.hid hf; have Hw := Lib.hid hw; have Hx := Lib.hid hx; clear hW hm g hn hr hf hw hx
    go_enter Try.func74, Try.ntmps74
    go_wp2_with fail
    refine (HW.out _).mono ?_
    rintro e w1 ⟨rfl, rfl⟩
    go_wp2_with fail
    go_ret
    exact ⟨rfl, rfl⟩
  | false =>
    have hpos := CnfM.ab_pos hx hw
    have hab : CnfM.ab x ≤ 9223372036854775807 := by rw [CnfM.ab_of hx hw]; have h0 := CnfM.wrong_ne hw; unfold InR CnfM.low at *; omega
    have hA := fun W => abs_any x W
    have hfar := so_far (m := m) hw
    have hnear := fun j => so_near (m := m) (j := j) hw
    rw [hw] at hW
    obtain ⟨y, hy⟩ : ∃ y, y = CnfM.ab x := ⟨_, rfl⟩
    rw [← hy] at hA hpos hab hfar hnear
    obtain ⟨s, hs⟩ : ∃ s, s = decide (0 < x) := ⟨_, rfl⟩
    by_cases hle : y ≤ (n : Int)
    · obtain ⟨j, rfl⟩ : ∃ j : Nat, y = (j : Int) + 1 := ⟨(y - 1).toNat, by omega⟩
      have hjn : j < n := by omega
      have hj : j < m.length := by omega
      obtain ⟨b, off, rfl, d⟩ := g j hj
      have hf := hnear j rfl hj
      obtain ⟨q, hq⟩ : ∃ q, q = m[j] := ⟨_, rfl⟩
      rw [← hq] at d hf
      have k1 : IntKind.i64.wrap (((j : Int) + 1) - 1) = (j : Int) := by rw [IntWalk.i64_in _ (by omega)]; omega
      have k5 : (0 : Int) ≤ (j : Int) := by omega
      have k6 : (j : Int) < (n : Int) := by omega
      have k7 : (j : Int) + 1 ≤ (n : Int) := by omega
      have k8 : decide ((j : Int) + 1 ≤ (n : Int)) = true := by simpa using k7
      rw [← hr]
      have HW := Lib.hid hW; have HA := Lib.hid hA; have Hm := Lib.hid hm; have Hg := Lib.hid g; have Hn := Lib.hid hn; have Hr := Lib.hid hr; have Hf := Lib.hid hf; have Hw := Lib.hid hw; have Hx := Lib.hid hx; have Hy := Lib.hid hy; have Hs := Lib.hid hs; have Hfar := Lib.hid hfar; have Hnear := Lib.hid hnear; have Hq := Lib.hid hq; clear hW hA hm g hn hr hf hw hx hy hs hfar hnear hq
      clear hle
      go_enter Try.func74, Try.ntmps74
      go_wp2_with fail
      refine (HW.out _).mono ?_
      rintro e w1 ⟨rfl, rfl⟩
      go_wp2_with fail
      refine (HA.out _).mono ?_
      rintro e w1 ⟨rfl, rfl⟩
      go_wp2_with fail
      refine (HA.out _).mono ?_
      rintro e w1 ⟨rfl, rfl⟩
      go_wp2_with fail
      go_ret
      exact ⟨ret_bool (by rw [Hr.out, Hf.out]), rfl⟩
    · have hf := hfar (by rw [← hn]; exact hle)
      have k7 : (n : Int) < y := by omega
      have k8 : decide (y ≤ (n : Int)) = false := by simpa using k7
      rw [← hr]
      have HW := Lib.hid hW; have HA := Lib.hid hA; have Hm := Lib.hid hm; have Hg := Lib.hid g; have Hn := Lib.hid hn; have Hr := Lib.hid hr; have Hf := Lib.hid hf; have Hw := Lib.hid hw; have Hx := Lib.hid hx; have Hy := Lib.hid hy; have Hs := Lib.hid hs; have Hfar := Lib.hid hfar; have Hnear := Lib.hid hnear; clear hW hA hm g hn hr hf hw hx hy hs hfar hnear
      clear hle
      go_enter Try.func74, Try.ntmps74
      go_wp2_with fail
      refine (HW.out _).mono ?_
      rintro e w1 ⟨rfl, rfl⟩
      go_wp2_with fail
      refine (HA.out _).mono ?_
      rintro e w1 ⟨rfl, rfl⟩
      go_wp2_with fail
      go_ret
      exact ⟨ret_bool (by rw [Hr.out, Hf.out]; cases decide (0 < x) <;> rfl), rfl⟩
set_option maxRecDepth 10000 in
theorem none_any (x : Int) (hx : InR x) (w : World) : Calls Try.prog 69 #[.int .i64 x] w fun e w' => e = .returned (.bool (CnfM.wrong x)) ∧ w = w' := by
  by_cases h0 : x = 0
  · have e1 : (x == 0) = true := by rw [h0]; rfl
    have e2 : CnfM.wrong x = true := by unfold CnfM.wrong; rw [e1]; rfl
    have He2 := Lib.hid e2; have Hx := Lib.hid hx; clear e2 hx
    clear h0
    go_enter Try.func69, Try.ntmps69
    go_wp2_with fail
    go_ret
    exact ⟨ret_bool (by rw [He2.out]), rfl⟩
  · have e1 : (x == 0) = false := by simpa using h0
    have e2 : CnfM.wrong x = (x == wrap64 (-x)) := by
      unfold CnfM.wrong CnfM.low
      rw [e1, Bool.false_or, Bool.eq_iff_iff, beq_iff_eq, beq_iff_eq]
      unfold InR at hx
      unfold wrap64
      omega
    have He2 := Lib.hid e2; have Hx := Lib.hid hx; clear e2 hx
    clear h0
    go_enter Try.func69, Try.ntmps69
    go_wp2_with fail
    go_ret
    exact ⟨ret_bool (by rw [He2.out]), rfl⟩
set_option maxRecDepth 10000 in
theorem atom_any (x : Int) (hx : InR x) (hw : CnfM.wrong x = false) (w : World) : Calls Try.prog 70 #[.int .i64 x] w fun e w' => e = .returned (.int .i64 (CnfM.ab x)) ∧ w = w' := by
  have hab := CnfM.ab_of hx hw
  have hlow := (CnfM.wrong_ne hw).2
  unfold InR at hx
  unfold CnfM.low at hlow
  by_cases h : x < 0
  · have e : CnfM.ab x = -x := by omega
    have k1 : -9223372036854775807 ≤ x := by omega
    have He := Lib.hid e; have Hab := Lib.hid hab; have Hlow := Lib.hid hlow; have Hw := Lib.hid hw; clear e hab hlow hw
    clear hx
    go_enter Try.func70, Try.ntmps70
    go_wp2_with fail
    go_ret
    exact ⟨ret_int (by rw [He.out]), rfl⟩
  · have e : CnfM.ab x = x := by omega
    have h : 0 ≤ x := by omega
    have He := Lib.hid e; have Hab := Lib.hid hab; have Hlow := Lib.hid hlow; have Hw := Lib.hid hw; clear e hab hlow hw
    clear hx
    go_enter Try.func70, Try.ntmps70
    go_wp2_with fail
    go_ret
    exact ⟨ret_int (by rw [He.out]), rfl⟩
theorem flip_so (b : Bool) (x : Int) (h : x ≠ 0) : (b == decide (0 < x)) = if x < 0 then !b else b := by
  by_cases h1 : x < 0
  · rw [if_pos h1, decide_eq_false (by omega)]; cases b <;> rfl
  · rw [if_neg h1, decide_eq_true (by omega)]; cases b <;> rfl
set_option maxRecDepth 10000 in
set_option maxHeartbeats 1000000 in
theorem soRef_any {w : World} {v : Value} {m : List Bool} (hm : RBs w [v] m) (x : Int) (hx : InR x) : Calls Try.prog 75 #[.int .i64 x, v] w fun e w' => e = .returned (.bool (so m x)) ∧ w = w' := by
  obtain ⟨a, cap, rfl, hz, g⟩ := bools_open hm
  obtain ⟨n, hn⟩ : ∃ n, n = m.length := ⟨_, rfl⟩
  rw [← hn] at hz hm ⊢
  obtain ⟨r, hr⟩ : ∃ r, r = so m x := ⟨_, rfl⟩
  have hW := fun W => none_any x hx W
  cases hw : CnfM.wrong x with
  | true =>
    have hf : r = false := by rw [hr, so_wrong hw]
    rw [hw] at hW
    rw [← hr, hf]
    have HW := Lib.hid hW; have Hm := Lib.hid hm; have Hg := Lib.hid g; have Hn := Lib.hid hn; have Hr := Lib.hid hr; have Hf := Lib.hid hf; have Hw := Lib.hid hw; have Hx := Lib.hid hx; clear hW hm g hn hr hf hw hx
    go_enter Try.func75, Try.ntmps75
    go_wp2_with fail
    refine (HW.out _).mono ?_
    rintro e w1 ⟨rfl, rfl⟩
    go_wp2_with fail
    go_ret
    exact ⟨rfl, rfl⟩
  | false =>
    have hpos := CnfM.ab_pos hx hw
    have hab : CnfM.ab x ≤ 9223372036854775807 := by rw [CnfM.ab_of hx hw]; have h0 := CnfM.wrong_ne hw; unfold InR CnfM.low at *; omega
    have hA := fun W => atom_any x hx hw W
    have hx0 := (CnfM.wrong_ne hw).1
    have hfar := so_far (m := m) hw
    have hnear := fun j => so_near (m := m) (j := j) hw
    rw [flip_so _ _ hx0] at hfar
    simp only [flip_so _ _ hx0] at hnear
    rw [hw] at hW
    obtain ⟨y, hy⟩ : ∃ y, y = CnfM.ab x := ⟨_, rfl⟩
    rw [← hy] at hA hpos hab hfar hnear
    by_cases hle : y ≤ (n : Int)
    · obtain ⟨j, rfl⟩ : ∃ j : Nat, y = (j : Int) + 1 := ⟨(y - 1).toNat, by omega⟩
      have hjn : j < n := by omega
      have hj : j < m.length := by omega
      obtain ⟨b, off, rfl, d⟩ := g j hj
      have hf := hnear j rfl hj
      obtain ⟨q, hq⟩ : ∃ q, q = m[j] := ⟨_, rfl⟩
      rw [← hq] at d hf
      have k1 : IntKind.i64.wrap (((j : Int) + 1) - 1) = (j : Int) := by rw [IntWalk.i64_in _ (by omega)]; omega
      have k5 : (0 : Int) ≤ (j : Int) := by omega
      have k6 : (j : Int) < (n : Int) := by omega
      have k7 : (j : Int) + 1 ≤ (n : Int) := by omega
      have k8 : decide ((j : Int) + 1 ≤ (n : Int)) = true := by simpa using k7
      rw [← hr]
      clear hle
      clear hnear hfar hq hj
      cases q
      all_goals rcases Int.lt_or_le x 0 with hs | hs
      all_goals
        have hf2 := hf
        first | rw [if_pos hs] at hf2 | rw [if_neg (by omega)] at hf2
        (try obtain ⟨p, rfl⟩ := Int.eq_ofNat_of_zero_le hs)
        have HW := Lib.hid hW; have HA := Lib.hid hA; have Hm := Lib.hid hm; have Hg := Lib.hid g; have Hn := Lib.hid hn; have Hr := Lib.hid hr; have Hf := Lib.hid hf; have Hf2 := Lib.hid hf2; have Hw := Lib.hid hw; have Hx := Lib.hid hx; have Hy := Lib.hid hy; have Hx0 := Lib.hid hx0; clear hW hA hm g hn hr hf hf2 hw hx hy hx0
        go_enter Try.func75, Try.ntmps75
        go_wp2_with fail
        refine (HW.out _).mono ?_
        rintro e w1 ⟨rfl, rfl⟩
        go_wp2_with fail
        refine (HA.out _).mono ?_
        rintro e w1 ⟨rfl, rfl⟩
        go_wp2_with fail
        refine (HA.out _).mono ?_
        rintro e w1 ⟨rfl, rfl⟩
        go_upto_region 4 with (fail)
        clear k1 k5 k6 k7 k8 d hab hpos hjn
        go_wp2_with fail
        go_ret
        exact ⟨ret_bool (by rw [Hr.out, Hf2.out] <;> rfl), rfl⟩
    · have hf := hfar (by rw [← hn]; exact hle)
      have k7 : (n : Int) < y := by omega
      have k8 : decide (y ≤ (n : Int)) = false := by simpa using k7
      rw [← hr]
      clear hle
      rcases Int.lt_or_le x 0 with hs | hs
      all_goals
        have hf2 := hf
        first | rw [if_pos hs] at hf2 | rw [if_neg (by omega)] at hf2
        (try obtain ⟨p, rfl⟩ := Int.eq_ofNat_of_zero_le hs)
        have HW := Lib.hid hW; have HA := Lib.hid hA; have Hm := Lib.hid hm; have Hg := Lib.hid g; have Hn := Lib.hid hn; have Hr := Lib.hid hr; have Hf := Lib.hid hf; have Hf2 := Lib.hid hf2; have Hw := Lib.hid hw; have Hx := Lib.hid hx; have Hy := Lib.hid hy; have Hfar := Lib.hid hfar; have Hnear := Lib.hid hnear; have Hx0 := Lib.hid hx0; clear hW hA hm g hn hr hf hf2 hw hx hy hfar hnear hx0
        go_enter Try.func75, Try.ntmps75
        go_wp2_with fail
        refine (HW.out _).mono ?_
        rintro e w1 ⟨rfl, rfl⟩
        go_wp2_with fail
        refine (HA.out _).mono ?_
        rintro e w1 ⟨rfl, rfl⟩
        go_wp2_with fail
        go_ret
        exact ⟨ret_bool (by rw [Hr.out, Hf2.out] <;> (try rfl)), rfl⟩
/-- the box of the model -/
def MBox (B : Nat) (v : Value) (w : World) : Prop := w.heap[B]? = some (.cells #[v] 40 (0, 0))
theorem MBox.below {B : Nat} {v : Value} {w w' : World} (h : MBox B v w) (hb : Below w.heap.size w w') : MBox B v w' := heap_below hb h
set_option maxRecDepth 10000 in
theorem inner_any {w : World} {B : Nat} {v : Value} {m : List Bool} (hm : RBs w [v] m) (hB : MBox B v w) (x : Int) (hx : InR x) : Calls Try.prog 73 #[.int .i64 x, .pointer (some ⟨B, 0, none⟩)] w fun e w' => e = .returned (.bool (so m x)) ∧ w = w' := by
  have c0 := cells_at hB 0
  simp only [List.getElem?_toArray, List.getElem?_cons_zero] at c0
  have hS := so_any hm x hx
  obtain ⟨a, cap, rfl, _, _⟩ := bools_open hm
  obtain ⟨n, hn⟩ : ∃ n, n = m.length := ⟨_, rfl⟩
  rw [← hn] at c0 hS
  obtain ⟨r, hr⟩ : ∃ r, r = so m x := ⟨_, rfl⟩
  rw [← hr] at hS ⊢
  have Hm := Lib.hid hm; have HB := Lib.hid hB; have HS := Lib.hid hS; have Hx := Lib.hid hx; have Hn := Lib.hid hn; have Hr := Lib.hid hr; clear hm hB hS hx hn hr
  go_enter Try.func73, Try.ntmps73
  go_wp2_with fail
  refine HS.out.mono ?_
  rintro e w1 ⟨rfl, rfl⟩
  go_wp2_with fail
  go_ret
  exact ⟨rfl, rfl⟩
theorem enters_inner : ∀ args w, (callFunc 73 args).run Try.prog w = .ok (.enter 73 args) w := enters_of Try.func73 (by kernel_rfl) rfl
theorem enters_outer : ∀ args w, (callFunc 72 args).run Try.prog w = .ok (.enter 72 args) w := enters_of Try.func72 (by kernel_rfl) rfl
theorem inner_pred {w : World} {B : Nat} {v : Value} {m : List Bool} (hm : RBs w [v] m) (hB : MBox B v w) (l : List Int) : IdxInt.Pred (RInt .i64) (so m) 73 #[.pointer (some ⟨B, 0, none⟩)] l w := by
  intro W u0 x hb _ h
  obtain ⟨h1, h2⟩ := h
  simp only [List.cons.injEq, and_true] at h1
  subst h1
  exact (inner_any (stays_slice stays_bool _ _ _ _ hm hb) (hB.below hb) x (wf_i64 h2)).mono fun e w' ⟨he, hw⟩ => ⟨he, hw ▸ Below.refl _ _⟩
set_option maxRecDepth 10000 in
theorem outer_any {w : World} {B : Nat} {u v : Value} {m : List Bool} {c : List Int} (hm : RBs w [v] m) (hB : MBox B v w) (hc : RIs w [u] c) : Calls Try.prog 72 #[u, .pointer (some ⟨B, 0, none⟩)] w fun e w' => e = .returned (.bool (!(c.any (so m)))) ∧ Below w.heap.size w w' := by
  have hC := IdxInt.has_any (stays_int .i64) (so m) 73 #[.pointer (some ⟨B, 0, none⟩)] enters_inner hc (inner_pred hm hB c)
  obtain ⟨r, hr⟩ : ∃ r, r = c.any (so m) := ⟨_, rfl⟩
  rw [← hr] at hC ⊢
  have Hm := Lib.hid hm; have HB := Lib.hid hB; have HC := Lib.hid hC; have Hc := Lib.hid hc; have Hr := Lib.hid hr; clear hm hB hC hc hr
  go_enter Try.func72, Try.ntmps72
  go_wp2_with fail
  refine HC.out.mono ?_
  rintro e w1 ⟨rfl, hb1⟩
  have Hb1 := Lib.hid hb1; clear hb1
  go_wp2_with fail
  go_ret
  exact ⟨rfl, Hb1.out⟩
theorem outer_pred {w : World} {B : Nat} {v : Value} {m : List Bool} (hm : RBs w [v] m) (hB : MBox B v w) (l : List (List Int)) : IdxInts.Pred RIs (fun c => !(c.any (so m))) 72 #[.pointer (some ⟨B, 0, none⟩)] l w := by
  intro W u0 c hb _ h
  exact outer_any (stays_slice stays_bool _ _ _ _ hm hb) (hB.below hb) h
theorem holds_any (m : List Bool) (l : List (List Int)) : (!(l.any fun c => !(c.any (so m)))) = holds m l := by
  unfold holds
  rw [List.not_any_eq_all_not]
  simp
set_option maxRecDepth 10000 in
theorem holdsGo_any {w : World} {u v : Value} {m : List Bool} {l : List (List Int)} (hl : RIss w [u] l) (hm : RBs w [v] m) : Calls Try.prog 26 #[u, v] w fun e w' => e = .returned (.bool (holds m l)) ∧ Below w.heap.size w w' := by
  have hbx : Below w.heap.size w (w.alloc (.cells #[v] 40)) := below_alloc1 _ _
  have hC := IdxInts.has_any (stays_slice (stays_int .i64)) (fun c => !(c.any (so m))) 72 #[.pointer (some ⟨w.heap.size, 0, none⟩)] enters_outer (stays_slice (stays_slice (stays_int .i64)) _ _ _ _ hl hbx) (outer_pred (stays_slice stays_bool _ _ _ _ hm hbx) (heap_alloc_new _ _) l)
  have hh := holds_any m l
  obtain ⟨r, hr⟩ : ∃ r, r = l.any fun c => !(c.any (so m)) := ⟨_, rfl⟩
  rw [← hr] at hC hh
  obtain ⟨a, cap, rfl, _, _⟩ := bools_open hm
  obtain ⟨n, hn⟩ : ∃ n, n = m.length := ⟨_, rfl⟩
  rw [← hn] at hC hbx ⊢
  rw [← hh]
  have Hm := Lib.hid hm; have Hl := Lib.hid hl; have HC := Lib.hid hC; have Hbx := Lib.hid hbx; have Hr := Lib.hid hr; have Hh := Lib.hid hh; have Hn := Lib.hid hn; clear hm hl hC hbx hr hh hn
  go_enter Try.func26, Try.ntmps26
  go_wp2_with fail
  refine HC.out.mono ?_
  rintro e w1 ⟨rfl, hb1⟩
  have hb2 := Hbx.out.trans (hb1.mono Hbx.out.size)
  have Hb1 := Lib.hid hb1; have Hb2 := Lib.hid hb2; clear hb1 hb2
  go_wp2_with fail
  go_ret
  exact ⟨rfl, Hb2.out⟩
end Go.Proofs.Ytnelgellbabkoaa
