/- The walks of slices.Index and Contains at settings, and of variant.Meets. No condition. -/
import Derived.Test.YtnelgellbabkoaaVarE
import Derived.Test.YtnelgellbabkoaaVarF
import Derived.Test.YtnelgellbabkoaaIdxSet
namespace Go.Proofs.Ytnelgellbabkoaa
open Go.RowKit Go.Shelf
attribute [local go_sem ↓] Go.wp_at_zero Go.wp_at_succ

def isSet (x : Setg) (z : Setg) : Bool := decide (x.1 = z.1) && decide (x.2 = z.2)
set_option maxRecDepth 10000 in
set_option maxHeartbeats 1000000 in
theorem indexSet_any {w : World} {v : Value} {l : List Setg} (h : RSets w [v] l) (s t : ByteArray) : Calls Try.prog 108 #[v, .agg #[.string s, .string t]] w fun e w' => e = .returned (.int .i64 (idxOf (isSet (s, t)) l)) ∧ Below w.heap.size w w' := by
  obtain ⟨a, cap, rfl, hz, g⟩ := sets_open h
  obtain ⟨n, hn⟩ : ∃ n, n = l.length := ⟨_, rfl⟩
  rw [← hn] at hz h ⊢
  have q1 := fun a b => set_eqs s t a b
  obtain ⟨W0, hW0⟩ : ∃ W0, W0 = w.alloc (.cells #[.string s, .string t] 38) := ⟨_, rfl⟩
  have hb0 : Below w.heap.size w W0 := by rw [hW0]; exact below_alloc1 _ _
  have hcW : W0.heap[w.heap.size]? = some (.cells #[.string s, .string t] 38 (0, 0)) := by rw [hW0]; exact heap_alloc_new _ _
  have c0 := cells_at hcW 0
  have c1 := cells_at hcW 1
  simp only [List.getElem?_toArray, List.getElem?_cons_succ, List.getElem?_cons_zero] at c0 c1
  clear hcW
  have Hh := Lib.hid h; have Hg := Lib.hid g; have Hn := Lib.hid hn; have Hb0 := Lib.hid hb0; have Hq1 := Lib.hid q1; clear h g hn hb0 q1
  go_enter Try.func108, Try.ntmps108
  go_upto_region 2 with (fail)
  rw [← hW0]
  obtain ⟨nb, hnb⟩ : ∃ nb, nb = w.heap.size := ⟨_, rfl⟩
  rw [← hnb] at c0 c1 ⊢
  have HW0 := Lib.hid hW0; have Hnb := Lib.hid hnb; clear hW0 hnb
  go_loopw [8] (fun i wr => ∃ k : Nat, k ≤ n ∧ i = .int .i64 k ∧ NoneIn (isSet (s, t)) l k ∧ ∃ q, wr = W0.drewN q) (fun i _ => n - (intOf i).toNat)
  case atStart => exact ⟨0, Nat.zero_le _, rfl, noneIn_zero _ _, 0, rfl⟩
  case round =>
    obtain ⟨k, hk, rfl, hno, q, rfl⟩ := hrel
    by_cases hlt : k < n
    · have hkl : k < l.length := by have := Hn.out; omega
      obtain ⟨b, off, rfl, d0, d1, hs1, hs2⟩ := Hg.out k _ (List.getElem?_eq_getElem hkl)
      have hyes := fun h => idxOf_at hkl hno h
      have hnn := fun h => noneIn_succ hkl hno h
      obtain ⟨x, hx⟩ : ∃ x, x = l[k] := ⟨_, rfl⟩
      rw [← hx] at d0 d1 hyes hnn hs1 hs2
      have e0 := cell_later Hb0.out d0
      have e1 := cell_later Hb0.out d1
      obtain ⟨y, hy⟩ : ∃ y, y = x.1 := ⟨_, rfl⟩
      obtain ⟨z, hz3⟩ : ∃ z, z = x.2 := ⟨_, rfl⟩
      have hp : isSet (s, t) x = (decide (s = y) && decide (t = z)) := by rw [hy, hz3]; rfl
      rw [← hy] at e0 hs1
      rw [← hz3] at e1 hs2
      have q2 := Hq1.out y z
      rw [← hp] at q2
      have k5 : (0 : Int) ≤ (k : Int) := by omega
      have k6 : (k : Int) < (n : Int) := by omega
      clear hx hkl d0 d1
      cases hb : isSet (s, t) x with
      | true =>
        have hr := hyes hb
        rw [hb] at q2
        have Hno := Lib.hid hno; have Hyes := Lib.hid hyes; have Hnn := Lib.hid hnn; have Hp := Lib.hid hp; have Hb := Lib.hid hb; have Hr := Lib.hid hr; have Hy := Lib.hid hy; have Hz3 := Lib.hid hz3; clear hno hyes hnn hp hb hr hy hz3
        go_wp2_with fail
        go_region
        go_wp2_with fail
        go_ret
        exact ⟨by rw [Hr.out]; rfl, bel_drewN Hb0.out _⟩
      | false =>
        have hr := hnn hb
        rw [hb] at q2
        have Hno := Lib.hid hno; have Hyes := Lib.hid hyes; have Hnn := Lib.hid hnn; have Hp := Lib.hid hp; have Hb := Lib.hid hb; have Hr := Lib.hid hr; have Hy := Lib.hid hy; have Hz3 := Lib.hid hz3; clear hno hyes hnn hp hb hr hy hz3
        go_wp2_with fail
        go_region
        go_wp2_with fail
        go_roundw
        case rel => exact ⟨k + 1, by omega, by go_num, Hr.out, _, rfl⟩
        case measure => simp [intOf]; omega
    · obtain rfl : n = k := by omega
      have hr : idxOf (isSet (s, t)) l = -1 := idxOf_none (by have := Hn.out; omega) hno
      have Hno := Lib.hid hno; have Hr := Lib.hid hr; clear hno hr
      go_wp2_with fail
      go_ret
      exact ⟨by rw [Hr.out]; rfl, bel_drewN Hb0.out _⟩
set_option maxRecDepth 10000 in
set_option maxHeartbeats 1000000 in
theorem containsSet_any {w : World} {v : Value} {l : List Setg} (h : RSets w [v] l) (s t : ByteArray) : Calls Try.prog 78 #[v, .agg #[.string s, .string t]] w fun e w' => e = .returned (.bool (l.any (isSet (s, t)))) ∧ Below w.heap.size w w' := by
  have hb0 : Below w.heap.size w (w.alloc (.cells #[.string s, .string t] 38)) := below_alloc1 _ _
  have hI := indexSet_any (stays_slice stays_set _ _ _ _ h hb0) s t
  have hab := idxOf_any (isSet (s, t)) l
  obtain ⟨a, cap, rfl, hz, _⟩ := sets_open h
  obtain ⟨n, hn⟩ : ∃ n, n = l.length := ⟨_, rfl⟩
  rw [← hn] at hz h hI ⊢
  obtain ⟨i, hi⟩ : ∃ i, i = idxOf (isSet (s, t)) l := ⟨_, rfl⟩
  rw [← hi] at hI hab
  obtain ⟨r, hr⟩ : ∃ r, r = l.any (isSet (s, t)) := ⟨_, rfl⟩
  rw [← hr] at hab ⊢
  have k1 : decide ((0 : Int) ≤ i) = r := by
    by_cases h0 : 0 ≤ i
    · rw [decide_eq_true h0, hab.2 h0]
    · rw [decide_eq_false h0]
      cases r with
      | true => exact absurd (hab.1 rfl) h0
      | false => rfl
  have Hh := Lib.hid h; have Hn := Lib.hid hn; have Hb0 := Lib.hid hb0; have HI := Lib.hid hI; have Hi := Lib.hid hi; have Hr := Lib.hid hr; have Hab := Lib.hid hab; clear h hn hb0 hI hi hr hab
  go_enter Try.func78, Try.ntmps78
  go_wp2_with fail
  refine HI.out.mono ?_
  rintro e w1 ⟨rfl, hb1⟩
  have hb2 := Hb0.out.trans (hb1.mono Hb0.out.size)
  have Hb1 := Lib.hid hb1; have Hb2 := Lib.hid hb2; clear hb1 hb2
  go_wp2_with fail
  go_ret
  exact ⟨by first | rfl | (rw [k1]), Hb2.out⟩
/-- do settings meet a wish? -/
def meetsOf (s wish : List Setg) : Bool := wish.all fun x => s.any (isSet x)
def SBox (B : Nat) (v : Value) (w : World) : Prop := w.heap[B]? = some (.cells #[v] 36 (0, 0))
theorem SBox.below {B : Nat} {v : Value} {w w' : World} (h : SBox B v w) (hb : Below w.heap.size w w') : SBox B v w' := heap_below hb h
set_option maxRecDepth 10000 in
set_option maxHeartbeats 1000000 in
theorem meetsIn_any {w : World} {B : Nat} {v : Value} {l : List Setg} (h : RSets w [v] l) (hB : SBox B v w) (s t : ByteArray) : Calls Try.prog 77 #[.agg #[.string s, .string t], .pointer (some ⟨B, 0, none⟩)] w fun e w' => e = .returned (.bool (!(l.any (isSet (s, t))))) ∧ Below w.heap.size w w' := by
  have hb0 : Below w.heap.size w (w.alloc (.cells #[.string s, .string t] 38)) := below_alloc1 _ _
  have hC := containsSet_any (stays_slice stays_set _ _ _ _ h hb0) s t
  have c0 := cells_at (hB.below hb0) 0
  have c9 := cells_at hB 0
  simp only [List.getElem?_toArray, List.getElem?_cons_zero] at c0 c9
  obtain ⟨r, hr⟩ : ∃ r, r = l.any (isSet (s, t)) := ⟨_, rfl⟩
  rw [← hr] at hC ⊢
  obtain ⟨a, cap, rfl, hz, _⟩ := sets_open h
  obtain ⟨n, hn⟩ : ∃ n, n = l.length := ⟨_, rfl⟩
  rw [← hn] at hz h hC c0 c9 hB
  have Hh := Lib.hid h; have HB := Lib.hid hB; have HC := Lib.hid hC; have Hb0 := Lib.hid hb0; have Hr := Lib.hid hr; have Hn := Lib.hid hn; clear h hB hC hb0 hr hn
  go_enter Try.func77, Try.ntmps77
  go_wp2_with fail
  refine HC.out.mono ?_
  rintro e w1 ⟨rfl, hb1⟩
  have hb2 := Hb0.out.trans (hb1.mono Hb0.out.size)
  have Hb1 := Lib.hid hb1; have Hb2 := Lib.hid hb2; clear hb1 hb2
  go_wp2_with fail
  go_ret
  exact ⟨rfl, Hb2.out⟩
theorem enters_meets : ∀ args w, (callFunc 77 args).run Try.prog w = .ok (.enter 77 args) w := enters_of Try.func77 (by kernel_rfl) rfl
theorem meets_pred {w : World} {B : Nat} {v : Value} {l : List Setg} (h : RSets w [v] l) (hB : SBox B v w) (wish : List Setg) : IdxSet.Pred RSet (fun x => !(l.any (isSet x))) 77 #[.pointer (some ⟨B, 0, none⟩)] wish w := by
  intro W u0 u1 x hb _ hx
  obtain ⟨h1, _, _⟩ := hx
  simp only [List.cons.injEq, and_true] at h1
  obtain ⟨rfl, rfl⟩ := h1
  exact meetsIn_any (stays_slice stays_set _ _ _ _ h hb) (hB.below hb) x.1 x.2
theorem meetsOf_any (s wish : List Setg) : (!(wish.any fun x => !(s.any (isSet x)))) = meetsOf s wish := by
  unfold meetsOf
  rw [List.not_any_eq_all_not]
  simp
set_option maxRecDepth 10000 in
theorem meets_any {w : World} {u v : Value} {s wish : List Setg} (hs : RSets w [u] s) (hw : RSets w [v] wish) : Calls Try.prog 32 #[u, v] w fun e w' => e = .returned (.bool (meetsOf s wish)) ∧ Below w.heap.size w w' := by
  have hbx : Below w.heap.size w (w.alloc (.cells #[u] 36)) := below_alloc1 _ _
  have hC := IdxSet.has_any stays_set (fun x => !(s.any (isSet x))) 77 #[.pointer (some ⟨w.heap.size, 0, none⟩)] enters_meets (stays_slice stays_set _ _ _ _ hw hbx) (meets_pred (stays_slice stays_set _ _ _ _ hs hbx) (heap_alloc_new _ _) wish)
  have hh := meetsOf_any s wish
  obtain ⟨r, hr⟩ : ∃ r, r = wish.any fun x => !(s.any (isSet x)) := ⟨_, rfl⟩
  rw [← hr] at hC hh
  obtain ⟨a, cap, rfl, _, _⟩ := sets_open hs
  obtain ⟨n, hn⟩ : ∃ n, n = s.length := ⟨_, rfl⟩
  obtain ⟨a2, cap2, rfl, _, _⟩ := sets_open hw
  obtain ⟨n2, hn2⟩ : ∃ n, n = wish.length := ⟨_, rfl⟩
  rw [← hn, ← hn2] at hC
  rw [← hn] at hbx
  rw [← hn, ← hn2, ← hh]
  have Hs := Lib.hid hs; have Hw := Lib.hid hw; have HC := Lib.hid hC; have Hbx := Lib.hid hbx; have Hr := Lib.hid hr; have Hh := Lib.hid hh; have Hn := Lib.hid hn; have Hn2 := Lib.hid hn2; clear hs hw hC hbx hr hh hn hn2
  go_enter Try.func32, Try.ntmps32
  go_wp2_with fail
  refine HC.out.mono ?_
  rintro e w1 ⟨rfl, hb1⟩
  have hb2 := Hbx.out.trans (hb1.mono Hbx.out.size)
  have Hb1 := Lib.hid hb1; have Hb2 := Lib.hid hb2; clear hb1 hb2
  go_wp2_with fail
  go_ret
  exact ⟨rfl, Hb2.out⟩
end Go.Proofs.Ytnelgellbabkoaa
