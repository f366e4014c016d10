/- The walk of variant.Usual: the settings with the usual values. Condition: few variants. -/
import Derived.Test.YtnelgellbabkoaaVarP
import Derived.Deep.Cut
namespace Go.Proofs.Ytnelgellbabkoaa
open Go.RowKit Go.Shelf

abbrev Setg := ByteArray × ByteArray
def setCells (x : Setg) : List Value := [.string x.1, .string x.2]
theorem elem_set : Elem Try.prog 36 38 (.agg #[.string ⟨#[]⟩, .string ⟨#[]⟩]) 2 32 := ⟨Try.underlying36, by kernel_rfl, rfl, by decide⟩
def usual1 (x : Var) : Option Setg := x.2.head?.map fun y => (x.1, y)
def usualOf (l : List Var) : List Setg := l.filterMap usual1
theorem usual_succ {l : List Var} {k : Nat} (h : k < l.length) : usualOf (l.take (k + 1)) = usualOf (l.take k) ++ (match usual1 l[k] with | some y => [y] | none => []) := by
  unfold usualOf
  rw [List.take_succ_eq_append_getElem h, List.filterMap_append]
  cases hq : usual1 l[k] <;> simp [hq]
theorem usual_len (l : List Var) : (usualOf l).length ≤ l.length := List.length_filterMap_le _ _
set_option maxRecDepth 10000 in
set_option maxHeartbeats 2000000 in
theorem usual_any {w : World} {v : Value} {l : List Var} (h : RVars w [v] l) (hl : l.length ≤ 1000000) : Calls Try.prog 62 #[v] w fun e w' => ∃ o, e = .returned o ∧ w'.ownsRow w.heap.size 38 2 o (usualOf l).length ((usualOf l).flatMap setCells) ∧ Below w.heap.size w w' := by
  obtain ⟨a, cap, rfl, hz, g⟩ := vars_open h
  obtain ⟨n, hn⟩ : ∃ n, n = l.length := ⟨_, rfl⟩
  rw [← hn] at hz hl h ⊢
  have Hh := Lib.hid h; have Hg := Lib.hid g; have Hn := Lib.hid hn; clear h g hn
  go_enter Try.func62, Try.ntmps62
  go_wp2_with fail
  go_loopw [3, 8] (fun o i wr => ∃ k m : Nat, k ≤ n ∧ i = .int .i64 k ∧ m = (usualOf (l.take k)).length ∧ m ≤ k ∧ wr.ownsRow w.heap.size 38 2 o m ((usualOf (l.take k)).flatMap setCells) ∧ Below w.heap.size w wr) (fun _ i _ => n - (intOf i).toNat)
  case atStart => exact ⟨0, 0, Nat.zero_le _, rfl, rfl, Nat.le_refl _, World.ownsRow_nil _ _ _ _, Below.refl _ _⟩
  case round =>
    obtain ⟨k, m, hk, rfl, hm, hmk, ho, hb⟩ := hrel
    obtain ⟨oa, oc, rfl⟩ := own_shape ho
    have hB := hb.size
    by_cases hlt : k < n
    · have hkl : k < l.length := by have := Hn.out; omega
      obtain ⟨b, off, u, rfl, d0, d1, hsx, hu⟩ := Hg.out k hkl
      obtain ⟨x, hx⟩ : ∃ x, x = l[k] := ⟨_, rfl⟩
      rw [← hx] at d0 hu hsx
      obtain ⟨ua, uc, rfl, hz2, g2⟩ := strs_open hu
      obtain ⟨m2, hm2⟩ : ∃ m, m = x.2.length := ⟨_, rfl⟩
      have e0 := cell_later hb d0
      have e1 := cell_later hb d1
      have hus := usual_succ hkl
      rw [← hx] at hus
      rw [← hm2] at e1 d1 hu hz2
      obtain ⟨s, hs⟩ : ∃ s, s = x.1 := ⟨_, rfl⟩
      rw [← hs] at e0 d0 hsx
      have k5 : (0 : Int) ≤ (k : Int) := by omega
      have k6 : (k : Int) < (n : Int) := by omega
      clear hx hkl
      by_cases h0 : 0 < m2
      · have h0l : 0 < x.2.length := by omega
        obtain ⟨b2, off2, rfl, d2, hxx⟩ := g2 0 h0l
        clear hxx
        obtain ⟨y, hy⟩ : ∃ y, y = x.2[0] := ⟨_, rfl⟩
        rw [← hy, Nat.add_zero] at d2
        have hu1 : usual1 x = some (s, y) := by
          unfold usual1
          rw [List.head?_eq_getElem?, List.getElem?_eq_getElem h0l, ← hy, ← hs]; rfl
        have hus2 : usualOf (l.take (k + 1)) = usualOf (l.take k) ++ [(s, y)] := by rw [hus, hu1]
        have d3 := cell_later hb d2
        have k7 : (0 : Int) < (m2 : Int) := by omega
        have hnl : (usualOf (l.take (k + 1))).length = m + 1 := by rw [hus2, List.length_append, ← hm]; rfl
        clear hy d2
        have Ho := Lib.hid ho; have Hb := Lib.hid hb; have Hd0 := Lib.hid d0; have Hd1 := Lib.hid d1; have Hu := Lib.hid hu; have Hus := Lib.hid hus; have Hus2 := Lib.hid hus2; have Hu1 := Lib.hid hu1; have Hm2 := Lib.hid hm2; have Hs := Lib.hid hs; have Hg2 := Lib.hid g2; have Hm := Lib.hid hm; have Hd3 := Lib.hid d3; have Hnl := Lib.hid hnl; clear ho hb d0 d1 hu hus hus2 hu1 hm2 hs g2 hm d3 hnl
        clear h0l
        go_upto_region 6 with (fail)
        obtain ⟨W1, hW1⟩ : ∃ W1, W1 = wr.alloc (.cells #[.string s, .slice (some ⟨b2, off2, none⟩) m2 uc] 35) := ⟨_, rfl⟩
        have hcW : W1.heap[wr.heap.size]? = some (.cells #[.string s, .slice (some ⟨b2, off2, none⟩) m2 uc] 35 (0, 0)) := by rw [hW1]; exact heap_alloc_new _ _
        have c0 := cells_at hcW 0
        have c1 := cells_at hcW 1
        simp only [List.getElem?_toArray, List.getElem?_cons_succ, List.getElem?_cons_zero] at c0 c1
        have d4 : W1.cell? ⟨b2, off2, none⟩ = some (.string y) := by rw [hW1]; exact cell_later (below_alloc1 _ _) Hd3.out
        have hown2 : W1.drew.ownsRow w.heap.size 38 2 (.slice oa m oc) m ((usualOf (l.take k)).flatMap setCells) := by rw [hW1]; exact Ho.out.alloc _
        have hB2 : w.heap.size ≤ W1.drew.heap.size := by rw [hW1]; show w.heap.size ≤ (wr.alloc _).heap.size; simp; omega
        have hbW : Below w.heap.size w W1 := by rw [hW1]; exact Hb.out.alloc hB _
        rw [← hW1]
        clear hcW
        have Hown2 := Lib.hid hown2; have HbW := Lib.hid hbW; have HW1 := Lib.hid hW1; clear hown2 hbW hW1
        go_region_law (refine step_append_some elem_set (w := W1.drew) rfl (.tmp 16) (.tmp 24) rfl w.heap.size (.slice oa m oc) m ((usualOf (l.take k)).flatMap setCells) rfl Hown2.out 1 (by decide) #[.string s, .string y] rfl rfl (by simp [Value.oneCell']) (by omega) (by unfold maxLen; omega) hB2 ?_; intro g8 c8 w8 hown8 hg8 hm8)
        all_goals
          have hbel8 := bel_own (bel_drewN HbW.out 1) Hown2.out (Nat.le_refl _) hg8 hB2
          have hown9 : w8.ownsRow w.heap.size 38 2 (.slice (some ⟨g8, 0, none⟩) (m + 1) c8) (m + 1) ((usualOf (l.take (k + 1))).flatMap setCells) := by
            rw [Hus2.out, List.flatMap_append]
            simpa [setCells] using hown8
          have Hown8 := Lib.hid hown8; have Hg8 := Lib.hid hg8; have Hbel8 := Lib.hid hbel8; have Hown9 := Lib.hid hown9; clear hown8 hg8 hbel8 hown9
          clear hm8
          go_wp2_with fail
          go_roundw
          case rel => exact ⟨k + 1, m + 1, by omega, by go_num, Hnl.out.symm, by omega, Hown9.out, Hbel8.out⟩
          case measure => simp [intOf]; omega
      · have hz0 : m2 = 0 := by omega
        have hu1 : usual1 x = none := by
          unfold usual1
          rw [List.eq_nil_of_length_eq_zero (l := x.2) (by omega)]; rfl
        have hus2 : usualOf (l.take (k + 1)) = usualOf (l.take k) := by rw [hus, hu1]; simp
        have k7 : decide (0 < (m2 : Int)) = false := decide_eq_false (by omega)
        have k8 : m2 ≤ 0 := by omega
        rw [← hus2] at ho hm
        have hb2 := hb.alloc hB (.cells #[.string s, .slice ua m2 uc] 35)
        have ho2 := ho.alloc (.cells #[.string s, .slice ua m2 uc] 35)
        clear h0
        have Ho := Lib.hid ho; have Hb := Lib.hid hb; have Hd0 := Lib.hid d0; have Hd1 := Lib.hid d1; have Hu := Lib.hid hu; have Hus := Lib.hid hus; have Hus2 := Lib.hid hus2; have Hu1 := Lib.hid hu1; have Hm2 := Lib.hid hm2; have Hs := Lib.hid hs; have Hg2 := Lib.hid g2; have Hm := Lib.hid hm; have Hz0 := Lib.hid hz0; have Hb2 := Lib.hid hb2; have Ho2 := Lib.hid ho2; clear ho hb d0 d1 hu hus hus2 hu1 hm2 hs g2 hm hz0 hb2 ho2
        go_wp2_with fail
        go_roundw
        case rel => exact ⟨k + 1, m, by omega, by go_num, Hm.out, by omega, Ho2.out, Hb2.out⟩
        case measure => simp [intOf]; omega
    · obtain rfl : k = n := by omega
      have e : l.take k = l := List.take_of_length_le (by have := Hn.out; omega)
      rw [e] at ho hm
      have Ho := Lib.hid ho; have Hb := Lib.hid hb; have Hm := Lib.hid hm; have He := Lib.hid e; clear ho hb hm e
      go_wp2_with fail
      go_ret
      exact ⟨_, rfl, by have := Ho.out; rw [Hm.out] at this ⊢; exact this, Hb.out⟩
end Go.Proofs.Ytnelgellbabkoaa
