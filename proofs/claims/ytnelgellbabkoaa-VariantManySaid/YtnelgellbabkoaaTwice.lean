/- The walk of variant.twice: whether two of texts are alike. Condition: at most a million texts. -/
import Derived.Test.YtnelgellbabkoaaSeq
import Derived.Test.YtnelgellbabkoaaTwiceM
import Derived.Test.YtnelgellbabkoaaShelf
import Derived.Lib.OwnBridge
namespace Go.Proofs.Ytnelgellbabkoaa
open Go.RowKit Go.Lib Go.Sort Go.Shelf
open TwiceM (twiceOf leB)

theorem appendSeq_any (Bs : Nat) (sv : Value) (zs : List ByteArray) (hreach : zs.length ≤ 1000000) (w : World) (hBs : Bs < w.heap.size) (hc : w.cell? ⟨Bs, 0, none⟩ = some sv) (hI : RSs w [sv] zs) :
    Calls Try.prog 158 #[.slice none 0 0, .func (.func 154) #[] #[.pointer (some ⟨Bs, 0, none⟩)]] w fun e W' => ∃ v, e = .returned v ∧ W'.ownsRow w.heap.size 9 1 v zs.length (zs.map strv) ∧ Below w.heap.size w W' :=
  (callsIn_wide (n := 6)).1 (appendSeq_in Fence.wide 6 trivial trivial rfl (by omega) Bs sv zs hreach w hBs hc hI)
set_option maxRecDepth 10000 in
theorem collect_any (Bs : Nat) (sv : Value) (zs : List ByteArray) (hreach : zs.length ≤ 1000000) (w : World) (hBs : Bs < w.heap.size) (hc : w.cell? ⟨Bs, 0, none⟩ = some sv) (hI : RSs w [sv] zs) :
    Calls Try.prog 152 #[.func (.func 154) #[] #[.pointer (some ⟨Bs, 0, none⟩)]] w fun e W' => ∃ v, e = .returned v ∧ W'.ownsRow w.heap.size 9 1 v zs.length (zs.map strv) ∧ Below w.heap.size w W' := by
  have hA := appendSeq_any Bs sv zs hreach w hBs hc hI
  have HA := Lib.hid hA; have Hc := Lib.hid hc; have HI := Lib.hid hI; have HBs := Lib.hid hBs; clear hA hc hI hBs
  go_enter Try.func152, Try.ntmps152
  go_wp2_with fail
  refine HA.out.mono ?_
  rintro e w1 ⟨v, rfl, h1, h2⟩
  have H1 := Lib.hid h1; have H2 := Lib.hid h2; clear h1 h2
  go_wp2_with fail
  go_ret
  exact ⟨v, rfl, H1.out, H2.out⟩
theorem str_nil_or {w : World} {B : Nat} {v : Value} {n : Nat} {xs : List Value} (h : w.ownsRow B 9 1 v n xs) (hn : n = 0) : ∃ a cap, v = .slice a 0 cap := by
  rcases h.2 with ⟨h1, _⟩ | ⟨g, cap, cur, h1, _⟩
  · exact ⟨none, 0, h1⟩
  · exact ⟨_, cap, by rw [h1, hn]⟩
theorem grownBy_grow' {w w' : World} {row : Option Nat} (h : w.grownBy w' row) (os : Array Obj) : w.grownBy (grow w' os) row :=
  ⟨h.os, h.tape, h.output, by have := h.size; simp; omega, fun k hk hne => by rw [heap_grow_old w' os (by have := h.size; omega)]; exact h.block k hk hne⟩
theorem grownBy_put' {α : Type} [Inhabited α] (enc : α → Value) (w : World) (g q : Nat) (d : Array α) : w.grownBy (putRow enc (Sort.ahead w q) g 0 d) (some g) :=
  ⟨rfl, rfl, rfl, by simp [putRow, mapBlock, Sort.ahead], fun k _ hne => by
    have : g ≠ k := fun e => hne (by rw [e])
    simp [putRow, mapBlock, Sort.ahead, Array.getElem?_modify, this]⟩
theorem sortStr_own {W : World} {B : Nat} {v : Value} {L : List (List UInt8)} (hown : W.ownsRow B 9 1 v L.length (L.map encStr)) (hn : L.length ≤ 1000000) :
    Calls Try.prog 153 #[v] W fun e w' => e = .returned (.tuple #[]) ∧ w'.ownsRow B 9 1 v L.length ((L.mergeSort leB).map encStr) ∧ W.grownBy w' v.ownBlock := by
  by_cases h0 : L.length = 0
  · obtain ⟨a, cap, rfl⟩ := str_nil_or hown h0
    have hl : L = [] := List.eq_nil_of_length_eq_zero h0
    subst hl
    exact (Try.slices_Sort_string_none a cap W).mono fun e w' ⟨he, hw⟩ => ⟨he, by rw [hw]; simpa using hown, by rw [hw]; exact World.grownBy.refl _ _⟩
  · have hv : v ≠ .slice none 0 0 := by
      rintro rfl
      rcases hown.2 with ⟨_, h2⟩ | ⟨g, cap, cur, h1, _⟩
      · exact h0 (by simpa using h2)
      · cases h1
    obtain ⟨g, cap, rfl, hb, hlt, hnc, hcm, hl, hH⟩ := holds_of_ownsRow hown hv
    have hC := Try.slices_Sort_string g 0 cap L W hH hlt (by omega)
    have hlen : (L.mergeSort leB).length = L.length := (List.mergeSort_perm L leB).length_eq
    refine hC.mono fun e w' ⟨he, n, os, hw⟩ => ⟨he, ?_, ?_⟩
    · rw [hw]
      have h1 := ownsRow_putRow (q := n) (ys := L.mergeSort leB) hown hlen (Nat.le_refl _)
      rw [List.take_of_length_le (Nat.le_of_eq hlen)] at h1
      exact h1.kept (grownBy_grow' (World.grownBy.refl _ none) os) (.inr (by simp [Value.ownBlock]))
    · rw [hw]
      exact grownBy_grow' (grownBy_put' _ _ _ _ _) os
theorem compactStr_own {W : World} {B : Nat} {v : Value} {L : List (List UInt8)} (hown : W.ownsRow B 9 1 v L.length (L.map encStr)) (hn : L.length ≤ 1000000) :
    Calls Try.prog 137 #[v] W fun e w' => ∃ a c, e = .returned (.slice a (Lib.compact L).length c) ∧ W.grownBy w' v.ownBlock := by
  by_cases h0 : L.length = 0
  · have hl : L = [] := List.eq_nil_of_length_eq_zero h0
    subst hl
    obtain ⟨a, cap, rfl⟩ := str_nil_or hown rfl
    exact (Try.slices_Compact_string_empty a cap W).mono fun e w' ⟨he, hw⟩ => ⟨a, cap, he, by rw [hw]; exact World.grownBy.refl _ _⟩
  · have hv : v ≠ .slice none 0 0 := by
      rintro rfl
      rcases hown.2 with ⟨_, h2⟩ | ⟨g, cap, cur, h1, _⟩
      · exact h0 (by simpa using h2)
      · cases h1
    obtain ⟨g, cap, rfl, hb, hlt, hnc, hcm, hl, hH⟩ := holds_of_ownsRow hown hv
    exact (Try.slices_Compact_string g 0 cap L W hH (by omega) hnc).mono fun e w' ⟨he, q, hw⟩ => ⟨_, _, he, by rw [hw]; exact grownBy_put' _ _ _ _ _⟩
set_option maxRecDepth 10000 in
theorem sorted_any (Bs : Nat) (sv : Value) (zs : List ByteArray) (hreach : zs.length ≤ 1000000) (w : World) (hBs : Bs < w.heap.size) (hc : w.cell? ⟨Bs, 0, none⟩ = some sv) (hI : RSs w [sv] zs) :
    Calls Try.prog 135 #[.func (.func 154) #[] #[.pointer (some ⟨Bs, 0, none⟩)]] w fun e W' => ∃ v, e = .returned v ∧ W'.ownsRow w.heap.size 9 1 v zs.length (((zs.map (·.data.toList)).mergeSort leB).map encStr) ∧ Below w.heap.size w W' := by
  have hA := collect_any Bs sv zs hreach w hBs hc hI
  have HA := Lib.hid hA; have Hc := Lib.hid hc; have HI := Lib.hid hI; have HBs := Lib.hid hBs; clear hA hc hI hBs
  go_enter Try.func135, Try.ntmps135
  go_wp2_with fail
  refine HA.out.mono ?_
  rintro e w1 ⟨v, rfl, h1, h2⟩
  rw [← map_encStr] at h1
  have h1' : w1.ownsRow w.heap.size 9 1 v (zs.map (·.data.toList)).length ((zs.map (·.data.toList)).map encStr) := by rw [List.length_map]; exact h1
  have hS := sortStr_own h1' (by rw [List.length_map]; exact hreach)
  rw [List.length_map] at hS
  have H1 := Lib.hid h1; have H1' := Lib.hid h1'; have H2 := Lib.hid h2; have HS := Lib.hid hS; clear h1 h1' h2 hS
  go_wp2_with fail
  refine HS.out.mono ?_
  rintro e w2 ⟨rfl, h3, h4⟩
  have hb := bel_own H2.out H1'.out (Nat.le_refl _) h4 H2.out.size
  have H3 := Lib.hid h3; have H4 := Lib.hid h4; have Hb := Lib.hid hb; clear h3 h4 hb
  go_wp2_with fail
  go_ret
  exact ⟨v, rfl, H3.out, Hb.out⟩
set_option maxRecDepth 10000 in
theorem values_any (a : Option Addr) (n c : Nat) (w : World) : Calls Try.prog 136 #[.slice a n c] w fun e w' => e = .returned (.func (.func 154) #[] #[.pointer (some ⟨w.heap.size, 0, none⟩)]) ∧ w' = w.alloc (.cells #[.slice a n c] 33) := by
  go_enter Try.func136, Try.ntmps136
  go_wp2_with fail
  go_ret
  exact ⟨rfl, rfl⟩
set_option maxRecDepth 10000 in
theorem twice_any {w : World} {v : Value} {l : List ByteArray} (h : RSs w [v] l) (hn : l.length ≤ 1000000) : Calls Try.prog 105 #[v] w fun e w' => e = .returned (.bool (!decide l.Nodup)) ∧ Below w.heap.size w w' := by
  obtain ⟨a, cap, rfl, hz, g⟩ := strs_open h
  have hbx : Below w.heap.size w (w.alloc (.cells #[.slice a l.length cap] 33)) := below_alloc1 _ _
  have hS := sorted_any w.heap.size (.slice a l.length cap) l hn (w.alloc (.cells #[.slice a l.length cap] 33)) (by simp) (by rw [World.cell?_alloc_new]; rfl) (stays_slice stays_str _ _ _ _ h hbx)
  rw [← TwiceM.twice_iff]
  obtain ⟨n, hnn⟩ : ∃ n, n = l.length := ⟨_, rfl⟩
  obtain ⟨r, hr⟩ : ∃ r, r = twiceOf l := ⟨_, rfl⟩
  have hr2 : r = decide ((Lib.compact ((l.map (·.data.toList)).mergeSort leB)).length < n) := by rw [hr, hnn]; rfl
  rw [← hnn] at hS hn hz hbx ⊢
  rw [← hr]
  have Hh := Lib.hid h; have Hg := Lib.hid g; have HS := Lib.hid hS; have Hbx := Lib.hid hbx; have Hnn := Lib.hid hnn; have Hr := Lib.hid hr; have Hr2 := Lib.hid hr2; clear h g hS hbx hnn hr hr2
  go_enter Try.func105, Try.ntmps105
  go_wp2_with fail
  refine (values_any a n cap w).mono ?_
  rintro e w1 ⟨rfl, rfl⟩
  go_wp2_with fail
  refine HS.out.mono ?_
  rintro e w2 ⟨v2, rfl, h2, hb2⟩
  have hlen : ((l.map (·.data.toList)).mergeSort leB).length = n := by rw [(List.mergeSort_perm _ _).length_eq, List.length_map, Hnn.out]
  have h2' := h2
  rw [← hlen] at h2'
  have hC := compactStr_own h2' (by rw [hlen]; exact hn)
  obtain ⟨m, hm⟩ : ∃ m, m = (Lib.compact ((l.map (·.data.toList)).mergeSort leB)).length := ⟨_, rfl⟩
  rw [← hm] at hC
  have hr3 : r = decide (m < n) := by rw [hm]; exact Hr2.out
  have hbw := Hbx.out.trans (hb2.mono Hbx.out.size)
  have H2 := Lib.hid h2; have H2' := Lib.hid h2'; have Hb2 := Lib.hid hb2; have HC := Lib.hid hC; have Hm := Lib.hid hm; have Hlen := Lib.hid hlen; have Hr3 := Lib.hid hr3; have Hbw := Lib.hid hbw; clear h2 h2' hb2 hC hm hlen hr3 hbw
  go_wp2_with fail
  refine HC.out.mono ?_
  rintro e w3 ⟨a3, c3, rfl, hg3⟩
  have hb3 := bel_own Hbw.out (ownsRow_mono H2.out Hbx.out.size) (Nat.le_refl _) hg3 Hbw.out.size
  have Hg3 := Lib.hid hg3; have Hb3 := Lib.hid hb3; clear hg3 hb3
  go_wp2_with fail
  go_ret
  exact ⟨ret_bool (by rw [Hr3.out, decide_eq_decide]), Hb3.out⟩
end Go.Proofs.Ytnelgellbabkoaa
