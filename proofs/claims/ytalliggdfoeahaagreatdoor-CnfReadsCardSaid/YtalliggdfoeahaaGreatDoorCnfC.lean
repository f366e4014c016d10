/- The walks of a builder's Clauses, and of the chapter's example (cooperlaw12.fixed). Condition: few clauses. -/
import Derived.Test.YtalliggdfoeahaaGreatDoorCnfB
set_option linter.unusedVariables false
set_option linter.unusedSimpArgs false
namespace Go.Proofs.YtalliggdfoeahaaGreatDoor
open Go.RowKit Go.Lib Go.Sort

def ClPost (w : World) (l : List (List Int)) (e : Ending) (w' : World) : Prop := ∃ v vs, e = .returned v ∧ Rws w.heap.size w' v vs l ∧ Below w.heap.size w w'
set_option maxRecDepth 10000 in
set_option maxHeartbeats 1000000 in
theorem clauses_any {w0 w : World} {x : Nat} {l : List (List Int)} (h : BldSt w0 x l w) (hl : l.length ≤ 1000) (hlen : ∀ f ∈ l, f.length ≤ 1000) (hw : ∀ f ∈ l, ∀ x ∈ f, -9223372036854775808 ≤ x ∧ x ≤ 9223372036854775807) :
    Calls Tryz.prog 11 #[bldp x] w (ClPost w l) := by
  obtain ⟨v, vs, h⟩ := h
  have hrd := h.rws.reads hw
  obtain ⟨a, cap, rfl, hz, g⟩ := rows_open hrd
  have c0 := cells_at h.cells 0
  simp only [List.getElem?_toArray, List.getElem?_cons_zero] at c0
  obtain ⟨n, hn⟩ : ∃ n, n = l.length := ⟨_, rfl⟩
  rw [← hn] at c0 hl hz
  have Hh := Lib.hid h; have Hrd := Lib.hid hrd; have Hg := Lib.hid g; have Hn := Lib.hid hn; have Hlen := Lib.hid hlen; have Hw := Lib.hid hw; clear h hrd g hn hlen hw
  go_enter Tryz.func11, Tryz.ntmps11
  go_wp2_with fail
  go_loopw [3, 13] (fun o i wr => ∃ k : Nat, k ≤ n ∧ i = .int .i64 k ∧ (∃ us, Rws w.heap.size wr o us (l.take k)) ∧ Below w.heap.size w wr) (fun _ i _ => n - (intOf i).toNat)
  case atStart => exact ⟨0, Nat.zero_le _, rfl, ⟨[], by simpa using Rws.nil _ _⟩, Below.refl _ _⟩
  case round =>
    obtain ⟨k, hk, rfl, ⟨us, hr⟩, hb⟩ := hrel
    have hrow := hr.row
    obtain ⟨oa, oc, rfl⟩ := own_shape hrow
    have hlk : (l.take k).length = k := by rw [List.length_take]; have := Hn.out; omega
    rw [hlk] at hrow ⊢
    have hB := hb.size
    by_cases hlt : k < n
    · have hkl : k < l.length := by have := Hn.out; omega
      obtain ⟨b, off, u, rfl, d, hu⟩ := Hg.out k hkl
      have d1 := cell_later hb d
      obtain ⟨f, hf⟩ : ∃ f, f = l[k] := ⟨_, rfl⟩
      rw [← hf] at hu
      have hfl : f ∈ l := by rw [hf]; exact List.getElem_mem hkl
      have hC := clone_own (stays_slice (stays_int .i64) _ _ _ _ hu hb) (by have := Hlen.out f hfl; omega)
      have k5 : (0 : Int) ≤ (k : Int) := by omega
      have k6 : (k : Int) < (n : Int) := by omega
      have ht : l.take (k + 1) = l.take k ++ [f] := by rw [List.take_succ_eq_append_getElem hkl, hf]
      have Hr := Lib.hid hr; have Hrow := Lib.hid hrow; have Hb := Lib.hid hb; have Hd := Lib.hid d; have Hu := Lib.hid hu; have Hf := Lib.hid hf; have HC := Lib.hid hC; have Hfl := Lib.hid hfl; have Ht := Lib.hid ht; have Hlk := Lib.hid hlk; clear hr hrow hb d hu hf hC hfl ht hlk
      go_wp2_with fail
      refine HC.out.mono ?_
      rintro e w1 ⟨v1, rfl, ho1, hb1⟩
      obtain ⟨va, vc, rfl⟩ := own_shape ho1
      obtain ⟨m, hm⟩ : ∃ m, m = f.length := ⟨_, rfl⟩
      rw [← hm]
      have hr1 := Hr.out.below hb1
      have hrow1 := ownsRow_below Hrow.out hb1
      have hB1 : w.heap.size ≤ w1.heap.size := by have := hb1.size; omega
      have hbw := Hb.out.trans (hb1.mono hB)
      have ho1' := ownsRow_mono ho1 hB
      have Ho1 := Lib.hid ho1; have Hb1 := Lib.hid hb1; have Hm := Lib.hid hm; have Hr1 := Lib.hid hr1; have Hrow1 := Lib.hid hrow1; have Hbw := Lib.hid hbw; have Ho1' := Lib.hid ho1'; clear ho1 hb1 hm hr1 hrow1 hbw ho1'
      go_wp2_with (at_builtin; (refine wpList_append_some elem_ints rfl (.tmp 17) (.tmp 20) rfl w.heap.size (.slice oa k oc) k us rfl Hrow1.out 1 (by decide) #[.slice va m vc] rfl rfl (by simp [Value.oneCell']) (by omega) (by unfold maxLen; omega) hB1 ?_; intro g8 c8 w8 hown8 hg8 hm8))
      have hpush := Hr1.out.push (f := f) (u := .slice va f.length vc) Ho1'.out (by rw [Hlk.out]; have := hown8; rw [Hm.out] at this; exact this) (by rw [Hlk.out]; exact hg8)
      have hbel8 := bel_own Hbw.out Hrow1.out (Nat.le_refl _) hg8 hB1
      have Hown8 := Lib.hid hown8; have Hg8 := Lib.hid hg8; have Hpush := Lib.hid hpush; have Hbel8 := Lib.hid hbel8; clear hown8 hg8 hpush hbel8
      clear hm8
      go_wp2_with fail
      go_roundw
      case rel => exact ⟨k + 1, by omega, by go_num, ⟨_, by rw [Ht.out]; exact Hpush.out⟩, Hbel8.out⟩
      case measure => simp [intOf]; omega
    · have ht : l.take k = l := List.take_of_length_le (by have := Hn.out; omega)
      rw [ht] at hr
      have hkl : k = l.length := by have := Hn.out; omega
      have Hr := Lib.hid hr; have Hrow := Lib.hid hrow; have Hb := Lib.hid hb; have Ht := Lib.hid ht; have Hlk := Lib.hid hlk; have Hkl := Lib.hid hkl; clear hr hrow hb ht hlk hkl
      go_wp2_with fail
      go_ret
      exact ⟨_, _, rfl, by have := Hr.out; rw [← Hkl.out] at this; exact this, Hb.out⟩
def ex12 : List (List Int) := [[1, 2], [-1, -2]]
set_option maxRecDepth 10000 in
theorem new_any (w : World) : Calls Tryz.prog 8 #[] w fun e w' => e = .returned (bldp w.heap.size) ∧ BldSt w w.heap.size [] w' ∧ w'.heap.size = w.heap.size + 1 := by
  go_enter Tryz.func8, Tryz.ntmps8
  go_wp2_with fail
  go_ret
  exact ⟨rfl, ⟨_, _, heap_alloc_new _ _, Rws.nil _ _, below_alloc1 _ _, Nat.le_refl _⟩, by simp⟩
/-- two literal slices of two, in a literal slice -/
theorem reads_pair {w : World} {g i j : Nat} {a b c d : Int} (h : w.heap[g]? = some (.cells #[.slice (some ⟨i, 0, none⟩) 2 2, .slice (some ⟨j, 0, none⟩) 2 2] 34 (0, 0))) (h1 : RIs w [.slice (some ⟨i, 0, none⟩) 2 2] [a, b]) (h2 : RIs w [.slice (some ⟨j, 0, none⟩) 2 2] [c, d]) : RIss w [.slice (some ⟨g, 0, none⟩) 2 2] [[a, b], [c, d]] := by
  refine ⟨_, _, rfl, Nat.le_refl _, by decide, fun k x hk => ?_⟩
  match k, hk with
  | 0, hk =>
    simp at hk; subst hk
    refine ⟨g, 0, [_], rfl, rfl, fun j u hu => ?_, h1⟩
    match j, hu with
    | 0, hu => simp at hu; subst hu; simpa using cells_at h 0
  | 1, hk =>
    simp at hk; subst hk
    refine ⟨g, 0, [_], rfl, rfl, fun j u hu => ?_, h2⟩
    match j, hu with
    | 0, hu => simp at hu; subst hu; simpa using cells_at h 1
set_option maxRecDepth 10000 in
set_option maxHeartbeats 1000000 in
theorem fixed12 (w : World) : Calls Tryz.prog 4 #[] w fun e w' => e = .returned (.bool true) ∧ Below w.heap.size w w' := by
  have hO := fun (W : World) (hW : BldSt w w.heap.size [] W) (hz : W.heap.size = w.heap.size + 1) => one_ex (g := W.heap.size) (hW.below (below_alloc1 W (.cells #[.int .i64 1, .int .i64 2] 3))) (heap_alloc_new _ _) (by omega) (by omega)
  have hC := fun (W : World) (hW : BldSt w w.heap.size ex12 W) => clauses_any hW (by decide) (by decide) (by decide)
  have hN := new_any w
  have HN := Lib.hid hN; have HO := Lib.hid hO; have HC := Lib.hid hC; clear hN hO hC
  go_enter Tryz.func4, Tryz.ntmps4
  go_wp2_with fail
  refine HN.out.mono ?_
  rintro e W0 ⟨rfl, h0, hz0⟩
  have hO1 := HO.out W0 h0 hz0
  have HO1 := Lib.hid hO1; have H0 := Lib.hid h0; have Hz0 := Lib.hid hz0; clear hO1 h0 hz0
  go_wp2_with fail
  refine HO1.out.mono ?_
  rintro e W1 ⟨rfl, h1, _⟩
  have hC1 := HC.out W1 h1
  have HC1 := Lib.hid hC1; have H1 := Lib.hid h1; clear hC1 h1
  go_wp2_with fail
  refine HC1.out.mono ?_
  rintro e W2 ⟨v2, vs2, rfl, h2, hb2⟩
  have hr2 : RIss W2 [v2] ex12 := h2.reads (by decide)
  have hbw : Below w.heap.size w W2 := by obtain ⟨_, _, h⟩ := H1.out; exact h.bel.trans (hb2.mono h.bel.size)
  have hS := fun (W : World) (hW : Below W2.heap.size W2 W) (v : Value) (hv : RIss W [v] ex12) => sameAll12_any (stays_slice (stays_slice (stays_int .i64)) _ _ _ _ hr2 hW) hv
  rw [decide_eq_true rfl] at hS
  have H2 := Lib.hid h2; have Hb2 := Lib.hid hb2; have Hr2 := Lib.hid hr2; have Hbw := Lib.hid hbw; have HS := Lib.hid hS; clear h2 hb2 hr2 hbw hS
  go_wp2_with fail
  refine (HS.out _ ?c1 _ ?c2).mono ?_
  case c1 => exact (((Below.refl _ _).alloc (Nat.le_refl _) _).alloc (by simp) _).alloc (by simp; omega) _
  case c2 =>
    refine reads_pair (heap_new_at (by simp)) ?_ ?_
    · exact stays_slice (stays_int .i64) _ _ _ _ (stays_slice (stays_int .i64) _ _ _ _ (reads_two (Nat.le_refl _) (by decide) (heap_alloc_new _ _) (by omega) (by omega)) (below_alloc1 _ _)) (below_alloc1 _ _)
    · exact stays_slice (stays_int .i64) _ _ _ _ (reads_two (Nat.le_refl _) (by decide) (heap_new_at (by simp)) (by omega) (by omega)) (below_alloc1 _ _)
  rintro e w3 ⟨rfl, q, rfl⟩
  go_wp2_with fail
  go_ret
  exact ⟨rfl, bel_drewN (((Hbw.out.alloc Hbw.out.size _).alloc (by have := Hbw.out.size; simp; omega) _).alloc (by have := Hbw.out.size; simp; omega) _) _⟩
end Go.Proofs.YtalliggdfoeahaaGreatDoor
